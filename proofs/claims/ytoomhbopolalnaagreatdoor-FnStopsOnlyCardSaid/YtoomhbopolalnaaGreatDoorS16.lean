/- The laws of parts as plain laws of data. -/
import Derived.Test.YtoomhbopolalnaaGreatDoorS15
set_option linter.all false
set_option maxRecDepth 100000
namespace Go.Proofs.YtoomhbopolalnaaGreatDoor
variable {x:Call}{p:Part}
section
open Go.RowKit Go
variable [GC]
def ax0(h:dw p=false\/gy x=false):fX p x=(p,rep 7 0 0 0):=by unfold fX;rw[aD h]
def ax1(h:dw p=true)(hx:gy x=true)(ho:cm (fc p) (bY x.method)=false):fX p x=(p,rep 1 0 (bY x.method) (fc p)):=by unfold fX;rw[aw (by simp[h,hx]),aD ho]
def ax3(h:dw p=true)(hx:gy x=true)(ho:cm (fc p) (bY x.method)=true):fX p x=bi p.ai.length p x:=by unfold fX;rw[aw (by simp[h,hx]),aw (by simp[ho])]
def ax2(h:dw p=true)(hx:gy x=true)(ho:cm (fc p) (bY x.method)=true):LN p (fX p x):=by rw[ax3 h hx ho];exact Ag _ p x h (bK _) hx ho
def MK(h:dw p=true)(x:Call):dw (fX p x).1=true/\kO p (fX p x).1:=by
 by_cases a:gy x=true
 ·by_cases o:cm (fc p) (bY x.method)=true
  ·have:=ax2 h a o;exact⟨this.1,this.2.1⟩
  ·rw[ax1 h a (by simpa using o)];exact⟨h,kO.refl _⟩
 ·rw[ax0 (.inr (by simpa using a))];exact⟨h,kO.refl _⟩
def aKB{s:ByteArray}(h:(kL p s).2.code=0):dw p=true/\pG s=true/\p.ai.length<3/\cm (fc p) (mJ s)=true/\(kL p s).1=Bg p [⟨s,0⟩]/\dw (Bg p [⟨s,0⟩])=true:=by
 unfold kL at h ⊢;split at h
 ·simp[rep]at h
 rename_i d;split at h
 ·simp[rep]at h
 rename_i f;split at h
 ·simp[rep]at h
 rename_i a;rw[aw d,aw f,aw a];have b:dw p=true:=by grind
 have c:pG s=true:=by grind
 have o:cm (fc p) (mJ s)=true:=by simpa using a
 refine⟨b,c,by omega,o,rfl,?_⟩;obtain⟨q1,q2,q3⟩:=pK.1 b;refine pK.2 ⟨q1,by simp[Bg];omega,fun i g=> ?_⟩;have j:i<p.ai.length+1:=by simpa[Bg]using g
 have k:fQ (Bg p [⟨s,0⟩]) i=fQ p i:=by
  unfold fQ Bg;split
  ·rfl
  ·rw[als (by omega)]
 rw[k];by_cases e:i<p.ai.length
 ·have:nth (Bg p [⟨s,0⟩]).ai i=nth p.ai i:=als e;rw[this];exact q3 i e
 ·have e:i=p.ai.length:=by omega
  subst e;have:nth (Bg p [⟨s,0⟩]).ai p.ai.length=⟨s,0⟩:=by simp[Bg,nth]
  rw[this];exact⟨c,o,(by decide:gM 0=true),.inl rfl⟩
end
variable {a:Nat}{S:Nat->Nat->Bool}
section
def O5(S:Nat->Nat->Bool)(i j:Nat)(b:Bool):Nat->Nat->Bool:=fun a c=>if a=i/\c=j then b else S a c
def vN(k i:Nat)(S:Nat->Nat->Bool):Nat->Nat->Nat->Bool
 |0=>S
 |j+1=>O5 (vN k i S j) i j (vN k i S j i j||(vN k i S j i k&&vN k i S j k j))
def zG(n k:Nat)(S:Nat->Nat->Bool):Nat->Nat->Nat->Bool
 |0=>S
 |i+1=>vN k i (zG n k S i) n
def Bj(n:Nat)(S:Nat->Nat->Bool):Nat->Nat->Nat->Bool
 |0=>S
 |k+1=>zG n k (Bj n S k) n
def Ep(S:Nat->Nat->Bool)(k a b:Nat):Bool:=S a b||(S a k&&S k b)
def Nc(k i:Nat)(S:Nat->Nat->Bool):∀(j a b:Nat),vN k i S j a b=if a=i/\b<j then Ep S k a b else S a b
 |0,a,b=>by simp[vN]
 |j+1,a,b=>by
  have h1:vN k i S j i k=S i k:=by
   rw[Nc k i S j];split
   ·unfold Ep;cases S i k<;>simp
   ·rfl
  have e:∀c,vN k i S j k c=S k c:=by
   intro c;rw[Nc k i S j];split
   ·rename_i h;unfold Ep;cases S k c<;>simp
   ·rfl
  simp only[vN,O5];by_cases h:a=i/\b=j
  ·obtain⟨rfl,rfl⟩:=h;rw[aD ⟨rfl,rfl⟩,aD ⟨rfl,QZ _⟩,h1,e,Nc k a S b,aw (by omega)];rfl
  ·rw[aw h,Nc k i S j];by_cases d:a=i/\b<j
   ·rw[aD d,aD ⟨d.1,by omega⟩]
   ·rw[aw d,aw (by omega)]
def aJ1(S:Nat->Nat->Bool)(k b:Nat):Ep S k k b=S k b:=by unfold Ep;cases S k b<;>simp
def Nb(n k:Nat)(S:Nat->Nat->Bool):∀(i a b:Nat),zG n k S i a b=if a<i/\b<n then Ep S k a b else S a b
 |0,a,b=>by simp[zG]
 |i+1,a,b=>by
  have h2:∀c,zG n k S i k c=S k c:=by
   intro c;rw[Nb n k S i];split
   ·exact aJ1 S k c
   ·rfl
  simp only[zG];rw[Nc];by_cases h:a=i/\b<n
  ·obtain⟨rfl,e⟩:=h;rw[aD ⟨rfl,e⟩,aD ⟨QZ _,e⟩];unfold Ep;rw[h2,Nb n k S a,aw (by omega),Nb n k S a,aw (by omega)]
  ·rw[aw h,Nb n k S i];by_cases d:a<i/\b<n
   ·rw[aD d,aD ⟨by omega,d.2⟩]
   ·rw[aw d,aw (by omega)]
inductive Way(S:Nat->Nat->Bool)(k:Nat):Nat->Nat->Prop
 |edge {a b:Nat} (h:S a b=true):Way S k a b
 |step {a m b:Nat} (hm:m<k) (h1:Way S k a m) (h2:Way S k m b):Way S k a b
def Way.mono{k d:Nat}(e:k<=d){a b:Nat}(h:Way S k a b):Way S d a b:=by
 induction h with
 |edge h=>exact .edge h
 |step m _ _ i c=>exact .step (by omega) i c
def aKw{k b:Nat}:Way S (k+1) a b↔Way S k a b\/(Way S k a k/\Way S k k b):=by
 constructor
 ·intro h;induction h with
  |edge h=>exact .inl (.edge h)
  |@step a m b o _ _ i g=>
   by_cases e:m=k
   ·subst e;have l:Way S m a m:=i.elim id fun h=>h.1;have r:Way S m m b:=g.elim id fun h=>h.2;exact .inr ⟨l,r⟩
   ·have c:m<k:=by omega
    rcases i with d|⟨d,n⟩<;>rcases g with f|⟨f,j⟩
    ·exact .inl (.step c d f)
    ·exact .inr ⟨.step c d f,j⟩
    ·exact .inr ⟨d,.step c n f⟩
    ·exact .inr ⟨d,j⟩
 ·rintro (h|⟨d,f⟩)
  ·exact h.mono (by omega)
  ·exact .step (QZ k) (d.mono (by omega)) (f.mono (by omega))
def aKx{b:Nat}:Way S 0 a b↔S a b=true:=by
 constructor
 ·intro h;cases h with
  |edge h=>exact h
  |step m=>omega
 ·exact .edge
def Tt(n:Nat)(S:Nat->Nat->Bool):∀(k:Nat),k<=n->∀a b,a<n->b<n->(Bj n S k a b=true↔Way S k a b)
 |0,_,a,b,_,_=>by rw[aKx];rfl
 |k+1,h,a,b,ha,hb=>by simp only[Bj];rw[Nb,aD ⟨ha,hb⟩,aKw];unfold Ep;have i:=Tt n S k (by omega) a b ha hb;have c:=Tt n S k (by omega) a k ha (by omega);have d:=Tt n S k (by omega) k b (by omega) hb;simp only[jY,aY,i,c,d]
section
variable {α:Type}[DecidableEq α]
structure Ord(lt:α->α->Bool):Prop where
 Uv:∀a,lt a a=false
 tr:∀{a b c},lt a b=true->lt b c=true->lt a c=true
 tot:∀{a b},lt a b=false->a≠b->lt b a=true
def mi(lt:α->α->Bool)(l:List α):Prop:=l.Pairwise fun a b=>lt a b=true
variable {lt:α->α->Bool}
def RU(ho:Ord lt):∀{a b:List α},mi lt a->mi lt b->(∀x,x∈a↔x∈b)->a=b
 |[],[],_,_,_=>rfl
 |[],y::b,_,_,h=>by have:=(h y).2 (by simp);simp at this
 |x::a,[],_,_,h=>by have:=(h x).1 (by simp);simp at this
 |x::a,y::b,c,d,h=>by
  unfold mi at c d;rw[List.pairwise_cons]at c d;have e:x=y:=by
   refine Yp fun n=> ?_;have i:x∈b:=by
    have:=(h x).1 (by simp);rcases fw.1 this with h|h
    ·exact absurd h n
    ·exact h
   have j:y∈a:=by
    have:=(h y).2 (by simp);rcases fw.1 this with h|h
    ·exact absurd h.symm n
    ·exact h
   have g:=ho.tr (c.1 y j) (d.1 x i);rw[ho.Uv]at g;cases g
  subst e;rw[RU ho c.2 d.2 fun z=> ?_];have f:=h z;simp only[fw]at f;constructor
  ·intro m;rcases f.1 (.inr m)with rfl|h
   ·have:=c.1 z m;rw[ho.Uv]at this;cases this
   ·exact h
  ·intro m;rcases f.2 (.inr m)with rfl|h
   ·have:=d.1 z m;rw[ho.Uv]at this;cases this
   ·exact h
def I4{l:List α}{x:α}(h:mi lt l)(hx:∀y∈l,lt y x=true):mi lt (l++[x]):=by unfold mi at *;rw[List.pairwise_append];exact⟨h,by simp,fun a d b c=>by simp at c;subst c;exact hx a d⟩
def RV(ho:Ord lt){l:List α}(h:mi lt l):l.Nodup:=by unfold mi at h;exact h.imp fun {a b} c e=>by subst e;rw[ho.Uv]at c;cases c
variable [Inhabited α]
def gA(lt:α->α->Bool)(l:List α)(s:α):Nat->List α×Bool
 |0=>([],false)
 |k+1 =>
  if(gA lt l s k).2 then((gA lt l s k).1++[l.getD k default],true)
  else if lt (l.getD k default) s then((gA lt l s k).1++[l.getD k default],false)
  else if l.getD k default=s then((gA lt l s k).1++[l.getD k default],true)
  else((gA lt l s k).1++[s]++[l.getD k default],true)
def xF(lt:α->α->Bool)(l:List α)(s:α):List α:=if(gA lt l s l.length).2 then(gA lt l s l.length).1 else(gA lt l s l.length).1++[s]
def acD(l:List α)(s:α):∀k,(gA lt l s k).1.length<=k+(if(gA lt l s k).2 then 1 else 0)
 |0=>by simp[gA]
 |k+1=>by
  have:=acD l s k;simp only[gA];repeat' split
  all_goals simp_all
  all_goals (try split at this)
  all_goals omega
def al4(l:List α)(s:α):(xF lt l s).length<=l.length+1:=by have:=acD (lt:=lt) l s l.length;unfold xF;split<;>simp_all
def al7(l:List α)(s y:α):∀k,(y∈(gA lt l s k).1\/y=s)↔(∃i,i<k/\l.getD i default=y)\/y=s
 |0=>by simp[gA]
 |k+1=>by
  have ih:=al7 l s y k;have e:(∃i,i<k+1/\l.getD i default=y)↔(∃i,i<k/\l.getD i default=y)\/l.getD k default=y:=by
   constructor
   ·rintro⟨i,a,h⟩;by_cases e:i=k
    ·subst e;exact .inr h
    ·exact .inl ⟨i,by omega,h⟩
   ·rintro (⟨i,a,h⟩|h)
    ·exact⟨i,by omega,h⟩
    ·exact⟨k,by omega,h⟩
  rw[e];clear e;simp only[gA];generalize (∃i,i<k/\l.getD i default=y)=P at *;generalize l.getD k default=z at *;repeat' split
  all_goals simp only[iV,mP]
  all_goals grind
def al6(l:List α)(s:α):∀k,(gA lt l s k).2=true->s∈(gA lt l s k).1
 |0,h=>by simp[gA]at h
 |k+1,h=>by
  have ih:=al6 l s k;simp only[gA]at h ⊢;repeat' split at h
  all_goals simp_all
def DX(l:List α)(s y:α):y∈xF lt l s↔y∈l\/y=s:=by
 have b:=al7 (lt:=lt) l s y l.length;have e:(∃i,i<l.length/\l.getD i default=y)↔y∈l:=by
  constructor
  ·rintro⟨i,a,rfl⟩;rw[kQ,bX a];simp
  ·intro h;obtain⟨i,a,rfl⟩:=AQ h;exact⟨i,a,by rw[kQ,bX a];simp⟩
 rw[e]at b;have c:=al6 (lt:=lt) l s l.length;unfold xF;split
 ·rename_i d;have:=c d;grind
 ·rw[iV,mP];exact b
def al5(ho:Ord lt){l:List α}(h:mi lt l)(s:α):∀k,k<=l.length->mi lt (gA lt l s k).1/\(∀y∈(gA lt l s k).1,∀i,k<=i->i<l.length->lt y (l.getD i default)=true)/\((gA lt l s k).2=false->∀y∈(gA lt l s k).1,lt y s=true)
 |0,_=>⟨by simp[gA,mi],by simp[gA],by simp[gA]⟩
 |k+1,o=>by
  obtain⟨h1,h2,j⟩:=al5 ho h s k (by omega);have t:∀i,k<i->i<l.length->lt (l.getD k default) (l.getD i default)=true:=by intro i e a;have:=YB.1 h k i (by omega) a e;simpa[kQ,a,show k<l.length by omega]using this
  have c:∀y∈(gA lt l s k).1,lt y (l.getD k default)=true:=fun y b=>h2 y b k (bK _) (by omega);generalize m:l.getD k default=z at *;simp only[gA,m];split
  ·refine⟨I4 h1 c,?_,by simp⟩;intro y b i e a;rw[iV,mP]at b;rcases b with b|rfl
   ·exact h2 y b i (by omega) a
   ·exact t i (by omega) a
  ·rename_i g;have g:(gA lt l s k).2=false:=by simpa using g
   split
   ·rename_i d;refine⟨I4 h1 c,?_,?_⟩
    ·intro y b i e a;rw[iV,mP]at b;rcases b with b|rfl
     ·exact h2 y b i (by omega) a
     ·exact t i (by omega) a
    ·intro _ y b;rw[iV,mP]at b;rcases b with b|rfl
     ·exact j g y b
     ·exact d
   ·rename_i d;split
    ·refine⟨I4 h1 c,?_,by simp⟩;intro y b i e a;rw[iV,mP]at b;rcases b with b|rfl
     ·exact h2 y b i (by omega) a
     ·exact t i (by omega) a
    ·rename_i n;have f:lt s z=true:=ho.tot (by simpa using d) n;refine⟨I4 (I4 h1 (j g)) ?_,?_,by simp⟩
     ·intro y b;rw[iV,mP]at b;rcases b with b|rfl
      ·exact c y b
      ·exact f
     ·intro y b i e a;simp only[iV,mP]at b;rcases b with (b|rfl)|rfl
      ·exact h2 y b i (by omega) a
      ·exact ho.tr f (t i (by omega) a)
      ·exact t i (by omega) a
def al3(ho:Ord lt){l:List α}(h:mi lt l)(s:α):mi lt (xF lt l s):=by
 obtain⟨a,c,b⟩:=al5 ho h s l.length (bK _);unfold xF;split
 ·exact a
 ·rename_i d;exact I4 a (b (by simpa using d))
end
end
variable {b:ByteArray}{i j n:Nat}{f:Nat->Bool}{α:Type}
section
open Go.RowKit Go
variable [GC]
def rowsOf(f:Nat->D)(n:Nat):List (List D):=(List.range n).map fun a=>[f a]
@[simp] def aMn (f:Nat->D) (n:Nat):(rowsOf f n).length=n:=by simp[rowsOf]
def Kq{f:Nat->D}(h:i<n)(z:List D):((rowsOf f n)[i]?).getD z=[f i]:=by simp[rowsOf,h]
def yX{f g:Nat->D}(h:∀a,a<n->f a=g a):rowsOf f n=rowsOf g n:=by unfold rowsOf;exact Fe fun a b=>by rw[h a (by simpa using b)]
def Vw(x:D)(n:Nat):List.replicate n [x]=rowsOf (fun _=>x) n:=by
 apply zx;intro i;by_cases h:i<n
 ·simp[rowsOf,List.getElem?_replicate,h]
 ·rw[nB (by simp;omega),nB (by simp;omega)]
def OJ(f:Nat->D)(n i:Nat)(x:D):oT (rowsOf f n) i 0 [x]=rowsOf (fun a=>if a=i then x else f a) n:=by
 unfold oT;apply zx;intro j;rw[C6];by_cases b:j<n
 ·by_cases e:i=j
  ·subst e;simp[rowsOf,b,List.getD,xJ]
  ·rw[aw e];simp[rowsOf,b];intro h;exact absurd h.symm e
 ·by_cases e:i=j
  ·subst e;rw[aD rfl,aw (by simp;omega),nB (by simp;omega)]
  ·rw[aw e,nB (by simp;omega),nB (by simp;omega)]
def dJ(n:Nat)(f:Nat->Bool):D:=.sl (rowsOf (fun j=>.bool (f j)) n)
def jK(n:Nat)(S:Nat->Nat->Bool):D:=.sl (rowsOf (fun i=>dJ n (S i)) n)
def I6(n:Nat)(f:Nat->Bool)(i:Nat)(b:Bool):D.sl (oT (dJ n f).lO i 0 [.bool b])=dJ n (fun a=>if a=i then b else f a):=by unfold dJ;rw[AB,OJ];congr 1;refine yX fun a _=> ?_;show _=D.bool (if a=i then b else f a);split<;>rfl
def tg{g:Nat->Bool}(h:∀a,a<n->f a=g a):dJ n f=dJ n g:=by unfold dJ;rw[yX fun a b=>by rw[h a b]]
def lT(n:Nat)(f:Nat->Bool):cK (dJ n f)=n:=by simp[dJ,cK]
def I5(n:Nat)(S:Nat->Nat->Bool):cK (jK n S)=n:=by simp[jK,cK]
def AZ(h:i<n)(z:List D):(((dJ n f).lO)[i]?).getD z=[.bool (f i)]:=by unfold dJ;rw[AB,Kq h]
def qL(h:i<n)(z:List D):(((jK n S).lO)[i]?).getD z=[dJ n (S i)]:=by unfold jK;rw[AB,Kq h]
def aww{T:Nat->Nat->Bool}(h:∀a b,a<n->b<n->S a b=T a b):jK n S=jK n T:=by unfold jK;rw[yX fun a c=>tg fun b d=>h a b c d]
def awx(n:Nat)(S:Nat->Nat->Bool)(i:Nat)(f:Nat->Bool):D.sl (oT (jK n S).lO i 0 [dJ n f])=jK n (fun a b=>if a=i then f b else S a b):=by unfold jK;rw[AB,OJ];congr 1;refine yX fun a _=> ?_;by_cases e:a=i<;>simp[e]
def nD(p:Nat->Bool):Nat->Bool
 |0=>false
 |n+1=>nD p n||p n
def I1{p:Nat->Bool}:∀{n:Nat},nD p n=true↔ ∃k,k<n/\p k=true
 |0=>by simp[nD]
 |n+1=>by
  simp only[nD,jY,I1 (n:=n)];constructor
  ·rintro (⟨k,a,h⟩|h)
   ·exact⟨k,by omega,h⟩
   ·exact⟨n,by omega,h⟩
  ·rintro⟨k,a,h⟩;by_cases e:k=n
   ·subst e;exact .inr h
   ·exact .inl ⟨k,by omega,h⟩
def sw(l:List Entry)(a k:Nat):Option Nat:=xE l (nth l a).name (nth (nth l a).needs k)
def zV(l:List Entry)(a j c:Nat):Bool:=nD (fun k=>decide (sw l a k=some c)) j
def BS(l:List Entry)(a j:Nat):Bool:=nD (fun k=>(sw l a k).isNone) j
def fG(l:List Entry)(a c:Nat):Bool:=zV l a (nth l a).needs.length c
def kH(l:List Entry)(a:Nat):Bool:=BS l a (nth l a).needs.length
def fJ(l:List Entry):Nat->Nat->Bool:=Bj l.length (fG l) l.length
def lB(l:List Entry):D:=.agg [dJ l.length (kH l),jK l.length (fG l),jK l.length (fJ l)]
def nF(l:List Entry)(n i a:Nat):D:=if a<i then dJ n (fG l a)else .sl []
def mF(l:List Entry)(i a:Nat):Bool:=decide (a<i)&&kH l a
def nG(l:List Entry)(n i j a:Nat):D:=if a<i then dJ n (fG l a)else if a=i then dJ n (zV l i j)else .sl []
def mG(l:List Entry)(i j a:Nat):Bool:=if a<i then kH l a else if a=i then BS l i j else false
def OD{l:List Entry}{k c:Nat}(h:sw l a k=some c):c<l.length:=(xg h).1
def Bb{P:Program}{tab:Nat->List CT}{env:List D}{Q:D->List D->Prop}{L:List (List D->Prop)}{r:List D->Prop}{es:List E}{xs:List D}{p q:Prop}
  (a:p) (h:es.map (·.den env)=xs) (b:q):(VC.again 1 es).den P tab env Q (r::(fun y=>p/\y=xs/\q)::L):=⟨a,h,b⟩
def Zl(l:List Entry)(y:l.length<=1048576):dN az 26 none [ak l] (lB l) [] [(0,1),(1,1),(2,1)]:=by
 refine gu ao1 aIf ⟨mL l,trivial⟩ fun t=> ?_;unfold ao1;have r:=t.1;refine aQ (fun _=> ?_) (aQ (fun _=> ?_) (aQ (fun _=> ?_) ?_))
 ·simp only[eS];simp;omega
 ·simp only[eS];simp;omega
 ·simp only[eS];simp;omega
 refine cU l.length (fun i=>[.int .i64 i,.sl (rowsOf (nF l l.length i) l.length),.sl (rowsOf (nF l l.length i) l.length),dJ l.length (mF l i)]) (fun _=>True) ?_ trivial ?_
 ·simp only[eS,eF];have e:∀x:D,List.replicate l.length [x]=rowsOf (fun _=>x) l.length:=fun x=>Vw x _;simp only[gX,jJ,rR,eF,e];have m:rowsOf (nF l l.length 0) l.length=rowsOf (fun _=>.sl []) l.length:=yX fun a _=>by simp[nF]
  have g:dJ l.length (mF l 0)=dJ l.length (fun _=>false):=tg fun a _=>by simp[mF]
  rw[m,g];rfl
 intro i I _ _;simp only[cA];apply aj<;>intro n<;>simp only[eS]at n
 ·have n:i<l.length:=by simp at n;exact n
  have z:(nth l i).needs.length<=9223372036854775807:=kF (azq r n).2.2.2.2.1;refine dK ?_;refine aQ (fun _=> ?_) ?_
  ·simp only[eS];simp;omega
  refine aQ (fun _=> ?_) ?_
  ·simp only[eS,BQ,qZ];simp;omega
  refine cU (nth l i).needs.length (fun j=>[.int .i64 j,.sl (rowsOf (nF l l.length i) l.length),.sl (rowsOf (nG l l.length i j) l.length),dJ l.length (mG l i j)]) (fun _=>True) ?_ trivial ?_
  ·simp only[eS,eF];simp only[gX,jJ,rR,eF,Vw,OJ];have m:rowsOf (fun a=>if a=i then D.sl (rowsOf (fun _=>.bool false) l.length)else nF l l.length i a) l.length=rowsOf (nG l l.length i 0) l.length:=yX fun a _=>by
    unfold nF nG;by_cases e:a=i
    ·subst e;simp[zV,nD,dJ]
    ·simp[e]
   have g:dJ l.length (mF l i)=dJ l.length (mG l i 0):=tg fun a _=>by unfold mF mG BS nD;by_cases e:a<i<;>simp[e]
   rw[m,g];rfl
  intro j J _ _;simp only[cA];have o:nG l l.length i j i=dJ l.length (zV l i j):=by simp[nG]
  apply aj<;>intro d<;>simp only[eS,oQ,iW]at d
  ·have d:j<(nth l i).needs.length:=by simp at d;exact d
   refine dK ?_;refine aH (axf l (nth l i).name (nth (nth l i).needs j)) ?_;apply aj<;>intro f<;>simp only[eS]at f
   ·obtain⟨c,p⟩:∃c,sw l i j=some c:=by
     cases s:sw l i j with
     |some c=>exact⟨c,rfl⟩
     |none=>
      have:Cd l (nth l i).name (nth (nth l i).needs j)= -1:=by unfold Cd;rw[show xE l (nth l i).name (nth (nth l i).needs j)=none from s]
      rw[this]at f;simp at f
    have A:=OD p;have u:Cd l (nth l i).name (nth (nth l i).needs j)=c:=by unfold Cd;rw[show xE l (nth l i).name (nth (nth l i).needs j)=some c from p]
    rw[u];refine aQ (fun _=> ?_) ?_
    ·simp only[eS,BQ,qZ];simp;omega
    refine aQ (fun _=> ?_) ?_
    ·simp only[eS,Kq n,o,lT];simp only[gX,cK];simp;omega
    refine cJ d ?_ trivial;simp only[eS,Kq n,o,I6,OJ];rw[bF];have m:rowsOf (fun a=>if a=i then dJ l.length (fun b=>if b=c then true else zV l i j b)else nG l l.length i j a) l.length=rowsOf (nG l l.length i (j+1)) l.length:=yX fun a _=>by
     unfold nG;by_cases e:a=i
     ·subst e;simp only[sZ,QY,vC];refine tg fun b _=> ?_;simp only[zV,nD,p];by_cases g:b=c
      ·subst g;simp
      ·have:¬(some c=some b):=fun h=>g (by simpa using h.symm);simp[g,this]
     ·simp[e]
    have g:dJ l.length (mG l i j)=dJ l.length (mG l i (j+1)):=tg fun a _=>by
     unfold mG;by_cases e:a=i
     ·subst e;simp[BS,nD,p]
     ·simp[e]
    rw[m,g];rfl
   ·have p:sw l i j=none:=by
     cases s:sw l i j with
     |none=>rfl
     |some c=>
      have:Cd l (nth l i).name (nth (nth l i).needs j)=c:=by unfold Cd;rw[show xE l (nth l i).name (nth (nth l i).needs j)=some c from s]
      rw[this]at f;simp at f
    refine aQ (fun _=> ?_) ?_
    ·simp only[eS,BQ,qZ];simp;omega
    refine cJ d ?_ trivial;simp only[eS,I6];rw[bF];have m:rowsOf (nG l l.length i j) l.length=rowsOf (nG l l.length i (j+1)) l.length:=yX fun a _=>by
     unfold nG;by_cases e:a=i
     ·subst e;simp only[sZ,QY,vC];refine tg fun b _=> ?_;simp[zV,nD,p]
     ·simp[e]
    have g:dJ l.length (fun a=>if a=i then true else mG l i j a)=dJ l.length (mG l i (j+1)):=tg fun a _=>by
     unfold mG;by_cases e:a=i
     ·subst e;simp[BS,nD,p]
     ·simp[e]
    rw[m,g];rfl
  ·obtain rfl:j=(nth l i).needs.length:=by simp at d;omega
   refine aQ (fun _=> ?_) ?_
   ·simp only[eS,BQ,qZ];simp;omega
   refine aQ (fun _=> ?_) ?_
   ·simp only[eS,Kq n,o,lT];simp;omega
   refine aQ (fun _=> ?_) ?_
   ·simp only[eS,BQ,qZ];simp;omega
   refine Bb n ?_ trivial;simp only[eS,Kq n,o,OJ];rw[bF];have m:rowsOf (fun a=>if a=i then dJ l.length (zV l i (nth l i).needs.length)else nF l l.length i a) l.length=rowsOf (nF l l.length (i+1)) l.length:=yX fun a _=>by
    unfold nF;by_cases e:a=i
    ·subst e;simp[fG];rfl
    ·have:a<i+1↔a<i:=by omega
     simp[e,this]
   have g:rowsOf (nG l l.length i (nth l i).needs.length) l.length=rowsOf (nF l l.length (i+1)) l.length:=yX fun a _=>by
    unfold nF nG;by_cases e:a=i
    ·subst e;simp[fG];rfl
    ·have:a<i+1↔a<i:=by omega
     simp[e,this]
   have v:dJ l.length (mG l i (nth l i).needs.length)=dJ l.length (mF l (i+1)):=tg fun a _=>by
    unfold mF mG;by_cases e:a=i
    ·subst e;simp[kH]
    ·have:a<i+1↔a<i:=by omega
     by_cases h:a<i<;>simp[e,this,h]
   rw[m,g,v];rfl
 ·obtain rfl:i=l.length:=by simp at n;omega
  have m:D.sl (rowsOf (nF l l.length l.length) l.length)=jK l.length (fG l):=by unfold jK;rw[yX (g:=fun i=>dJ l.length (fG l i)) fun a w=>by simp[nF,w]]
  have g:dJ l.length (mF l l.length)=dJ l.length (kH l):=tg fun a w=>by simp[mF,w]
  rw[m,g];refine cU l.length (fun k=>[.int .i64 k,jK l.length (Bj l.length (fG l) k),jK l.length (fG l),dJ l.length (kH l)]) (fun _=>True) rfl trivial ?_;intro k L _ _;simp only[cA];apply aj<;>intro d<;>simp only[eS]at d
  ·have d:k<l.length:=by simp at d;exact d
   refine cU l.length (fun i=>[.int .i64 i,jK l.length (zG l.length k (Bj l.length (fG l) k) i),jK l.length (fG l),dJ l.length (kH l)]) (fun _=>True) rfl trivial ?_;intro i B _ _;simp only[cA];apply aj<;>intro f<;>simp only[eS]at f
   ·have f:i<l.length:=by simp at f;exact f
    refine cU l.length (fun j=>[.int .i64 j,jK l.length (vN k i (zG l.length k (Bj l.length (fG l) k) i) j),jK l.length (fG l),dJ l.length (kH l)]) (fun _=>True) rfl trivial ?_;intro j C _ _;simp only[cA];apply aj<;>intro q<;>simp only[eS]at q
    ·have q:j<l.length:=by simp at q;exact q
     generalize F:vN k i (zG l.length k (Bj l.length (fG l) k) i) j=T;have G:vN k i (zG l.length k (Bj l.length (fG l) k) i) (j+1)=O5 T i j (T i j||(T i k&&T k j)):=by rw[<-F];rfl
     refine aQ (fun _=> ?_) (aQ (fun _=> ?_) (aQ (fun _=> ?_) (aQ (fun _=> ?_) (aQ (fun _=> ?_) (aQ (fun _=> ?_) (aQ (fun _=> ?_) (aQ (fun _=> ?_) ?_)))))))
     ·simp only[eS,BQ,qZ];simp;omega
     ·simp only[eS,BQ,qZ];simp;omega
     ·simp only[eS,qL f,lT];simp only[gX,cK];simp;omega
     ·simp only[eS,BQ,qZ];simp;omega
     ·simp only[eS,qL f,lT];simp only[gX,cK];simp;omega
     ·simp only[eS,BQ,qZ];simp;omega
     ·simp only[eS,qL d,lT];simp only[gX,cK];simp;omega
     ·simp only[eS,qL f,lT];simp only[gX,cK];simp;omega
     refine cJ q ?_ trivial;simp only[eS,qL f,qL d,AZ q,AZ d,I6,awx];rw[bF,G];have v:jK l.length (fun a b=>if a=i then(if b=j then T i j||(T i k&&T k j)else T i b)else T a b)=jK l.length (O5 T i j (T i j||(T i k&&T k j))):=aww fun a b _ _=>by
      unfold O5;by_cases e:a=i
      ·subst e;by_cases H:b=j<;>simp[H]
      ·simp[e]
     rw[v];rfl
    ·obtain rfl:j=l.length:=by simp at q;omega
     refine Bb f ?_ trivial;simp only[eS];rw[bF];rfl
   ·obtain rfl:i=l.length:=by simp at f;omega
    refine Bb d ?_ trivial;simp only[eS];rw[bF];rfl
  ·obtain rfl:k=l.length:=by simp at d;omega
   exact ay rfl
def Entry.fit(e:Entry):Prop:=e.recipe.length<=1048576/\e.needs.length<=1048576
def agS(l:List ByteArray)(h:l.length<=1048576):dN az 47 none [ak l] (ak l) [] [(0,1)]:=by
 refine gu aoS aH5 ⟨kA l,trivial⟩ fun f=> ?_;unfold aoS;refine aQ (fun _=> ?_) (ay ?_)
 ·simp[E.den];omega
 ·simp[E.den,ak]
def MG(l:List ByteArray)(h:l.length<=1048576):dN az 43 none [ak l] (ak l) [] [(0,1)]:=by
 refine gu apY aI9 ⟨kA l,trivial⟩ fun f=> ?_;unfold apY;refine aQ (fun _=> ?_) (ay ?_)
 ·simp[E.den];omega
 ·simp[E.den,ak]
def axa(e:Entry)(h:e.fit):dN az 75 none [enc e] (enc e) [] [(1,1),(4,4)]:=by
 refine gu aoP aH2 ⟨Ah e,trivial⟩ fun f=> ?_;unfold aoP;refine fD (agS e.recipe h.1) ?_;have a:=h.2;refine aQ (fun _=> ?_) (ay ?_)
 ·simp[E.den,iW];omega
 ·simp[E.den,iW,enc,ak]
def ag9(e:Entry)(h:e.fit):dN az 86 none [enc e] (enc e) [] [(1,1),(4,4)]:=by
 refine gu aqn aJy ⟨Ah e,trivial⟩ fun f=> ?_;unfold aqn;refine fD (MG e.recipe h.1) ?_;have a:=h.2;refine aQ (fun _=> ?_) (ay ?_)
 ·simp[E.den,iW];omega
 ·simp[E.den,iW,enc,ak]
def Ky[Inhabited α](l:List α){k:Nat}(h:k<l.length):l.take (k+1)=l.take k++[nth l k]:=by rw[YD h];simp[nth,kQ,bX h]
def ahS[aB α](l:List α)(x:α):D.sl (l.map aB.cells++[aB.cells x])=ak (l++[x]):=by simp[ak]
def aw9(l:List Entry)(b:l.length<=1048576)(a:∀e∈l,e.fit):dN az 46 none [ak l] (ak l) [] [(0,5)]:=by
 refine gu aoO aH1 ⟨mL l,trivial⟩ fun f=> ?_;unfold aoO;refine cU l.length (fun k=>[ak (l.take k),.int .i64 k]) (fun _=>True) rfl trivial ?_;intro k c _ _;simp only[cA];apply aj<;>intro h<;>simp only[eS]at h
 ·have h:k<l.length:=by simp at h;exact h
  refine dK ?_;refine fD (axa (nth l k) (a _ (gF h))) (hty:=Ah _) ?_;refine aQ (fun _=> ?_) ?_
  ·simp[E.den];omega
  refine cJ h ?_ trivial;simp only[eS,iw];rw[bF,ahS, <-Ky l h];rfl
 ·obtain rfl:k=l.length:=by simp at h;omega
  exact ay (by simp[E.den])
def ag8(l:List Entry)(b:l.length<=1048576)(a:∀e∈l,e.fit):dN az 52 none [ak l] (ak l) [] [(0,5)]:=by
 refine gu aqm aJx ⟨mL l,trivial⟩ fun f=> ?_;unfold aqm;refine cU l.length (fun k=>[ak (l.take k),.int .i64 k]) (fun _=>True) rfl trivial ?_;intro k c _ _;simp only[cA];apply aj<;>intro h<;>simp only[eS]at h
 ·have h:k<l.length:=by simp at h;exact h
  refine dK ?_;refine fD (ag9 (nth l k) (a _ (gF h))) (hty:=Ah _) ?_;refine aQ (fun _=> ?_) ?_
  ·simp[E.den];omega
  refine cJ h ?_ trivial;simp only[eS,iw];rw[bF,ahS, <-Ky l h];rfl
 ·obtain rfl:k=l.length:=by simp at h;omega
  exact ay (by simp[E.den])
def pz(l:List Entry)(s:ByteArray):Option Nat:=eH (fun k=>decide ((nth l k).name=s)) l.length
def cN(l:List Entry)(s:ByteArray):Int:=match pz l s with|some k=>k|none=> -1
def MD(l:List Entry)(s:ByteArray):aG az 24 none [ak l,.str s] (.int .i64 (cN l s)) []:=by
 refine bZ aok aHz ⟨mL l,trivial,trivial⟩ fun f=> ?_;have c:l.length<=9223372036854775807:=kF f.1;unfold aok;refine cU l.length (fun k=>[.int .i64 k]) (fun k=>∀i,i<k->decide ((nth l i).name=s)=false) rfl (by omega) ?_;intro k d I _;simp only[cA];apply aj<;>intro a<;>simp only[eS]at a
 ·have a:k<l.length:=by simp at a;exact a
  refine dK ?_;apply aj<;>intro b<;>simp only[eS,oQ,iW]at b
  ·refine ay ?_;simp[E.den,cN,pz,yt (p:=fun k=>decide ((nth l k).name=s)) b I a]
  ·refine cJ a ?_ fun i e=> ?_
   ·simp only[eS];rw[bF];rfl
   ·rcases dO i k with h|h
    ·exact I i h
    ·obtain rfl:i=k:=by omega
     exact b
 ·obtain rfl:k=l.length:=by simp at a;omega
  exact ay (by simp[E.den,cN,pz,yq I])
def qM(l:List Entry)(s:ByteArray):aG az 37 none [ak l,.str s] (.int .i64 (cN l s)) []:=by
 refine bZ apc aIs ⟨mL l,trivial,trivial⟩ fun f=> ?_;have c:l.length<=9223372036854775807:=kF f.1;unfold apc;refine cU l.length (fun k=>[.int .i64 k]) (fun k=>∀i,i<k->decide ((nth l i).name=s)=false) rfl (by omega) ?_;intro k d I _;simp only[cA];apply aj<;>intro a<;>simp only[eS]at a
 ·have a:k<l.length:=by simp at a;exact a
  refine dK ?_;apply aj<;>intro b<;>simp only[eS,oQ,iW]at b
  ·refine ay ?_;simp[E.den,cN,pz,yt (p:=fun k=>decide ((nth l k).name=s)) b I a]
  ·refine cJ a ?_ fun i e=> ?_
   ·simp only[eS];rw[bF];rfl
   ·rcases dO i k with h|h
    ·exact I i h
    ·obtain rfl:i=k:=by omega
     exact b
 ·obtain rfl:k=l.length:=by simp at a;omega
  exact ay (by simp[E.den,cN,pz,yq I])
def agy:∀{a b:List UInt8},Op.bytesLess a b=true->Op.bytesLess b a=false
 |[],[],h=>by simp[Op.bytesLess]at h
 |[],_::_,_=>by simp[Op.bytesLess]
 |_::_,[],h=>by simp[Op.bytesLess]at h
 |x::a,y::b,h=>by
  simp only[Op.bytesLess]at h ⊢;by_cases e:x=y
  ·subst e;simp at h ⊢;exact agy h
  ·have c:¬y=x:=fun h=>e h.symm;simp[e,c]at h ⊢;exact UInt8.le_of_lt h
def agz:∀{a b:List UInt8},a≠b->Op.bytesLess a b=false->Op.bytesLess b a=true
 |[],[],h,_=>by simp at h
 |[],_::_,_,h=>by simp[Op.bytesLess]at h
 |_::_,[],_,_=>by simp[Op.bytesLess]
 |x::a,y::b,n,h=>by
  simp only[Op.bytesLess]at h ⊢;by_cases e:x=y
  ·subst e;simp at h n ⊢;exact agz n h
  ·have c:¬y=x:=fun h=>e h.symm;simp[e,c]at h ⊢;exact UInt8.lt_of_le_of_ne h c
def aDC{a:ByteArray}(h:du a b=true):du b a=false:=agy h
def aDD{a:ByteArray}(n:a≠b)(h:du a b=false):du b a=true :=
 agz (fun e=>n (by have:=Ej a b;rw[e]at this;simpa using this.symm)) h
def aah{p:Nat->Bool}:∀{n:Nat},eH p n=none->∀i,i<n->p i=false
 |0,_,i,h=>by omega
 |n+1,h,i,c=>by
  simp only[eH]at h;split at h
  ·cases h
  ·rename_i a;split at h
   ·cases h
   ·rename_i b;by_cases e:i=n
    ·subst e;simpa using b
    ·exact aah a i (by omega)
def vK{l:List Entry}{s:ByteArray}(h:0<=cN l s):∃i:Nat,cN l s=(i:Int)/\i<l.length/\(nth l i).name=s:=by
 unfold cN at h ⊢;cases f:pz l s with
 |none=>rw[f]at h;simp at h
 |some k=> obtain⟨a,b,_⟩:=xg f;exact⟨k,rfl,a,by simpa using b⟩
def alk{l:List Entry}{c:Nat}(h:fG l a c=true):c<l.length:=by unfold fG zV at h;obtain⟨k,_,b⟩:=I1.1 h;exact OD (by simpa using b)
def DY{l:List Entry}{b:Nat}(ha:a<l.length)(hb:b<l.length):fJ l a b=true↔Way (fG l) l.length a b:=Tt _ _ _ (bK _) a b ha hb
def Way.first{b:Nat}(h:Way S n a b):∃c,S a c=true/\(c=b\/Way S n c b):=by
 induction h with
 |@edge a b h=>exact⟨b,h,.inl rfl⟩
 |@step a m b g _ e i _=>
  obtain⟨c,f,d⟩:=i;rcases d with rfl|d
  ·exact⟨c,f,.inr e⟩
  ·exact⟨c,f,.inr (.step g d e)⟩
def amf{l:List Entry}{b:Nat}(ha:a<l.length)(hb:b<l.length):fJ l a b=true↔ ∃c,c<l.length/\fG l a c=true/\(c=b\/fJ l c b=true):=by
 rw[DY ha hb];constructor
 ·intro h;obtain⟨c,d,f⟩:=h.first;have e:=alk d;exact⟨c,e,d,f.imp id fun h=>(DY e hb).2 h⟩
 ·rintro⟨c,e,d,rfl|f⟩
  ·exact .edge d
  ·exact .step e (.edge d) ((DY e hb).1 f)
def acI{l:List Entry}{b c:Nat}(ha:a<l.length)(hb:b<l.length)(h:c<l.length)(h1:fJ l a b=true)(h2:fJ l b c=true):fJ l a c=true :=
 (DY ha h).2 (.step hb ((DY ha hb).1 h1) ((DY hb h).1 h2))
def acH{l:List Entry}{c:Nat}(ha:a<l.length)(h:fG l a c=true):fJ l a c=true:=(DY ha (alk h)).2 (.edge h)
def lG(l:List Entry)(j:Nat):Bool:=kH l j||fJ l j j
def js(l:List Entry)(i:Nat):Bool:=lG l i||nD (fun j=>fJ l i j&&lG l j) l.length
def OM{l:List Entry}:js l i=true↔lG l i=true\/∃j,j<l.length/\fJ l i j=true/\lG l j=true:=by unfold js;rw[jY,I1];simp only[aY]
def ada{l:List Entry}(e:i<l.length):js l i=true↔kH l i=true\/fJ l i i=true\/∃j,j<l.length/\fJ l i j=true/\js l j=true:=by
 rw[OM];constructor
 ·rintro (h|⟨j,a,b,c⟩)
  ·unfold lG at h;rw[jY]at h;exact h.imp id .inl
  ·exact .inr (.inr ⟨j,a,b,OM.2 (.inl c)⟩)
 ·rintro (h|h|⟨j,a,b,c⟩)
  ·exact .inl (by unfold lG;rw[h];rfl)
  ·exact .inl (by unfold lG;rw[h];simp)
  ·rcases OM.1 c with h|⟨k,d,f,g⟩
   ·exact .inr ⟨j,a,b,h⟩
   ·exact .inr ⟨k,d,acI e a d b f,g⟩
def mK(l:List Entry)(o:List Nat)(i:Nat):Bool:= !o.contains i&& !kH l i&&eK (fun k=> !fG l i k||o.contains k) l.length
def ib(l:List Entry):Nat->List Nat
 |0=>[]
 |k+1=>match eH (mK l (ib l k)) l.length with
  |some i=>ib l k++[i]
  |none=>ib l k
def rm(l:List Entry):List Nat:=ib l l.length
def Vm{l:List Entry}{o:List Nat}:mK l o i=true↔i∉o/\kH l i=false/\∀k,k<l.length->fG l i k=true->k∈o:=by
 unfold mK;simp only[aY,qH,kC,jY,Yu,qK,dr];constructor
 ·rintro⟨⟨a,b⟩,c⟩;refine⟨a,b,fun k d n=> ?_⟩;rcases c k d with h|h
  ·rw[n]at h;cases h
  ·exact h
 ·rintro⟨a,b,c⟩;refine⟨⟨a,b⟩,fun k d=> ?_⟩;cases n:fG l i k with
  |false=>exact .inl rfl
  |true=>exact .inr (c k d n)
def Vd{l:List Entry}:∀{k:Nat} {pre post:List Nat} {i:Nat},ib l k=pre++i::post->eH (mK l pre) l.length=some i
 |0,pre,post,i,h=>by simp[ib]at h
 |k+1,pre,post,i,h=>by
  simp only[ib]at h;split at h
  ·rename_i j b;rcases List.eq_nil_or_concat post with rfl|⟨p,x,rfl⟩
   ·have h2:ib l k++[j]=pre++[i]:=h;obtain⟨e,a⟩:=List.append_inj' h2 rfl;simp only[C4,yd]at a;rw[<-e, <-a];exact b
   ·have h2:ib l k++[j]=(pre++i::p)++[x]:=by rw[h];simp
    obtain⟨e,a⟩:=List.append_inj' h2 rfl;exact Vd e
  ·exact Vd h
def Vc(l:List Entry):∀k,(ib l k).Nodup
 |0=>by simp[ib]
 |k+1=>by
  simp only[ib];split
  ·rename_i j c;have h1:=(Vm.1 (xg c).2.1).1;rw[List.nodup_append];refine⟨Vc l k,by simp,fun a d b h e=> ?_⟩;simp at h;subst h;subst e;exact h1 d
  ·exact Vc l k
def DS{l:List Entry}:∀{k i:Nat},i∈ib l k->i<l.length
 |0,i,h=>by simp[ib]at h
 |k+1,i,h=>by
  simp only[ib]at h;split at h
  ·rename_i j a;rcases iV.1 h with h|h
   ·exact DS h
   ·simp at h;subst h;exact(xg a).1
  ·exact DS h
def UZ:∀{a b:List Nat},a.Nodup->(∀x∈a,x∈b)->a.length<=b.length
 |[],b,_,_=>by simp
 |x::a,b,h,s=>by
  have hx:x∈b:=s x (by simp);rw[QU]at h;have:=UZ (a:=a) (b:=b.erase x) h.2 fun y c=>by have n:y≠x:=fun e=>h.1 (e▸c);exact(List.mem_erase_of_ne n).2 (s y (by simp[c]))
  rw[List.length_erase_of_mem hx]at this;have p:0<b.length:=List.length_pos_of_mem hx;simp only[dU];omega
def acs(l:List Entry)(k:Nat):(ib l k).length<=l.length:=by
 have:=UZ (b:=List.range l.length) (Vc l k) fun x h=>by simpa using DS h
 simpa using this
def Ve{l:List Entry}{k:Nat}(h:eH (mK l (ib l k)) l.length=none):∀m,ib l (k+m)=ib l k
 |0=>rfl
 |m+1=>by show ib l ((k+m)+1)=_;simp only[ib];rw[Ve h m,h]
def alK{l:List Entry}:∀{k:Nat},eH (mK l (ib l k)) l.length≠none->(ib l k).length=k
 |0,_=>rfl
 |k+1,h=>by
  cases a:eH (mK l (ib l k)) l.length with
  |none=> have e:=Ve a 1;rw[e]at h;exact absurd a h
  |some i=> have:=alK (k:=k) (by rw[a];simp);simp only[ib,a,jI,dU,pg,this]
def alI(l:List Entry):eH (mK l (rm l)) l.length=none:=by
 cases h:eH (mK l (rm l)) l.length with
 |none=>rfl
 |some i=>
  have a:(ib l l.length).length=l.length:=alK (by unfold rm at h;rw[h];simp);have b:(ib l (l.length+1)).length=l.length+1:=by have h:eH (mK l (ib l l.length)) l.length=some i:=h;simp only[ib,h,jI,dU,pg,a]
  have:=acs l (l.length+1);omega
def aEE{l:List Entry}{k:Nat}(h:eH (mK l (ib l k)) l.length=none):ib l k=rm l:=by
 unfold rm;rcases Nat.le_total k l.length with a|a
 ·rw[show l.length=k+(l.length-k) by omega,Ve h]
 ·have:=Ve (alI l) (k-l.length);rw[show l.length+(k-l.length)=k by omega]at this;exact this
def acu{l:List Entry}:∀(m:Nat) {pre post:List Nat} {i c:Nat},pre.length<=m->rm l=pre++i::post->c<l.length->fJ l i c=true->c∈pre
 |m,pre,post,i,c,a,h,e,r=>by
  have f:i<l.length:=DS (k:=l.length) (by show i∈rm l;rw[h];simp);have g:=(Vm.1 (xg (Vd h)).2.1).2.2;obtain⟨d,j,k,b⟩:=(amf f e).1 r;have p:=g d j k;rcases b with rfl|b
  ·exact p
  ·obtain⟨n,o,rfl⟩:=Yt p
   match m,a with
   |0,a=>simp at a
   |m+1,a=> have:=acu m (pre:=n) (post:=o++i::post) (i:=d) (c:=c) (by simp at a;omega) (by rw[h];simp) e b;simp[this]
def alL{l:List Entry}(h:i∈rm l):js l i=false:=by
 have key:∀{j:Nat},j∈rm l->lG l j=false:=by
  intro j a;have c:j<l.length:=DS a;obtain⟨pre,post,e⟩:=Yt a;have r:=Vm.1 (xg (Vd e)).2.1;unfold lG;rw[r.2.1,QJ];cases q:fJ l j j with
  |false=>rfl
  |true=>exact absurd (acu _ (bK _) e c q) r.1
 cases s:js l i with
 |false=>rfl
 |true=>
  rcases OM.1 s with b|⟨j,a,b,d⟩
  ·rw[key h]at b;cases b
  ·obtain⟨pre,post,e⟩:=Yt h;have:=acu _ (bK _) e a b;rw[key (by rw[e];simp[this])]at d;cases d
def cnt(p:Nat->Bool):Nat->Nat
 |0=>0
 |n+1=>cnt p n+if p n then 1 else 0
def ahn{p q:Nat->Bool}:∀{n:Nat},(∀i,i<n->p i=true->q i=true)->cnt p n<=cnt q n
 |0,_=>bK _
 |n+1,h=>by
  simp only[cnt];have:=ahn (n:=n) fun i b=>h i (by omega);have:=h n (by omega);by_cases a:p n=true
  ·rw[aD a,aD (this a)];omega
  ·rw[aw a];split<;>omega
def aho{p q:Nat->Bool}:∀{n:Nat},(∀i,i<n->p i=true->q i=true)->(∃i,i<n/\p i=false/\q i=true)->cnt p n<cnt q n
 |0,_,⟨i,b,_⟩=>by omega
 |n+1,h,⟨i,b,h1,h2⟩=>by
  simp only[cnt];by_cases e:i=n
  ·subst e;have:=ahn (n:=i) fun j c=>h j (by omega);rw[h1,h2];simp;omega
  ·have f:=aho (n:=n) (fun j c=>h j (by omega)) ⟨i,by omega,h1,h2⟩;have d:=h n (by omega);by_cases a:p n=true
   ·rw[aD a,aD (d a)];omega
   ·rw[aw a];split<;>omega
def alG{l:List Entry}:∀(m:Nat) {i:Nat},cnt (fJ l i) l.length<=m->i<l.length->js l i=false->i∈rm l
 |m,i,p,g,o=>by
  by_cases e:i∈rm l
  ·exact e
  ·exfalso;have n:lG l i=false:=by
    cases d:lG l i with
    |false=>rfl
    |true=>rw[OM.2 (.inl d)]at o;cases o
   have r:=aah (alI l) i g;have s:kH l i=false:=by unfold lG at n;simp at n;exact n.1
   have:∃c,c<l.length/\fG l i c=true/\c∉rm l:=by refine Yp fun q=> ?_;have:mK l (rm l) i=true:=Vm.2 ⟨e,s,fun k v w=>Yp fun t=>q ⟨k,v,w,t⟩⟩;rw[this]at r;cases r
   obtain⟨c,f,x,y⟩:=this;have a:=acH g x;have b:js l c=false:=by
    cases d:js l c with
    |false=>rfl
    |true=>rw[(ada g).2 (.inr (.inr ⟨c,f,a,d⟩))]at o;cases o
   have u:fJ l c c=false:=by
    cases d:fJ l c c with
    |false=>rfl
    |true=>rw[(ada f).2 (.inr (.inl d))]at b;cases b
   have z:cnt (fJ l c) l.length<cnt (fJ l i) l.length:=aho (fun j A h=>acI g f A a h) ⟨c,f,u,a⟩
   match m,p with
   |0,p=>omega
   |m+1,p=>exact y (alG m (by omega) f b)
def aEF{l:List Entry}(h:i<l.length):i∈rm l↔js l i=false:=⟨alL,alG _ (bK _) h⟩
def alH(l:List Entry):(rm l).length+((List.range l.length).filter (js l)).length=l.length:=by
 have b:(rm l).length=((List.range l.length).filter fun i=> !js l i).length:=by
  refine Nat.le_antisymm (UZ (Vc l _) fun x h=> ?_) (UZ (List.nodup_range.filter _) fun x h=> ?_)
  ·simp only[AV,om];exact⟨DS h,by rw[alL h];rfl⟩
  ·simp only[AV,om,qH]at h;exact(aEF h.1).2 h.2
 rw[b];have:=List.length_eq_countP_add_countP (js l) (l:=List.range l.length);simp only[List.length_range]at this;rw[<-agc, <-agc];have e:List.countP (fun i=> !js l i) (List.range l.length)=List.countP (fun a=>decide ¬js l a=true) (List.range l.length):=by congr 1;funext i;simp
 omega
def qt{l:List Entry}(h:cG l=true):l.length<=6/\∀k,k<l.length->mB l k=true:=by unfold cG at h;rw[aY,dr,kC]at h;exact h
def agA:∀{a b c:List UInt8},Op.bytesLess a b=true->Op.bytesLess b c=true->Op.bytesLess a c=true
 |_,[],_,h,_=>by simp[Op.bytesLess]at h
 |_,_::_,[],_,h=>by simp[Op.bytesLess]at h
 |[],_::_,_::_,_,_=>by simp[Op.bytesLess]
 |x::a,y::b,z::c,h1,h2=>by have ih:=@agA a b c;simp only[Op.bytesLess,jY,aY,dr,vA]at h1 h2 ⊢;grind
def ak1{a c:ByteArray}(h1:du a b=true)(h2:du b c=true):du a c=true:=agA h1 h2
def ab7(a:ByteArray):du a a=false:=by
 cases h:du a a with
 |false=>rfl
 |true=>rw[aDC h]at h;cases h
def Vn{l:List Entry}(h:cG l=true){i:Nat}:∀{j:Nat},i<j->j<l.length->du (nth l i).name (nth l j).name=true
 |0,a,_=>by omega
 |j+1,a,d=>by
  have h1:=(qt h).2 (j+1) d;unfold mB at h1;simp only[aY,jY]at h1;have b:du (nth l j).name (nth l (j+1)).name=true:=by
   rcases h1.2 with h|h
   ·simp at h
   ·simpa using h
  rcases dO i j with c|c
  ·exact ak1 (Vn h c (by omega)) b
  ·obtain rfl:i=j:=by omega
   exact b
def wC{l:List Entry}(h:cG l=true){i j:Nat}(b:i<l.length)(c:j<l.length)(e:(nth l i).name=(nth l j).name):i=j:=by
 rcases Fh i j with a|a|a
 ·have:=Vn h a c;rw[e,ab7]at this;cases this
 ·exact a
 ·have:=Vn h a b;rw[e,ab7]at this;cases this
def uH(l:List Entry)(p:Nat->Bool)(k:Nat):List ByteArray:=((List.range k).filter p).map fun i=>(nth l i).name
def fj(l:List Entry)(p:Nat->Bool):List ByteArray:=uH l p l.length
def UW(l:List Entry)(p:Nat->Bool)(k:Nat):uH l p (k+1)=if p k=true then uH l p k++[(nth l k).name]else uH l p k:=by unfold uH;rw[YC,List.filter_append,AR];cases h:p k<;>simp[h]
def acb(l:List Entry)(p:Nat->Bool)(k:Nat):(uH l p k).length<=k:=by unfold uH;rw[dq];have:=Yy p (List.range k);simpa using this
def GI{l:List Entry}(h:cG l=true){p:Nat->Bool}{k:Nat}(a:k<l.length):hasB (fj l p) (nth l k).name=p k:=by
 rw[uX];unfold hasB fj uH;simp only[uY,fN,AV,om,dr];constructor
 ·rintro⟨t,⟨i,⟨b,c⟩,rfl⟩,e⟩;rw[<-wC h b a e];exact c
 ·intro d;exact⟨_,⟨k,⟨a,d⟩,rfl⟩,rfl⟩
def Ca:Ord du:=⟨ab7,ak1,fun h n=>aDD n h⟩
def DP{l:List Entry}{p:Nat->Bool}{x:ByteArray}:x∈fj l p↔ ∃i,i<l.length/\p i=true/\(nth l i).name=x:=by unfold fj uH;simp only[fN,AV,om,Mm]
def UX{l:List Entry}(h:cG l=true)(p:Nat->Bool):mi du (fj l p):=by unfold mi fj uH;rw[List.pairwise_map];refine List.Pairwise.imp_of_mem (R:=fun a b=>a<b) ?_ (List.Pairwise.filter _ List.pairwise_lt_range);intro a b e d c;simp only[AV,om]at e d;exact Vn h c d.1
def yM{l:List Entry}{p q:Nat->Bool}(h:∀i,i<l.length->p i=q i):fj l p=fj l q:=by unfold fj uH;congr 1;exact List.filter_congr fun i a=>h i (by simpa using a)
def alg(l:List Entry):fj l (fun _=>false)=[]:=by unfold fj uH;simp
def alh{l:List Entry}(h:cG l=true){p:Nat->Bool}{i:Nat}(e:i<l.length):xF du (fj l p) (nth l i).name=fj l (fun a=>p a||decide (a=i)):=by
 refine RU Ca (al3 Ca (UX h p) _) (UX h _) fun x=> ?_;rw[DX,DP,DP];simp only[jY,dr];constructor
 ·rintro (⟨j,c,d,b⟩|rfl)
  ·exact⟨j,c,.inl d,b⟩
  ·exact⟨i,e,.inr rfl,rfl⟩
 ·rintro⟨j,c,d|rfl,b⟩
  ·exact .inl ⟨j,c,d,b⟩
  ·exact .inr b.symm
def zT(l:List Entry)(a k:Nat):Option ik:=(sw l a k).map fun c=>⟨(nth l a).name,(nth l c).name,(nth (nth l a).needs k).kW⟩
def sr(l:List Entry)(a j:Nat):List ik:=(List.range j).filterMap (zT l a)
def yL(l:List Entry)(i:Nat):List ik:=(List.range i).flatMap fun a=>sr l a (nth l a).needs.length
def gr(l:List Entry):List ik:=if cG l then yL l l.length else []
def akY(l:List Entry)(a j:Nat):sr l a (j+1)=sr l a j++(zT l a j).toList:=by unfold sr;rw[YC,List.filterMap_append];cases h:zT l a j<;>simp[h]
def akZ(l:List Entry)(i:Nat):yL l (i+1)=yL l i++sr l i (nth l i).needs.length:=by unfold yL;rw[YC,List.flatMap_append];simp
def akX(l:List Entry)(a j:Nat):(sr l a j).length<=j:=by unfold sr;have:=List.length_filterMap_le (zT l a) (List.range j);simpa using this
def aDX{l:List Entry}{x:ik}:x∈sr l a j↔ ∃k,k<j/\zT l a k=some x:=by unfold sr;simp only[List.mem_filterMap,om]
def aDY{l:List Entry}{x:ik}:x∈yL l i↔ ∃a k,a<i/\k<(nth l a).needs.length/\zT l a k=some x:=by
 unfold yL;simp only[List.mem_flatMap,om,aDX];constructor
 ·rintro⟨a,h,k,b,c⟩;exact⟨a,k,h,b,c⟩
 ·rintro⟨a,k,h,b,c⟩;exact⟨a,h,k,b,c⟩
def OE{l:List Entry}(h:cG l=true){a:Nat}(ha:a<l.length):(nth l a).needs.length<=3:=by have:=(qt h).2 a ha;unfold mB mR at this;simp only[aY,dr]at this;exact this.1.1.2
def amm{l:List Entry}(h:cG l=true){a:Nat}(ha:a<l.length):(nth l a).name≠cL:=by have:=(qt h).2 a ha;unfold mB mR at this;simp only[aY,dr]at this;have b:=this.1.1.1.1.2;intro e;rw[e]at b;exact absurd b (by decide)
def ab6{l:List Entry}(h:cG l=true):∀i,i<=l.length->(yL l i).length<=3*i
 |0,_=>by simp[yL]
 |i+1,a=>by rw[akZ,jI];have h1:=ab6 h i (by omega);have b:=akX l i (nth l i).needs.length;have c:=OE h (a:=i) (by omega);omega
def ab5(l:List Entry):(gr l).length<=18:=by
 unfold gr;split
 ·rename_i h;have:=ab6 h l.length (bK _);have:=(qt h).1;omega
 ·simp
def acd{l:List Entry}{c:Nat}:fG l a c=true↔ ∃k,k<(nth l a).needs.length/\sw l a k=some c:=by unfold fG zV;rw[I1];simp only[dr]
def aD1{l:List Entry}:kH l a=true↔ ∃k,k<(nth l a).needs.length/\sw l a k=none:=by unfold kH BS;rw[I1];simp only[Option.isNone_iff_eq_none]
def xz(x:ik)(back:Bool):ByteArray:=if back then x.to else x.j8
def ia(x:ik)(back:Bool):ByteArray:=if back then x.j8 else x.to
def Edge(ls:List ik)(back:Bool)(a b:ByteArray):Prop:=∃x∈ls,xz x back=a/\ia x back=b
def GG{l:List Entry}(h:cG l=true){a b:ByteArray}:Edge (gr l) false a b↔ ∃i c,i<l.length/\c<l.length/\fG l i c=true/\(nth l i).name=a/\(nth l c).name=b:=by
 unfold Edge gr;rw[aD h];simp only[aDY,xz,ia,xZ,vC];constructor
 ·rintro⟨x,⟨i,k,f,g,d⟩,rfl,rfl⟩;unfold zT at d;simp only[kR]at d;obtain⟨c,e,rfl⟩:=d;exact⟨i,c,f,OD e,acd.2 ⟨k,g,e⟩,rfl,rfl⟩
 ·rintro⟨i,c,f,g,d,rfl,rfl⟩;obtain⟨k,e,j⟩:=acd.1 d;exact⟨_,⟨i,k,f,e,by unfold zT;rw[j];rfl⟩,rfl,rfl⟩
def ahP{ls:List ik}{a:ByteArray}:Edge ls true a b↔Edge ls false b a:=by
 unfold Edge xz ia;simp only[sZ,xZ,vC];constructor
 ·rintro⟨x,h,c,d⟩;exact⟨x,h,d,c⟩
 ·rintro⟨x,h,c,d⟩;exact⟨x,h,d,c⟩
inductive lR(E:ByteArray->ByteArray->Prop):ByteArray->ByteArray->Prop
 |edge {a b:ByteArray} (h:E a b):lR E a b
 |snoc {a b c:ByteArray} (h:lR E a b) (e:E b c):lR E a c
def lR.trans{E:ByteArray->ByteArray->Prop}{a c:ByteArray}(h:lR E a b)(d:lR E b c):lR E a c:=by
 induction d with
 |edge e=>exact .snoc h e
 |snoc _ e ih=>exact .snoc ih e
def af5{E F:ByteArray->ByteArray->Prop}(c:∀{a b},E a b->F b a){a b:ByteArray}(h:lR E a b):lR F b a:=by
 induction h with
 |edge e=>exact .edge (c e)
 |snoc _ e ih=>exact .trans (.edge (c e)) ih
def XO{l:List Entry}(h:cG l=true){a b:ByteArray}:lR (Edge (gr l) false) a b↔ ∃i c,i<l.length/\c<l.length/\fJ l i c=true/\(nth l i).name=a/\(nth l c).name=b:=by
 constructor
 ·intro w;induction w with
  |edge e=> obtain⟨i,c,f,g,k,n,o⟩:=(GG h).1 e;exact⟨i,c,f,g,acH f k,n,o⟩
  |snoc _ e ih=> obtain⟨i,c,f,g,k,n,o⟩:=ih;obtain⟨j,d,u,s,v,x,p⟩:=(GG h).1 e;have:j=c:=wC h u g (by rw[x,o]);subst this;exact⟨i,d,f,s,acI f g s k (acH g v),n,p⟩
 ·rintro⟨i,c,f,g,k,rfl,rfl⟩;have w:=(DY f g).1 k;clear k;induction w with
  |@edge a b y=>exact .edge ((GG h).2 ⟨a,b,f,g,y,rfl,rfl⟩)
  |@step a m b t z A q r=>exact .trans (q f t) (r t g)
def aaf{l:List Entry}(h:cG l=true){k:Nat}(a:k<l.length):pz l (nth l k).name=some k:=by unfold pz;refine yt (by simp) (fun i b=> ?_) a;rw[qK];intro e;have:=wC h (by omega) a e;omega
def aif{l:List Entry}{s:ByteArray}(h:pz l s=none){k:Nat}(a:k<l.length):(nth l k).name≠s:=by unfold pz at h;have:=aah h k a;simpa using this
def JD{l:List Entry}{s:ByteArray}{k:Nat}(h:pz l s=some k):k<l.length/\(nth l k).name=s:=by obtain⟨a,b,_⟩:=xg h;exact⟨a,by simpa using b⟩
def GH(l:List Entry):List ByteArray:=if cG l then fj l (kH l)else []
def pO(l:List Entry)(s:ByteArray):List ByteArray:=if cG l then match pz l s with|some k=>fj l (fJ l k)|none=>[]else []
def lL(l:List Entry)(s:ByteArray):List ByteArray:=if cG l then match pz l s with|some k=>fj l (fun i=>fJ l i k)|none=>[]else []
def pP(l:List Entry):List ByteArray:=if cG l then fj l (js l)else []
def v8(l:List Entry)(o:List Nat):List ByteArray:=o.map fun i=>(nth l i).name
def wy(l:List Entry):List ByteArray:=if cG l then v8 l (rm l)else []
def I3:mi du []:=List.Pairwise.nil
def ak0{l:List Entry}(h:¬cG l=true):gr l=[]:=by unfold gr;rw[aw h]
def auh{back:Bool}{a:ByteArray}:¬lR (Edge [] back) a b:=by
 intro h;induction h with
 |edge e=>obtain⟨x,c,_⟩:=e;simp at c
 |snoc _ e _=>obtain⟨x,c,_⟩:=e;simp at c
def Kn(l:List Entry)(s:ByteArray):mi du (pO l s)/\∀x,x∈pO l s↔lR (Edge (gr l) false) s x:=by
 unfold pO;split
 ·rename_i h;split
  ·rename_i k d;obtain⟨f,g⟩:=JD d;refine⟨UX h _,fun x=> ?_⟩;rw[DP,XO h];constructor
   ·rintro⟨i,a,b,c⟩;exact⟨k,i,f,a,b,g,c⟩
   ·rintro⟨j,i,a,b,c,e,m⟩;have:j=k:=wC h a f (by rw[e,g]);subst this;exact⟨i,b,c,m⟩
  ·rename_i d;refine⟨I3,fun x=> ?_⟩;rw[XO h];simp only[vf,false_iff];rintro⟨j,i,a,b,c,e,m⟩;exact aif d a e
 ·rename_i h;rw[ak0 h];exact⟨I3,fun x=>by simp[auh]⟩
def alm(l:List Entry)(s:ByteArray):mi du (lL l s)/\∀x,x∈lL l s↔lR (Edge (gr l) true) s x:=by
 have f:∀x,lR (Edge (gr l) true) s x↔lR (Edge (gr l) false) x s:=fun x=>⟨af5 fun h=>ahP.1 h,af5 fun h=>ahP.2 h⟩;unfold lL;split
 ·rename_i h;split
  ·rename_i k d;obtain⟨g,m⟩:=JD d;refine⟨UX h _,fun x=> ?_⟩;rw[f,DP,XO h];constructor
   ·rintro⟨i,b,a,c⟩;exact⟨i,k,b,g,a,c,m⟩
   ·rintro⟨i,j,b,a,c,n,e⟩;have:j=k:=wC h a g (by rw[e,m]);subst this;exact⟨i,b,c,n⟩
  ·rename_i d;refine⟨I3,fun x=> ?_⟩;rw[f,XO h];simp only[vf,false_iff];rintro⟨i,j,b,a,c,n,e⟩;exact aif d a e
 ·rename_i h;rw[ak0 h];exact⟨I3,fun x=>by simp[auh]⟩
def El(e:Entry):Entry:={e with needs:=e.needs.dropLast}
def tK(l:List Entry)(k:Nat):List Entry:=l.set k (El (nth l k))
def tot(l:List Entry):Nat:=(l.map fun e=>e.needs.length).sum
def wF:Nat->List Entry->List Entry
 |0,l=>l
 |n+1,l=>match pP l with
  |[]=>l
  |s::_=>wF n (tK l (cN l s).toNat)
def VN(l:List Entry)(k:Nat):(tK l k).length=l.length:=by simp[tK]
def aEl[Inhabited α](l:List α)(k i:Nat)(x:α)(a:k<l.length):nth (l.set k x) i=if i=k then x else nth l i:=by
 unfold nth;simp only[kQ,C6];by_cases e:k=i
 ·subst e;simp[a]
 ·rw[aw e,aw (fun h=>e h.symm)]
def acg{l:List Entry}{k:Nat}(h:k<l.length):nth (tK l k) i=if i=k then El (nth l k)else nth l i:=aEl l k i _ h
def anw{l:List Entry}{k:Nat}(h:k<l.length):(nth (tK l k) i).name=(nth l i).name:=by
 rw[acg h];split
 ·rename_i e;subst e;rfl
 ·rfl
def aEj[Inhabited α](l:List α){i:Nat}(h:i<l.length-1):nth l.dropLast i=nth l i:=by unfold nth;simp only[kQ,List.getElem?_dropLast,aD h]
def aHk{e:Entry}(h:mR e=true):mR (El e)=true:=by
 unfold mR at *;simp only[aY,dr,kC]at *;obtain⟨⟨⟨⟨b,c⟩,d⟩,g⟩,f⟩:=h;refine⟨⟨⟨⟨b,c⟩,d⟩,?_⟩,fun k i=> ?_⟩
 ·show e.needs.dropLast.length<=3;rw[IE];omega
 ·have a:k<e.needs.length-1:=by have:(El e).needs.length=e.needs.length-1:=IE;omega
  have:=f k (by omega);unfold rf at *;show(BU (nth e.needs.dropLast k)&& !decide ((nth e.needs.dropLast k).j8=e.name))=true;rw[aEj _ a];exact this
def anx{l:List Entry}(h:cG l=true){k:Nat}(b:k<l.length):cG (tK l k)=true:=by
 have p:=qt h;unfold cG;rw[aY,dr,kC,VN];refine⟨p.1,fun i c=> ?_⟩;have a:=p.2 i c;unfold mB at *;rw[anw b,anw b];simp only[aY]at a ⊢;refine⟨?_,a.2⟩;rw[acg b];split
 ·rename_i e;subst e;exact aHk a.1
 ·exact a.1
def ant:∀(l:List Entry) (k:Nat) (x:Entry),k<l.length->tot (l.set k x)+(nth l k).needs.length=tot l+x.needs.length
 |[],k,x,h=>by simp at h
 |e::l,0,x,_=>by show(x.needs.length+tot l)+e.needs.length=(e.needs.length+tot l)+x.needs.length;omega
 |e::l,k+1,x,h=>by have:=ant l k x (by simpa using h);show(e.needs.length+tot (l.set k x))+(nth l k).needs.length=(e.needs.length+tot l)+x.needs.length;omega
def anu{l:List Entry}{k:Nat}(h:k<l.length)(n:0<(nth l k).needs.length):tot (tK l k)+1=tot l:=by have:=ant l k (El (nth l k)) h;have a:(El (nth l k)).needs.length=(nth l k).needs.length-1:=IE;unfold tK;omega
def aGV{l:List Entry}(b:i<l.length)(h:js l i=true):0<(nth l i).needs.length:=by
 refine Nat.pos_of_ne_zero fun e=> ?_;have m:kH l i=false:=by
  cases d:kH l i with
  |false=>rfl
  |true=>obtain⟨k,g,_⟩:=aD1.1 d;omega
 have r:∀j,j<l.length->fJ l i j=false:=fun j f=>by
  cases d:fJ l i j with
  |false=>rfl
  |true=> obtain⟨c,_,a,_⟩:=(amf b f).1 d;obtain⟨k,g,_⟩:=acd.1 a;omega
 rcases (ada b).1 h with a|a|⟨j,f,a,_⟩
 ·rw[m]at a;cases a
 ·rw[r i b]at a;cases a
 ·rw[r j f]at a;cases a
def aie{l:List Entry}(h:cG l=true){k:Nat}(a:k<l.length):cN l (nth l k).name=k:=by unfold cN;rw[aaf h a]
def anf{l:List Entry}(h:cG l=true){s:ByteArray}{r:List ByteArray}(a:pP l=s::r):∃k,k<l.length/\cN l s=(k:Int)/\0<(nth l k).needs.length:=by
 unfold pP at a;rw[aD h]at a;have:s∈fj l (js l):=by rw[a];simp
 obtain⟨i,b,c,rfl⟩:=DP.1 this;exact⟨i,b,aie h b,aGV b c⟩
def aHm{l:List Entry}(h:cG l=true){s:ByteArray}{r:List ByteArray}(b:pP l=s::r){k:Nat}(c:cN l s=(k:Int))(a:k<l.length)(n:0<(nth l k).needs.length) :
  wF (tot l) l=wF (tot (tK l k)) (tK l k):=by
 have:=anu a n;rw[<-this]
 conv=>lhs;unfold wF
 rw[b];show wF _ (tK l (cN l s).toNat)=_;rw[c];rfl
def aHl{l:List Entry}(h:pP l=[]):∀n,wF n l=l
 |0=>rfl
 |n+1=>by unfold wF;rw[h]
def anv{l:List Entry}:∀{n:Nat},cG l=true->(∀e∈l,e.recipe.length<=5/\e.needs.length<=3)->cG (wF n l)=true/\(∀e∈wF n l,e.recipe.length<=5/\e.needs.length<=3)
 |0,h,f=>⟨h,f⟩
 |n+1,h,f=>by
  unfold wF;split
  ·exact⟨h,f⟩
  ·rename_i s r b;obtain⟨k,h1,h2,d⟩:=anf h b;rw[h2,gX];refine anv (anx h h1) fun e c=> ?_;rcases sY c with a|rfl
   ·exact f e a
   ·have a:=f (nth l k) (gF h1);have g:(El (nth l k)).needs.length=(nth l k).needs.length-1:=IE;exact⟨a.1,by omega⟩
def yN(l:List ByteArray)(s:ByteArray):D.sl (l.map aB.cells++[[.str s]])=ak (l++[s]):=by simp[ak,fP]
def axe(l:List Entry)(x:D)(p:Nat->Bool)(c:l.length<=1048576)(hx:bH aJ.tab (.one (.c .fn)) x)(b:∀i:Nat,i<l.length->Qy az x [.int .i64 i] (.bool (p i))):dN az 27 none [ak l,x] (ak (fj l p)) [] [(0,1)]:=by
 refine gu aoX aIb ⟨mL l,hx,trivial⟩ fun f=> ?_;unfold aoX;refine cU l.length (fun k=>[ak (uH l p k),.int .i64 k]) (fun _=>True) rfl trivial ?_;intro k d _ _;simp only[cA];have e:=acb l p k;apply aj<;>intro h<;>simp only[eS]at h
 ·have h:k<l.length:=by simp at h;exact h
  refine dK ?_;refine ayE rfl rfl (b k h) trivial ?_;simp only[cA];apply aj<;>intro a<;>simp only[eS,oQ,iW]at a
  ·refine aQ (fun _=> ?_) ?_
   ·simp[E.den];omega
   refine cJ h ?_ trivial;simp only[eS,oQ,iW];rw[bF,UW,aD a,yN];rfl
  ·refine cJ h ?_ trivial;simp only[eS];rw[bF,UW,aw (by simpa using a)];rfl
 ·obtain rfl:k=l.length:=by simp at h;omega
  exact ay (by simp[E.den,fj])
def aHd:aJ.tab 4=[.bool]:=by kernel_rfl
def aHe:aJ.tab 66=[.sl 4]:=by kernel_rfl
def adm(n:Nat)(f:Nat->Bool):cI aJ.tab (.sl 4) (dJ n f):=by show da _ (aJ.tab _) _;rw[aHd];refine sV fun r h=> ?_;unfold rowsOf at h;obtain⟨a,_,rfl⟩:=fN.1 h;exact⟨trivial,trivial⟩
def anS(n:Nat)(S:Nat->Nat->Bool):cI aJ.tab (.sl 66) (jK n S):=by show da _ (aJ.tab _) _;rw[aHe];refine sV fun r h=> ?_;unfold rowsOf at h;obtain⟨a,_,rfl⟩:=fN.1 h;exact⟨adm _ _,trivial⟩
def LH(l:List Entry):List D:=[dJ l.length (kH l),jK l.length (fG l),jK l.length (fJ l)]
def an9(l:List Entry):bE aJ.tab [.sl 4,.sl 66,.sl 66] (LH l):=⟨adm _ _,anS _ _,anS _ _,trivial⟩
def VU(l:List Entry):bH aJ.tab (.one (.agg [.sl 4,.sl 66,.sl 66])) (lB l):=an9 l
def awZ(l:List Entry)(k i:Nat)(h:k<l.length)(a:i<l.length):LJ az 28 [.int .i64 i] [LH l,[.int .i64 k]] (.bool (fJ l k i)):=by
 refine auC aJT aHR rfl rfl ?_ (fun f c=> ?_)
 ·exact⟨rfl,an9 l,⟨rfl,trivial⟩,trivial⟩
 unfold aoE;simp only[gY,iw,jJ,rR];refine aQ (fun _=> ?_) (aQ (fun _=> ?_) (ay ?_))
 ·simp only[eS,LH,I5];simp;omega
 ·simp only[eS,LH,qL h,lT];simp;omega
 ·simp only[eS,LH,qL h,AZ a]
def aid{l:List Entry}{s:ByteArray}:cN l s<0↔pz l s=none:=by unfold cN;split<;>rename_i h<;>simp[h]<;>omega
abbrev aEY(l:List Entry)(k:Nat):Nat->Bool:=fJ l k
def awY(l:List Entry)(s:ByteArray)(b:l.length<=1048576):dN az 9 none [ak l,.str s] (ak (pO l s)) [] [(0,1)]:=by
 refine gu aoD aHP ⟨mL l,trivial,trivial⟩ fun t=> ?_;unfold aoD;refine aH (MD l s) ?_;refine aH (agP l) ?_;apply aj<;>intro h<;>simp only[eS]at h
 ·refine ay ?_;have h:cG l=false\/cN l s<0:=by simpa using h
  rcases h with h|h
  ·simp[E.den,pO,h,ak]
  ·rw[aid]at h;simp[E.den,pO,h,ak]
 have h:cG l=true/\0<=cN l s:=by simpa using h
 obtain⟨r,d⟩:=h;cases f:pz l s with
 |none=> have:=aid.2 f;omega
 |some k=>
  have c:=(JD f).1;have a:cN l s=(k:Int):=by unfold cN;rw[f]
  rw[a];refine fD (Zl l b) (hty:=VU l) ?_;refine fD (axe l (.fn 28 [LH l,[.int .i64 k]]) (aEY l k) b trivial (fun i a=>⟨_,_,rfl,awZ l k i c a⟩)) ?_;exact ay (by simp[E.den,pO,r,f])
def al1{l:List Entry}{c:Nat}(h:sw l i j=some c):GV l (nth l i).name (nth (nth l i).needs j)=(nth l c).name:=by unfold GV;rw[show xE l (nth l i).name (nth (nth l i).needs j)=some c from h]
def al0{l:List Entry}(h:sw l i j=none):GV l (nth l i).name (nth (nth l i).needs j)=cL:=by unfold GV;rw[show xE l (nth l i).name (nth (nth l i).needs j)=none from h]
def aDu{l:List Entry}{c:Nat}(h:sw l i j=some c):sr l i (j+1)=sr l i j++[⟨(nth l i).name,(nth l c).name,(nth (nth l i).needs j).kW⟩]:=by rw[akY];unfold zT;rw[h];rfl
def aDt{l:List Entry}(h:sw l i j=none):sr l i (j+1)=sr l i j:=by rw[akY];unfold zT;rw[h];simp
def aDs{l:List Entry}(h:cG l=true){i:Nat}(a:i<l.length)(j:Nat)(b:j<=(nth l i).needs.length):(yL l i++sr l i j).length<=100:=by have c:=ab6 h i (by omega);have d:=akX l i j;have e:=OE h a;have f:=(qt h).1;rw[jI];omega
def aDr(a:List ik)(x:ik)(q:List ik):D.sl (a.map aB.cells++[[.str x.j8,.str x.to,.int .i64 x.kW]])=ak (a++[x]):=by simp[ak,vF]
def VH(l:List Entry)(i j:Nat):Bool:=lG l i||nD (fun j=>fJ l i j&&lG l j) j
def sF(l:List Entry)(i a:Nat):Bool:=decide (a<i)&&js l a
def sG(l:List Entry)(i j a:Nat):Bool:=if a<i then js l a else if a=i then VH l i j else false
def axh(l:List Entry)(g:l.length<=1048576):dN az 78 none [lB l] (dJ l.length (js l)) [] [(0,1)]:=by
 refine gu aog aHw ⟨VU l,trivial⟩ fun f=> ?_;unfold aog;refine aQ (fun _=> ?_) ?_
 ·simp only[eS,lB,lT];simp;omega
 refine cU l.length (fun i=>[.int .i64 i,dJ l.length (sF l i)]) (fun _=>True) ?_ trivial ?_
 ·simp only[eS,lB,lT,eF];simp only[gX,jJ,rR,eF,Vw];rw[show dJ l.length (sF l 0)=dJ l.length (fun _=>false)from tg fun a _=>by simp[sF]];rfl
 intro i k _ _;simp only[cA];apply aj<;>intro h<;>simp only[eS,lB,lT,qZ]at h
 ·have h:i<l.length:=by simp at h;exact h
  refine aQ (fun _=> ?_) (aQ (fun _=> ?_) (aQ (fun _=> ?_) (aQ (fun _=> ?_) ?_)))
  ·simp only[eS,lB,lT];simp;omega
  ·simp only[eS,lB,I5];simp;omega
  ·simp only[eS,lB,qL h,lT];simp;omega
  ·simp only[eS,lB,lT,qZ];simp;omega
  refine cU l.length (fun j=>[.int .i64 j,dJ l.length (sG l i j)]) (fun _=>True) ?_ trivial ?_
  ·simp only[eS,lB,AZ h,qL h,I6];rw[show dJ l.length (sG l i 0)=dJ l.length (fun a=>if a=i then kH l i||fJ l i i else sF l i a)from tg fun a _=>by
    unfold sG sF;by_cases e:a=i
    ·subst e;simp[VH,lG,nD]
    ·by_cases c:a<i<;>simp[e,c]]
   rfl
  intro j m _ _;simp only[cA];apply aj<;>intro b<;>simp only[eS,lB,lT,qZ]at b
  ·have b:j<l.length:=by simp at b;exact b
   refine aQ (fun _=> ?_) (aQ (fun _=> ?_) (aQ (fun _=> ?_) (aQ (fun _=> ?_) (aQ (fun _=> ?_) (aQ (fun _=> ?_) (aQ (fun _=> ?_) ?_))))))
   ·simp only[eS,lB,lT,qZ];simp;omega
   ·simp only[eS,lB,I5];simp;omega
   ·simp only[eS,lB,qL h,lT];simp;omega
   ·simp only[eS,lB,lT];simp;omega
   ·simp only[eS,lB,I5];simp;omega
   ·simp only[eS,lB,qL b,lT];simp;omega
   ·simp only[eS,lB,lT,qZ];simp;omega
   refine cJ b ?_ trivial;simp only[eS,lB,AZ h,AZ b,qL h,qL b,I6];rw[bF,show dJ l.length (sG l i (j+1))=dJ l.length (fun a=>if a=i then sG l i j i||(fJ l i j&&(kH l j||fJ l j j))else sG l i j a)from tg fun a _=>by
    unfold sG;by_cases e:a=i
    ·subst e;simp[VH,lG,nD,Bool.or_assoc]
    ·simp[e]]
   rfl
  ·obtain rfl:j=l.length:=by simp at b;omega
   refine Bb h ?_ trivial;simp only[eS];rw[bF,show dJ l.length (sG l i l.length)=dJ l.length (sF l (i+1))from tg fun a _=>by
    unfold sG sF;by_cases e:a=i
    ·subst e;simp[VH,js]
    ·have:a<i+1↔a<i:=by omega
     by_cases c:a<i<;>simp[e,c,this]]
   rfl
 ·obtain rfl:i=l.length:=by simp at h;omega
  exact ay (by simp only[eS];exact tg fun a d=>by simp[sF,d])
def nx(l:List Entry)(o:List Nat)(i:Nat):Int:=match eH (mK l o) i with|some j=>j|none=> -1
def aEe(l:List Entry)(o:List Nat)(j:Nat):v8 l (o++[j])=v8 l o++[(nth l j).name]:=by simp[v8]
def Ou(l:List Entry)(o:List Nat):(v8 l o).length=o.length:=by simp[v8]
end
end Go.Proofs.YtoomhbopolalnaaGreatDoor
