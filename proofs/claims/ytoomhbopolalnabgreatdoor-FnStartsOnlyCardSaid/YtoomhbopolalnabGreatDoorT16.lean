/- The laws of parts as plain laws of data. -/
import Derived.Test.YtoomhbopolalnabGreatDoorT15
set_option linter.all false
set_option maxRecDepth 100000
namespace Go.Proofs.YtoomhbopolalnabGreatDoor
variable {x:Call}{p:Part}
section
open Go.RowKit Go
variable [GC]
def ayQ(h:dC p=false\/gu x=false):gJ p x=(p,rep 7 0 0 0):=by unfold gJ;rw[aC h]
def ayR(h:dC p=true)(hx:gu x=true)(ho:cw (fq p) (cg x.method)=false):gJ p x=(p,rep 1 0 (cg x.method) (fq p)):=by unfold gJ;rw[aw (by simp[h,hx]),aC ho]
def ayT(h:dC p=true)(hx:gu x=true)(ho:cw (fq p) (cg x.method)=true):gJ p x=bo p.ak.length p x:=by unfold gJ;rw[aw (by simp[h,hx]),aw (by simp[ho])]
def ayS(h:dC p=true)(hx:gu x=true)(ho:cw (fq p) (cg x.method)=true):LX p (gJ p x):=by rw[ayT h hx ho];exact Am _ p x h (bM _) hx ho
def MS(h:dC p=true)(x:Call):dC (gJ p x).1=true/\kM p (gJ p x).1:=by
 by_cases a:gu x=true
 ·by_cases o:cw (fq p) (cg x.method)=true
  ·have:=ayS h a o;exact⟨this.1,this.2.1⟩
  ·rw[ayR h a (by simpa using o)];exact⟨h,kM.refl _⟩
 ·rw[ayQ (.inr (by simpa using a))];exact⟨h,kM.refl _⟩
def aLc{s:ByteArray}(h:(kJ p s).2.code=0):dC p=true/\pM s=true/\p.ak.length<3/\cw (fq p) (mK s)=true/\(kJ p s).1=Bk p [⟨s,0⟩]/\dC (Bk p [⟨s,0⟩])=true:=by
 unfold kJ at h ⊢;split at h
 ·simp[rep]at h
 rename_i d;split at h
 ·simp[rep]at h
 rename_i f;split at h
 ·simp[rep]at h
 rename_i a;rw[aw d,aw f,aw a];have b:dC p=true:=by grind
 have c:pM s=true:=by grind
 have o:cw (fq p) (mK s)=true:=by simpa using a
 refine⟨b,c,by omega,o,rfl,?_⟩;obtain⟨q1,q2,q3⟩:=pQ.1 b;refine pQ.2 ⟨q1,by simp[Bk];omega,fun i g=> ?_⟩;have j:i<p.ak.length+1:=by simpa[Bk]using g
 have k:fP (Bk p [⟨s,0⟩]) i=fP p i:=by
  unfold fP Bk;split
  ·rfl
  ·rw[amd (by omega)]
 rw[k];by_cases e:i<p.ak.length
 ·have:nth (Bk p [⟨s,0⟩]).ak i=nth p.ak i:=amd e;rw[this];exact q3 i e
 ·have e:i=p.ak.length:=by omega
  subst e;have:nth (Bk p [⟨s,0⟩]).ak p.ak.length=⟨s,0⟩:=by simp[Bk,nth]
  rw[this];exact⟨c,o,(by decide:gL 0=true),.inl rfl⟩
end
variable {a:Nat}{S:Nat->Nat->Bool}
section
def PA(S:Nat->Nat->Bool)(i j:Nat)(b:Bool):Nat->Nat->Bool:=fun a c=>if a=i/\c=j then b else S a c
def vL(k i:Nat)(S:Nat->Nat->Bool):Nat->Nat->Nat->Bool
 |0=>S
 |j+1=>PA (vL k i S j) i j (vL k i S j i j||(vL k i S j i k&&vL k i S j k j))
def zO(n k:Nat)(S:Nat->Nat->Bool):Nat->Nat->Nat->Bool
 |0=>S
 |i+1=>vL k i (zO n k S i) n
def Bn(n:Nat)(S:Nat->Nat->Bool):Nat->Nat->Nat->Bool
 |0=>S
 |k+1=>zO n k (Bn n S k) n
def El(S:Nat->Nat->Bool)(k a b:Nat):Bool:=S a b||(S a k&&S k b)
def Nl(k i:Nat)(S:Nat->Nat->Bool):∀(j a b:Nat),vL k i S j a b=if a=i/\b<j then El S k a b else S a b
 |0,a,b=>by simp[vL]
 |j+1,a,b=>by
  have h1:vL k i S j i k=S i k:=by
   rw[Nl k i S j];split
   ·unfold El;cases S i k<;>simp
   ·rfl
  have e:∀c,vL k i S j k c=S k c:=by
   intro c;rw[Nl k i S j];split
   ·rename_i h;unfold El;cases S k c<;>simp
   ·rfl
  simp only[vL,PA];by_cases h:a=i/\b=j
  ·obtain⟨rfl,rfl⟩:=h;rw[aC ⟨rfl,rfl⟩,aC ⟨rfl,Rv _⟩,h1,e,Nl k a S b,aw (by omega)];rfl
  ·rw[aw h,Nl k i S j];by_cases d:a=i/\b<j
   ·rw[aC d,aC ⟨d.1,by omega⟩]
   ·rw[aw d,aw (by omega)]
def aKC(S:Nat->Nat->Bool)(k b:Nat):El S k k b=S k b:=by unfold El;cases S k b<;>simp
def Nk(n k:Nat)(S:Nat->Nat->Bool):∀(i a b:Nat),zO n k S i a b=if a<i/\b<n then El S k a b else S a b
 |0,a,b=>by simp[zO]
 |i+1,a,b=>by
  have h2:∀c,zO n k S i k c=S k c:=by
   intro c;rw[Nk n k S i];split
   ·exact aKC S k c
   ·rfl
  simp only[zO];rw[Nl];by_cases h:a=i/\b<n
  ·obtain⟨rfl,e⟩:=h;rw[aC ⟨rfl,e⟩,aC ⟨Rv _,e⟩];unfold El;rw[h2,Nk n k S a,aw (by omega),Nk n k S a,aw (by omega)]
  ·rw[aw h,Nk n k S i];by_cases d:a<i/\b<n
   ·rw[aC d,aC ⟨by omega,d.2⟩]
   ·rw[aw d,aw (by omega)]
inductive Way(S:Nat->Nat->Bool)(k:Nat):Nat->Nat->Prop
 |edge {a b:Nat} (h:S a b=true):Way S k a b
 |step {a m b:Nat} (hm:m<k) (h1:Way S k a m) (h2:Way S k m b):Way S k a b
def Way.mono{k d:Nat}(e:k<=d){a b:Nat}(h:Way S k a b):Way S d a b:=by
 induction h with
 |edge h=>exact .edge h
 |step m _ _ i c=>exact .step (by omega) i c
def aK7{k b:Nat}:Way S (k+1) a b↔Way S k a b\/(Way S k a k/\Way S k k b):=by
 constructor
 ·intro h;induction h with
  |edge h=>exact .inl (.edge h)
  |@step a m b o _ _ i g=>
   by_cases e:m=k
   ·subst e;have l:Way S m a m:=i.elim id fun h=>h.1;have r:Way S m m b:=g.elim id fun h=>h.2;exact .inr ⟨l,r⟩
   ·have c:m<k:=by omega
    rcases i with d|⟨d,n⟩<;>rcases g with f|⟨f,j⟩
    ·exact .inl (.step c d f)
    ·exact .inr ⟨.step c d f,j⟩
    ·exact .inr ⟨d,.step c n f⟩
    ·exact .inr ⟨d,j⟩
 ·rintro (h|⟨d,f⟩)
  ·exact h.mono (by omega)
  ·exact .step (Rv k) (d.mono (by omega)) (f.mono (by omega))
def aK8{b:Nat}:Way S 0 a b↔S a b=true:=by
 constructor
 ·intro h;cases h with
  |edge h=>exact h
  |step m=>omega
 ·exact .edge
def Ui(n:Nat)(S:Nat->Nat->Bool):∀(k:Nat),k<=n->∀a b,a<n->b<n->(Bn n S k a b=true↔Way S k a b)
 |0,_,a,b,_,_=>by rw[aK8];rfl
 |k+1,h,a,b,ha,hb=>by simp only[Bn];rw[Nk,aC ⟨ha,hb⟩,aK7];unfold El;have i:=Ui n S k (by omega) a b ha hb;have c:=Ui n S k (by omega) a k ha (by omega);have d:=Ui n S k (by omega) k b (by omega) hb;simp only[jM,aX,i,c,d]
section
variable {α:Type}[DecidableEq α]
structure Ord(lt:α->α->Bool):Prop where
 Ve:∀a,lt a a=false
 tr:∀{a b c},lt a b=true->lt b c=true->lt a c=true
 tot:∀{a b},lt a b=false->a≠b->lt b a=true
def ml(lt:α->α->Bool)(l:List α):Prop:=l.Pairwise fun a b=>lt a b=true
variable {lt:α->α->Bool}
def SY(ho:Ord lt):∀{a b:List α},ml lt a->ml lt b->(∀x,x∈a↔x∈b)->a=b
 |[],[],_,_,_=>rfl
 |[],y::b,_,_,h=>by have:=(h y).2 (by simp);simp at this
 |x::a,[],_,_,h=>by have:=(h x).1 (by simp);simp at this
 |x::a,y::b,c,d,h=>by
  unfold ml at c d;rw[List.pairwise_cons]at c d;have e:x=y:=by
   refine Rd fun n=> ?_;have i:x∈b:=by
    have:=(h x).1 (by simp);rcases fI.1 this with h|h
    ·exact absurd h n
    ·exact h
   have j:y∈a:=by
    have:=(h y).2 (by simp);rcases fI.1 this with h|h
    ·exact absurd h.symm n
    ·exact h
   have g:=ho.tr (c.1 y j) (d.1 x i);rw[ho.Ve]at g;cases g
  subst e;rw[SY ho c.2 d.2 fun z=> ?_];have f:=h z;simp only[fI]at f;constructor
  ·intro m;rcases f.1 (.inr m)with rfl|h
   ·have:=c.1 z m;rw[ho.Ve]at this;cases this
   ·exact h
  ·intro m;rcases f.2 (.inr m)with rfl|h
   ·have:=d.1 z m;rw[ho.Ve]at this;cases this
   ·exact h
def IZ{l:List α}{x:α}(h:ml lt l)(hx:∀y∈l,lt y x=true):ml lt (l++[x]):=by unfold ml at *;rw[List.pairwise_append];exact⟨h,by simp,fun a d b c=>by simp at c;subst c;exact hx a d⟩
def SZ(ho:Ord lt){l:List α}(h:ml lt l):l.Nodup:=by unfold ml at h;exact h.imp fun {a b} c e=>by subst e;rw[ho.Ve]at c;cases c
variable [Inhabited α]
def gA(lt:α->α->Bool)(l:List α)(s:α):Nat->List α×Bool
 |0=>([],false)
 |k+1 =>
  if(gA lt l s k).2 then((gA lt l s k).1++[l.getD k default],true)
  else if lt (l.getD k default) s then((gA lt l s k).1++[l.getD k default],false)
  else if l.getD k default=s then((gA lt l s k).1++[l.getD k default],true)
  else((gA lt l s k).1++[s]++[l.getD k default],true)
def xG(lt:α->α->Bool)(l:List α)(s:α):List α:=if(gA lt l s l.length).2 then(gA lt l s l.length).1 else(gA lt l s l.length).1++[s]
def adh(l:List α)(s:α):∀k,(gA lt l s k).1.length<=k+(if(gA lt l s k).2 then 1 else 0)
 |0=>by simp[gA]
 |k+1=>by
  have:=adh l s k;simp only[gA];repeat' split
  all_goals simp_all
  all_goals (try split at this)
  all_goals omega
def amU(l:List α)(s:α):(xG lt l s).length<=l.length+1:=by have:=adh (lt:=lt) l s l.length;unfold xG;split<;>simp_all
def amX(l:List α)(s y:α):∀k,(y∈(gA lt l s k).1\/y=s)↔(∃i,i<k/\l.getD i default=y)\/y=s
 |0=>by simp[gA]
 |k+1=>by
  have ih:=amX l s y k;have e:(∃i,i<k+1/\l.getD i default=y)↔(∃i,i<k/\l.getD i default=y)\/l.getD k default=y:=by
   constructor
   ·rintro⟨i,a,h⟩;by_cases e:i=k
    ·subst e;exact .inr h
    ·exact .inl ⟨i,by omega,h⟩
   ·rintro (⟨i,a,h⟩|h)
    ·exact⟨i,by omega,h⟩
    ·exact⟨k,by omega,h⟩
  rw[e];clear e;simp only[gA];generalize (∃i,i<k/\l.getD i default=y)=P at *;generalize l.getD k default=z at *;repeat' split
  all_goals simp only[iJ,mQ]
  all_goals grind
def amW(l:List α)(s:α):∀k,(gA lt l s k).2=true->s∈(gA lt l s k).1
 |0,h=>by simp[gA]at h
 |k+1,h=>by
  have ih:=amW l s k;simp only[gA]at h ⊢;repeat' split at h
  all_goals simp_all
def yS(l:List α)(s y:α):y∈xG lt l s↔y∈l\/y=s:=by
 have b:=amX (lt:=lt) l s y l.length;have e:(∃i,i<l.length/\l.getD i default=y)↔y∈l:=by
  constructor
  ·rintro⟨i,a,rfl⟩;rw[jZ,bX a];simp
  ·intro h;obtain⟨i,a,rfl⟩:=tX h;exact⟨i,a,by rw[jZ,bX a];simp⟩
 rw[e]at b;have c:=amW (lt:=lt) l s l.length;unfold xG;split
 ·rename_i d;have:=c d;grind
 ·rw[iJ,mQ];exact b
def amV(ho:Ord lt){l:List α}(h:ml lt l)(s:α):∀k,k<=l.length->ml lt (gA lt l s k).1/\(∀y∈(gA lt l s k).1,∀i,k<=i->i<l.length->lt y (l.getD i default)=true)/\((gA lt l s k).2=false->∀y∈(gA lt l s k).1,lt y s=true)
 |0,_=>⟨by simp[gA,ml],by simp[gA],by simp[gA]⟩
 |k+1,o=>by
  obtain⟨h1,h2,j⟩:=amV ho h s k (by omega);have t:∀i,k<i->i<l.length->lt (l.getD k default) (l.getD i default)=true:=by intro i e a;have:=Iz.1 h k i (by omega) a e;simpa[jZ,a,show k<l.length by omega]using this
  have c:∀y∈(gA lt l s k).1,lt y (l.getD k default)=true:=fun y b=>h2 y b k (bM _) (by omega);generalize m:l.getD k default=z at *;simp only[gA,m];split
  ·refine⟨IZ h1 c,?_,by simp⟩;intro y b i e a;rw[iJ,mQ]at b;rcases b with b|rfl
   ·exact h2 y b i (by omega) a
   ·exact t i (by omega) a
  ·rename_i g;have g:(gA lt l s k).2=false:=by simpa using g
   split
   ·rename_i d;refine⟨IZ h1 c,?_,?_⟩
    ·intro y b i e a;rw[iJ,mQ]at b;rcases b with b|rfl
     ·exact h2 y b i (by omega) a
     ·exact t i (by omega) a
    ·intro _ y b;rw[iJ,mQ]at b;rcases b with b|rfl
     ·exact j g y b
     ·exact d
   ·rename_i d;split
    ·refine⟨IZ h1 c,?_,by simp⟩;intro y b i e a;rw[iJ,mQ]at b;rcases b with b|rfl
     ·exact h2 y b i (by omega) a
     ·exact t i (by omega) a
    ·rename_i n;have f:lt s z=true:=ho.tot (by simpa using d) n;refine⟨IZ (IZ h1 (j g)) ?_,?_,by simp⟩
     ·intro y b;rw[iJ,mQ]at b;rcases b with b|rfl
      ·exact c y b
      ·exact f
     ·intro y b i e a;simp only[iJ,mQ]at b;rcases b with (b|rfl)|rfl
      ·exact h2 y b i (by omega) a
      ·exact ho.tr f (t i (by omega) a)
      ·exact t i (by omega) a
def amT(ho:Ord lt){l:List α}(h:ml lt l)(s:α):ml lt (xG lt l s):=by
 obtain⟨a,c,b⟩:=amV ho h s l.length (bM _);unfold xG;split
 ·exact a
 ·rename_i d;exact IZ a (b (by simpa using d))
end
end
variable {b:ByteArray}{i j n:Nat}{f:Nat->Bool}{α:Type}
section
open Go.RowKit Go
variable [GC]
def rowsOf(f:Nat->D)(n:Nat):List (List D):=(List.range n).map fun a=>[f a]
@[simp] def aM1 (f:Nat->D) (n:Nat):(rowsOf f n).length=n:=by simp[rowsOf]
def Km{f:Nat->D}(h:i<n)(z:List D):((rowsOf f n)[i]?).getD z=[f i]:=by simp[rowsOf,h]
def ze{f g:Nat->D}(h:∀a,a<n->f a=g a):rowsOf f n=rowsOf g n:=by unfold rowsOf;exact E6 fun a b=>by rw[h a (by simpa using b)]
def Ph(x:D)(n:Nat):List.replicate n [x]=rowsOf (fun _=>x) n:=by
 apply zB;intro i;by_cases h:i<n
 ·simp[rowsOf,List.getElem?_replicate,h]
 ·rw[nI (by simp;omega),nI (by simp;omega)]
def Pj(f:Nat->D)(n i:Nat)(x:D):pg (rowsOf f n) i 0 [x]=rowsOf (fun a=>if a=i then x else f a) n:=by
 unfold pg;apply zB;intro j;rw[Da];by_cases b:j<n
 ·by_cases e:i=j
  ·subst e;simp[rowsOf,b,List.getD,xM]
  ·rw[aw e];simp[rowsOf,b];intro h;exact absurd h.symm e
 ·by_cases e:i=j
  ·subst e;rw[aC rfl,aw (by simp;omega),nI (by simp;omega)]
  ·rw[aw e,nI (by simp;omega),nI (by simp;omega)]
def da(n:Nat)(f:Nat->Bool):D:=.sl (rowsOf (fun j=>.bool (f j)) n)
def j8(n:Nat)(S:Nat->Nat->Bool):D:=.sl (rowsOf (fun i=>da n (S i)) n)
def Ft(n:Nat)(f:Nat->Bool)(i:Nat)(b:Bool):D.sl (pg (da n f).lP i 0 [.bool b])=da n (fun a=>if a=i then b else f a):=by unfold da;rw[AP,Pj];congr 1;refine ze fun a _=> ?_;show _=D.bool (if a=i then b else f a);split<;>rfl
def rV{g:Nat->Bool}(h:∀a,a<n->f a=g a):da n f=da n g:=by unfold da;rw[ze fun a b=>by rw[h a b]]
def kQ(n:Nat)(f:Nat->Bool):cG (da n f)=n:=by simp[da,cG]
def Fs(n:Nat)(S:Nat->Nat->Bool):cG (j8 n S)=n:=by simp[j8,cG]
def yl(h:i<n)(z:List D):(((da n f).lP)[i]?).getD z=[.bool (f i)]:=by unfold da;rw[AP,Km h]
def pG(h:i<n)(z:List D):(((j8 n S).lP)[i]?).getD z=[da n (S i)]:=by unfold j8;rw[AP,Km h]
def axs{T:Nat->Nat->Bool}(h:∀a b,a<n->b<n->S a b=T a b):j8 n S=j8 n T:=by unfold j8;rw[ze fun a c=>rV fun b d=>h a b c d]
def axt(n:Nat)(S:Nat->Nat->Bool)(i:Nat)(f:Nat->Bool):D.sl (pg (j8 n S).lP i 0 [da n f])=j8 n (fun a b=>if a=i then f b else S a b):=by unfold j8;rw[AP,Pj];congr 1;refine ze fun a _=> ?_;by_cases e:a=i<;>simp[e]
def nL(p:Nat->Bool):Nat->Bool
 |0=>false
 |n+1=>nL p n||p n
def IW{p:Nat->Bool}:∀{n:Nat},nL p n=true↔ ∃k,k<n/\p k=true
 |0=>by simp[nL]
 |n+1=>by
  simp only[nL,jM,IW (n:=n)];constructor
  ·rintro (⟨k,a,h⟩|h)
   ·exact⟨k,by omega,h⟩
   ·exact⟨n,by omega,h⟩
  ·rintro⟨k,a,h⟩;by_cases e:k=n
   ·subst e;exact .inr h
   ·exact .inl ⟨k,by omega,h⟩
def sC(l:List Entry)(a k:Nat):Option Nat:=xF l (nth l a).name (nth (nth l a).needs k)
def Aa(l:List Entry)(a j c:Nat):Bool:=nL (fun k=>decide (sC l a k=some c)) j
def BV(l:List Entry)(a j:Nat):Bool:=nL (fun k=>(sC l a k).isNone) j
def fB(l:List Entry)(a c:Nat):Bool:=Aa l a (nth l a).needs.length c
def jU(l:List Entry)(a:Nat):Bool:=BV l a (nth l a).needs.length
def dM(l:List Entry):Nat->Nat->Bool:=Bn l.length (fB l) l.length
def jx(l:List Entry):D:=.agg [da l.length (jU l),j8 l.length (fB l),j8 l.length (dM l)]
def nF(l:List Entry)(n i a:Nat):D:=if a<i then da n (fB l a)else .sl []
def mF(l:List Entry)(i a:Nat):Bool:=decide (a<i)&&jU l a
def nG(l:List Entry)(n i j a:Nat):D:=if a<i then da n (fB l a)else if a=i then da n (Aa l i j)else .sl []
def mG(l:List Entry)(i j a:Nat):Bool:=if a<i then jU l a else if a=i then BV l i j else false
def OZ{l:List Entry}{k c:Nat}(h:sC l a k=some c):c<l.length:=(vG h).1
def yq{P:Program}{tab:Nat->List CT}{env:List D}{Q:D->List D->Prop}{L:List (List D->Prop)}{r:List D->Prop}{es:List E}{xs:List D}{p q:Prop}
  (a:p) (h:es.map (·.den env)=xs) (b:q):(VC.again 1 es).den P tab env Q (r::(fun y=>p/\y=xs/\q)::L):=⟨a,h,b⟩
def Tk(l:List Entry)(y:l.length<=1048576):dJ az 19 none [aj l] (jx l) [] [(0,1),(1,1),(2,1)]:=by
 refine gh apQ aIO ⟨mh l,trivial⟩ fun t=> ?_;unfold apQ;have r:=t.1;refine aM (fun _=> ?_) (aM (fun _=> ?_) (aM (fun _=> ?_) ?_))
 ·simp only[eS];simp;omega
 ·simp only[eS];simp;omega
 ·simp only[eS];simp;omega
 refine cQ l.length (fun i=>[.int .i64 i,.sl (rowsOf (nF l l.length i) l.length),.sl (rowsOf (nF l l.length i) l.length),da l.length (mF l i)]) (fun _=>True) ?_ trivial ?_
 ·simp only[eS,eF];have e:∀x:D,List.replicate l.length [x]=rowsOf (fun _=>x) l.length:=fun x=>Ph x _;simp only[gR,jA,qQ,eF,e];have m:rowsOf (nF l l.length 0) l.length=rowsOf (fun _=>.sl []) l.length:=ze fun a _=>by simp[nF]
  have g:da l.length (mF l 0)=da l.length (fun _=>false):=rV fun a _=>by simp[mF]
  rw[m,g];rfl
 intro i I _ _;simp only[cA];apply ai<;>intro n<;>simp only[eS]at n
 ·have n:i<l.length:=by simp at n;exact n
  have z:(nth l i).needs.length<=9223372036854775807:=kS (az8 r n).2.2.2.2.1;refine eu ?_;refine aM (fun _=> ?_) ?_
  ·simp only[eS];simp;omega
  refine aM (fun _=> ?_) ?_
  ·simp only[eS,BU,oU];simp;omega
  refine cQ (nth l i).needs.length (fun j=>[.int .i64 j,.sl (rowsOf (nF l l.length i) l.length),.sl (rowsOf (nG l l.length i j) l.length),da l.length (mG l i j)]) (fun _=>True) ?_ trivial ?_
  ·simp only[eS,eF];simp only[gR,jA,qQ,eF,Ph,Pj];have m:rowsOf (fun a=>if a=i then D.sl (rowsOf (fun _=>.bool false) l.length)else nF l l.length i a) l.length=rowsOf (nG l l.length i 0) l.length:=ze fun a _=>by
    unfold nF nG;by_cases e:a=i
    ·subst e;simp[Aa,nL,da]
    ·simp[e]
   have g:da l.length (mF l i)=da l.length (mG l i 0):=rV fun a _=>by unfold mF mG BV nL;by_cases e:a<i<;>simp[e]
   rw[m,g];rfl
  intro j J _ _;simp only[cA];have o:nG l l.length i j i=da l.length (Aa l i j):=by simp[nG]
  apply ai<;>intro d<;>simp only[eS,oZ,ja]at d
  ·have d:j<(nth l i).needs.length:=by simp at d;exact d
   refine eu ?_;refine aF (ax7 l (nth l i).name (nth (nth l i).needs j)) ?_;apply ai<;>intro f<;>simp only[eS]at f
   ·obtain⟨c,p⟩:∃c,sC l i j=some c:=by
     cases s:sC l i j with
     |some c=>exact⟨c,rfl⟩
     |none=>
      have:Ch l (nth l i).name (nth (nth l i).needs j)= -1:=by unfold Ch;rw[show xF l (nth l i).name (nth (nth l i).needs j)=none from s]
      rw[this]at f;simp at f
    have A:=OZ p;have u:Ch l (nth l i).name (nth (nth l i).needs j)=c:=by unfold Ch;rw[show xF l (nth l i).name (nth (nth l i).needs j)=some c from p]
    rw[u];refine aM (fun _=> ?_) ?_
    ·simp only[eS,BU,oU];simp;omega
    refine aM (fun _=> ?_) ?_
    ·simp only[eS,Km n,o,kQ];simp only[gR,cG];simp;omega
    refine cK d ?_ trivial;simp only[eS,Km n,o,Ft,Pj];rw[bC];have m:rowsOf (fun a=>if a=i then da l.length (fun b=>if b=c then true else Aa l i j b)else nG l l.length i j a) l.length=rowsOf (nG l l.length i (j+1)) l.length:=ze fun a _=>by
     unfold nG;by_cases e:a=i
     ·subst e;simp only[ue,Ru,vz];refine rV fun b _=> ?_;simp only[Aa,nL,p];by_cases g:b=c
      ·subst g;simp
      ·have:¬(some c=some b):=fun h=>g (by simpa using h.symm);simp[g,this]
     ·simp[e]
    have g:da l.length (mG l i j)=da l.length (mG l i (j+1)):=rV fun a _=>by
     unfold mG;by_cases e:a=i
     ·subst e;simp[BV,nL,p]
     ·simp[e]
    rw[m,g];rfl
   ·have p:sC l i j=none:=by
     cases s:sC l i j with
     |none=>rfl
     |some c=>
      have:Ch l (nth l i).name (nth (nth l i).needs j)=c:=by unfold Ch;rw[show xF l (nth l i).name (nth (nth l i).needs j)=some c from s]
      rw[this]at f;simp at f
    refine aM (fun _=> ?_) ?_
    ·simp only[eS,BU,oU];simp;omega
    refine cK d ?_ trivial;simp only[eS,Ft];rw[bC];have m:rowsOf (nG l l.length i j) l.length=rowsOf (nG l l.length i (j+1)) l.length:=ze fun a _=>by
     unfold nG;by_cases e:a=i
     ·subst e;simp only[ue,Ru,vz];refine rV fun b _=> ?_;simp[Aa,nL,p]
     ·simp[e]
    have g:da l.length (fun a=>if a=i then true else mG l i j a)=da l.length (mG l i (j+1)):=rV fun a _=>by
     unfold mG;by_cases e:a=i
     ·subst e;simp[BV,nL,p]
     ·simp[e]
    rw[m,g];rfl
  ·obtain rfl:j=(nth l i).needs.length:=by simp at d;omega
   refine aM (fun _=> ?_) ?_
   ·simp only[eS,BU,oU];simp;omega
   refine aM (fun _=> ?_) ?_
   ·simp only[eS,Km n,o,kQ];simp;omega
   refine aM (fun _=> ?_) ?_
   ·simp only[eS,BU,oU];simp;omega
   refine yq n ?_ trivial;simp only[eS,Km n,o,Pj];rw[bC];have m:rowsOf (fun a=>if a=i then da l.length (Aa l i (nth l i).needs.length)else nF l l.length i a) l.length=rowsOf (nF l l.length (i+1)) l.length:=ze fun a _=>by
    unfold nF;by_cases e:a=i
    ·subst e;simp[fB];rfl
    ·have:a<i+1↔a<i:=by omega
     simp[e,this]
   have g:rowsOf (nG l l.length i (nth l i).needs.length) l.length=rowsOf (nF l l.length (i+1)) l.length:=ze fun a _=>by
    unfold nF nG;by_cases e:a=i
    ·subst e;simp[fB];rfl
    ·have:a<i+1↔a<i:=by omega
     simp[e,this]
   have v:da l.length (mG l i (nth l i).needs.length)=da l.length (mF l (i+1)):=rV fun a _=>by
    unfold mF mG;by_cases e:a=i
    ·subst e;simp[jU]
    ·have:a<i+1↔a<i:=by omega
     by_cases h:a<i<;>simp[e,this,h]
   rw[m,g,v];rfl
 ·obtain rfl:i=l.length:=by simp at n;omega
  have m:D.sl (rowsOf (nF l l.length l.length) l.length)=j8 l.length (fB l):=by unfold j8;rw[ze (g:=fun i=>da l.length (fB l i)) fun a w=>by simp[nF,w]]
  have g:da l.length (mF l l.length)=da l.length (jU l):=rV fun a w=>by simp[mF,w]
  rw[m,g];refine cQ l.length (fun k=>[.int .i64 k,j8 l.length (Bn l.length (fB l) k),j8 l.length (fB l),da l.length (jU l)]) (fun _=>True) rfl trivial ?_;intro k L _ _;simp only[cA];apply ai<;>intro d<;>simp only[eS]at d
  ·have d:k<l.length:=by simp at d;exact d
   refine cQ l.length (fun i=>[.int .i64 i,j8 l.length (zO l.length k (Bn l.length (fB l) k) i),j8 l.length (fB l),da l.length (jU l)]) (fun _=>True) rfl trivial ?_;intro i B _ _;simp only[cA];apply ai<;>intro f<;>simp only[eS]at f
   ·have f:i<l.length:=by simp at f;exact f
    refine cQ l.length (fun j=>[.int .i64 j,j8 l.length (vL k i (zO l.length k (Bn l.length (fB l) k) i) j),j8 l.length (fB l),da l.length (jU l)]) (fun _=>True) rfl trivial ?_;intro j C _ _;simp only[cA];apply ai<;>intro q<;>simp only[eS]at q
    ·have q:j<l.length:=by simp at q;exact q
     generalize F:vL k i (zO l.length k (Bn l.length (fB l) k) i) j=T;have G:vL k i (zO l.length k (Bn l.length (fB l) k) i) (j+1)=PA T i j (T i j||(T i k&&T k j)):=by rw[<-F];rfl
     refine aM (fun _=> ?_) (aM (fun _=> ?_) (aM (fun _=> ?_) (aM (fun _=> ?_) (aM (fun _=> ?_) (aM (fun _=> ?_) (aM (fun _=> ?_) (aM (fun _=> ?_) ?_)))))))
     ·simp only[eS,BU,oU];simp;omega
     ·simp only[eS,BU,oU];simp;omega
     ·simp only[eS,pG f,kQ];simp only[gR,cG];simp;omega
     ·simp only[eS,BU,oU];simp;omega
     ·simp only[eS,pG f,kQ];simp only[gR,cG];simp;omega
     ·simp only[eS,BU,oU];simp;omega
     ·simp only[eS,pG d,kQ];simp only[gR,cG];simp;omega
     ·simp only[eS,pG f,kQ];simp only[gR,cG];simp;omega
     refine cK q ?_ trivial;simp only[eS,pG f,pG d,yl q,yl d,Ft,axt];rw[bC,G];have v:j8 l.length (fun a b=>if a=i then(if b=j then T i j||(T i k&&T k j)else T i b)else T a b)=j8 l.length (PA T i j (T i j||(T i k&&T k j))):=axs fun a b _ _=>by
      unfold PA;by_cases e:a=i
      ·subst e;by_cases H:b=j<;>simp[H]
      ·simp[e]
     rw[v];rfl
    ·obtain rfl:j=l.length:=by simp at q;omega
     refine yq f ?_ trivial;simp only[eS];rw[bC];rfl
   ·obtain rfl:i=l.length:=by simp at f;omega
    refine yq d ?_ trivial;simp only[eS];rw[bC];rfl
  ·obtain rfl:k=l.length:=by simp at d;omega
   exact ay rfl
def Entry.fit(e:Entry):Prop:=e.recipe.length<=1048576/\e.needs.length<=1048576
def ahA(l:List ByteArray)(h:l.length<=1048576):dJ az 50 none [aj l] (aj l) [] [(0,1)]:=by
 refine gh apH aIE ⟨jW l,trivial⟩ fun f=> ?_;unfold apH;refine aM (fun _=> ?_) (ay ?_)
 ·simp[E.den];omega
 ·simp[E.den,aj]
def MO(l:List ByteArray)(h:l.length<=1048576):dJ az 46 none [aj l] (aj l) [] [(0,1)]:=by
 refine gh aqN aJJ ⟨jW l,trivial⟩ fun f=> ?_;unfold aqN;refine aM (fun _=> ?_) (ay ?_)
 ·simp[E.den];omega
 ·simp[E.den,aj]
def ax2(e:Entry)(h:e.fit):dJ az 81 none [enc e] (enc e) [] [(1,1),(4,4)]:=by
 refine gh apE aIB ⟨Ao e,trivial⟩ fun f=> ?_;unfold apE;refine dU (ahA e.recipe h.1) ?_;have a:=h.2;refine aM (fun _=> ?_) (ay ?_)
 ·simp[E.den,ja];omega
 ·simp[E.den,ja,enc,aj]
def ahO(e:Entry)(h:e.fit):dJ az 96 none [enc e] (enc e) [] [(1,1),(4,4)]:=by
 refine gh arc aJ8 ⟨Ao e,trivial⟩ fun f=> ?_;unfold arc;refine dU (MO e.recipe h.1) ?_;have a:=h.2;refine aM (fun _=> ?_) (ay ?_)
 ·simp[E.den,ja];omega
 ·simp[E.den,ja,enc,aj]
def Ku[Inhabited α](l:List α){k:Nat}(h:k<l.length):l.take (k+1)=l.take k++[nth l k]:=by rw[Za h];simp[nth,jZ,bX h]
def aix[aB α](l:List α)(x:α):D.sl (l.map aB.cells++[aB.cells x])=aj (l++[x]):=by simp[aj]
def ax1(l:List Entry)(b:l.length<=1048576)(a:∀e∈l,e.fit):dJ az 49 none [aj l] (aj l) [] [(0,5)]:=by
 refine gh apD aIA ⟨mh l,trivial⟩ fun f=> ?_;unfold apD;refine cQ l.length (fun k=>[aj (l.take k),.int .i64 k]) (fun _=>True) rfl trivial ?_;intro k c _ _;simp only[cA];apply ai<;>intro h<;>simp only[eS]at h
 ·have h:k<l.length:=by simp at h;exact h
  refine eu ?_;refine dU (ax2 (nth l k) (a _ (gK h))) (hty:=Ao _) ?_;refine aM (fun _=> ?_) ?_
  ·simp[E.den];omega
  refine cK h ?_ trivial;simp only[eS,iy];rw[bC,aix, <-Ku l h];rfl
 ·obtain rfl:k=l.length:=by simp at h;omega
  exact ay (by simp[E.den])
def ahN(l:List Entry)(b:l.length<=1048576)(a:∀e∈l,e.fit):dJ az 57 none [aj l] (aj l) [] [(0,5)]:=by
 refine gh arb aJ7 ⟨mh l,trivial⟩ fun f=> ?_;unfold arb;refine cQ l.length (fun k=>[aj (l.take k),.int .i64 k]) (fun _=>True) rfl trivial ?_;intro k c _ _;simp only[cA];apply ai<;>intro h<;>simp only[eS]at h
 ·have h:k<l.length:=by simp at h;exact h
  refine eu ?_;refine dU (ahO (nth l k) (a _ (gK h))) (hty:=Ao _) ?_;refine aM (fun _=> ?_) ?_
  ·simp[E.den];omega
  refine cK h ?_ trivial;simp only[eS,iy];rw[bC,aix, <-Ku l h];rfl
 ·obtain rfl:k=l.length:=by simp at h;omega
  exact ay (by simp[E.den])
def pK(l:List Entry)(s:ByteArray):Option Nat:=eA (fun k=>decide ((nth l k).name=s)) l.length
def cV(l:List Entry)(s:ByteArray):Int:=match pK l s with|some k=>k|none=> -1
def MK(l:List Entry)(s:ByteArray):aH az 20 none [aj l,.str s] (.int .i64 (cV l s)) []:=by
 refine cu ao9 aH9 ⟨mh l,trivial,trivial⟩ fun f=> ?_;have c:l.length<=9223372036854775807:=kS f.1;unfold ao9;refine cQ l.length (fun k=>[.int .i64 k]) (fun k=>∀i,i<k->decide ((nth l i).name=s)=false) rfl (by omega) ?_;intro k d I _;simp only[cA];apply ai<;>intro a<;>simp only[eS]at a
 ·have a:k<l.length:=by simp at a;exact a
  refine eu ?_;apply ai<;>intro b<;>simp only[eS,oZ,ja]at b
  ·refine ay ?_;simp[E.den,cV,pK,vI (p:=fun k=>decide ((nth l k).name=s)) b I a]
  ·refine cK a ?_ fun i e=> ?_
   ·simp only[eS];rw[bC];rfl
   ·rcases dP i k with h|h
    ·exact I i h
    ·obtain rfl:i=k:=by omega
     exact b
 ·obtain rfl:k=l.length:=by simp at a;omega
  exact ay (by simp[E.den,cV,pK,vH I])
def qR(l:List Entry)(s:ByteArray):aH az 40 none [aj l,.str s] (.int .i64 (cV l s)) []:=by
 refine cu ap2 aI2 ⟨mh l,trivial,trivial⟩ fun f=> ?_;have c:l.length<=9223372036854775807:=kS f.1;unfold ap2;refine cQ l.length (fun k=>[.int .i64 k]) (fun k=>∀i,i<k->decide ((nth l i).name=s)=false) rfl (by omega) ?_;intro k d I _;simp only[cA];apply ai<;>intro a<;>simp only[eS]at a
 ·have a:k<l.length:=by simp at a;exact a
  refine eu ?_;apply ai<;>intro b<;>simp only[eS,oZ,ja]at b
  ·refine ay ?_;simp[E.den,cV,pK,vI (p:=fun k=>decide ((nth l k).name=s)) b I a]
  ·refine cK a ?_ fun i e=> ?_
   ·simp only[eS];rw[bC];rfl
   ·rcases dP i k with h|h
    ·exact I i h
    ·obtain rfl:i=k:=by omega
     exact b
 ·obtain rfl:k=l.length:=by simp at a;omega
  exact ay (by simp[E.den,cV,pK,vH I])
def ahh:∀{a b:List UInt8},Op.bytesLess a b=true->Op.bytesLess b a=false
 |[],[],h=>by simp[Op.bytesLess]at h
 |[],_::_,_=>by simp[Op.bytesLess]
 |_::_,[],h=>by simp[Op.bytesLess]at h
 |x::a,y::b,h=>by
  simp only[Op.bytesLess]at h ⊢;by_cases e:x=y
  ·subst e;simp at h ⊢;exact ahh h
  ·have c:¬y=x:=fun h=>e h.symm;simp[e,c]at h ⊢;exact UInt8.le_of_lt h
def ahi:∀{a b:List UInt8},a≠b->Op.bytesLess a b=false->Op.bytesLess b a=true
 |[],[],h,_=>by simp at h
 |[],_::_,_,h=>by simp[Op.bytesLess]at h
 |_::_,[],_,_=>by simp[Op.bytesLess]
 |x::a,y::b,n,h=>by
  simp only[Op.bytesLess]at h ⊢;by_cases e:x=y
  ·subst e;simp at h n ⊢;exact ahi n h
  ·have c:¬y=x:=fun h=>e h.symm;simp[e,c]at h ⊢;exact UInt8.lt_of_le_of_ne h c
def aEh{a:ByteArray}(h:dz a b=true):dz b a=false:=ahh h
def aEi{a:ByteArray}(n:a≠b)(h:dz a b=false):dz b a=true :=
 ahi (fun e=>n (by have:=Kw a b;rw[e]at this;simpa using this.symm)) h
def aaR{p:Nat->Bool}:∀{n:Nat},eA p n=none->∀i,i<n->p i=false
 |0,_,i,h=>by omega
 |n+1,h,i,c=>by
  simp only[eA]at h;split at h
  ·cases h
  ·rename_i a;split at h
   ·cases h
   ·rename_i b;by_cases e:i=n
    ·subst e;simpa using b
    ·exact aaR a i (by omega)
def vF{l:List Entry}{s:ByteArray}(h:0<=cV l s):∃i:Nat,cV l s=(i:Int)/\i<l.length/\(nth l i).name=s:=by
 unfold cV at h ⊢;cases f:pK l s with
 |none=>rw[f]at h;simp at h
 |some k=> obtain⟨a,b,_⟩:=vG f;exact⟨k,rfl,a,by simpa using b⟩
def al5{l:List Entry}{c:Nat}(h:fB l a c=true):c<l.length:=by unfold fB Aa at h;obtain⟨k,_,b⟩:=IW.1 h;exact OZ (by simpa using b)
def DX{l:List Entry}{b:Nat}(ha:a<l.length)(hb:b<l.length):dM l a b=true↔Way (fB l) l.length a b:=Ui _ _ _ (bM _) a b ha hb
def Way.first{b:Nat}(h:Way S n a b):∃c,S a c=true/\(c=b\/Way S n c b):=by
 induction h with
 |@edge a b h=>exact⟨b,h,.inl rfl⟩
 |@step a m b g _ e i _=>
  obtain⟨c,f,d⟩:=i;rcases d with rfl|d
  ·exact⟨c,f,.inr e⟩
  ·exact⟨c,f,.inr (.step g d e)⟩
def am5{l:List Entry}{b:Nat}(ha:a<l.length)(hb:b<l.length):dM l a b=true↔ ∃c,c<l.length/\fB l a c=true/\(c=b\/dM l c b=true):=by
 rw[DX ha hb];constructor
 ·intro h;obtain⟨c,d,f⟩:=h.first;have e:=al5 d;exact⟨c,e,d,f.imp id fun h=>(DX e hb).2 h⟩
 ·rintro⟨c,e,d,rfl|f⟩
  ·exact .edge d
  ·exact .step e (.edge d) ((DX e hb).1 f)
def adl{l:List Entry}{b c:Nat}(ha:a<l.length)(hb:b<l.length)(h:c<l.length)(h1:dM l a b=true)(h2:dM l b c=true):dM l a c=true :=
 (DX ha h).2 (.step hb ((DX ha hb).1 h1) ((DX hb h).1 h2))
def adk{l:List Entry}{c:Nat}(ha:a<l.length)(h:fB l a c=true):dM l a c=true:=(DX ha (al5 h)).2 (.edge h)
def lI(l:List Entry)(j:Nat):Bool:=jU l j||dM l j j
def jt(l:List Entry)(i:Nat):Bool:=lI l i||nL (fun j=>dM l i j&&lI l j) l.length
def Po{l:List Entry}:jt l i=true↔lI l i=true\/∃j,j<l.length/\dM l i j=true/\lI l j=true:=by unfold jt;rw[jM,IW];simp only[aX]
def adT{l:List Entry}(e:i<l.length):jt l i=true↔jU l i=true\/dM l i i=true\/∃j,j<l.length/\dM l i j=true/\jt l j=true:=by
 rw[Po];constructor
 ·rintro (h|⟨j,a,b,c⟩)
  ·unfold lI at h;rw[jM]at h;exact h.imp id .inl
  ·exact .inr (.inr ⟨j,a,b,Po.2 (.inl c)⟩)
 ·rintro (h|h|⟨j,a,b,c⟩)
  ·exact .inl (by unfold lI;rw[h];rfl)
  ·exact .inl (by unfold lI;rw[h];simp)
  ·rcases Po.1 c with h|⟨k,d,f,g⟩
   ·exact .inr ⟨j,a,b,h⟩
   ·exact .inr ⟨k,d,adl e a d b f,g⟩
def js(l:List Entry)(o:List Nat)(i:Nat):Bool:= !o.contains i&& !jU l i&&dW (fun k=> !fB l i k||o.contains k) l.length
def gz(l:List Entry):Nat->List Nat
 |0=>[]
 |k+1=>match eA (js l (gz l k)) l.length with
  |some i=>gz l k++[i]
  |none=>gz l k
def iP(l:List Entry):List Nat:=gz l l.length
def VU{l:List Entry}{o:List Nat}:js l o i=true↔i∉o/\jU l i=false/\∀k,k<l.length->fB l i k=true->k∈o:=by
 unfold js;simp only[aX,qi,jC,jM,YZ,oH,du];constructor
 ·rintro⟨⟨a,b⟩,c⟩;refine⟨a,b,fun k d n=> ?_⟩;rcases c k d with h|h
  ·rw[n]at h;cases h
  ·exact h
 ·rintro⟨a,b,c⟩;refine⟨⟨a,b⟩,fun k d=> ?_⟩;cases n:fB l i k with
  |false=>exact .inl rfl
  |true=>exact .inr (c k d n)
def VK{l:List Entry}:∀{k:Nat} {pre post:List Nat} {i:Nat},gz l k=pre++i::post->eA (js l pre) l.length=some i
 |0,pre,post,i,h=>by simp[gz]at h
 |k+1,pre,post,i,h=>by
  simp only[gz]at h;split at h
  ·rename_i j b;rcases List.eq_nil_or_concat post with rfl|⟨p,x,rfl⟩
   ·have h2:gz l k++[j]=pre++[i]:=h;obtain⟨e,a⟩:=List.append_inj' h2 rfl;simp only[A6,yf]at a;rw[<-e, <-a];exact b
   ·have h2:gz l k++[j]=(pre++i::p)++[x]:=by rw[h];simp
    obtain⟨e,a⟩:=List.append_inj' h2 rfl;exact VK e
  ·exact VK h
def OQ(l:List Entry):∀k,(gz l k).Nodup
 |0=>by simp[gz]
 |k+1=>by
  simp only[gz];split
  ·rename_i j c;have h1:=(VU.1 (vG c).2.1).1;rw[List.nodup_append];refine⟨OQ l k,by simp,fun a d b h e=> ?_⟩;simp at h;subst h;subst e;exact h1 d
  ·exact OQ l k
def yQ{l:List Entry}:∀{k i:Nat},i∈gz l k->i<l.length
 |0,i,h=>by simp[gz]at h
 |k+1,i,h=>by
  simp only[gz]at h;split at h
  ·rename_i j a;rcases iJ.1 h with h|h
   ·exact yQ h
   ·simp at h;subst h;exact(vG a).1
  ·exact yQ h
def VD:∀{a b:List Nat},a.Nodup->(∀x∈a,x∈b)->a.length<=b.length
 |[],b,_,_=>by simp
 |x::a,b,h,s=>by
  have hx:x∈b:=s x (by simp);rw[Rn]at h;have:=VD (a:=a) (b:=b.erase x) h.2 fun y c=>by have n:y≠x:=fun e=>h.1 (e▸c);exact(List.mem_erase_of_ne n).2 (s y (by simp[c]))
  rw[List.length_erase_of_mem hx]at this;have p:0<b.length:=List.length_pos_of_mem hx;simp only[dR];omega
def Ke(l:List Entry)(k:Nat):(gz l k).length<=l.length:=by
 have:=VD (b:=List.range l.length) (OQ l k) fun x h=>by simpa using yQ h
 simpa using this
def VM{l:List Entry}{k:Nat}(h:eA (js l (gz l k)) l.length=none):∀m,gz l (k+m)=gz l k
 |0=>rfl
 |m+1=>by show gz l ((k+m)+1)=_;simp only[gz];rw[VM h m,h]
def amx{l:List Entry}:∀{k:Nat},eA (js l (gz l k)) l.length≠none->(gz l k).length=k
 |0,_=>rfl
 |k+1,h=>by
  cases a:eA (js l (gz l k)) l.length with
  |none=> have e:=VM a 1;rw[e]at h;exact absurd a h
  |some i=> have:=amx (k:=k) (by rw[a];simp);simp only[gz,a,iZ,dR,oD,this]
def amw(l:List Entry):eA (js l (iP l)) l.length=none:=by
 cases h:eA (js l (iP l)) l.length with
 |none=>rfl
 |some i=>
  have a:(gz l l.length).length=l.length:=amx (by unfold iP at h;rw[h];simp);have b:(gz l (l.length+1)).length=l.length+1:=by have h:eA (js l (gz l l.length)) l.length=some i:=h;simp only[gz,h,iZ,dR,oD,a]
  have:=Ke l (l.length+1);omega
def amv{l:List Entry}{k:Nat}(h:eA (js l (gz l k)) l.length=none):gz l k=iP l:=by
 unfold iP;rcases Nat.le_total k l.length with a|a
 ·rw[show l.length=k+(l.length-k) by omega,VM h]
 ·have:=VM (amw l) (k-l.length);rw[show l.length+(k-l.length)=k by omega]at this;exact this
def VL{l:List Entry}:∀(m:Nat) {pre post:List Nat} {i c:Nat},pre.length<=m->iP l=pre++i::post->c<l.length->dM l i c=true->c∈pre
 |m,pre,post,i,c,a,h,e,r=>by
  have f:i<l.length:=yQ (k:=l.length) (by show i∈iP l;rw[h];simp);have g:=(VU.1 (vG (VK h)).2.1).2.2;obtain⟨d,j,k,b⟩:=(am5 f e).1 r;have p:=g d j k;rcases b with rfl|b
  ·exact p
  ·obtain⟨n,o,rfl⟩:=YY p
   match m,a with
   |0,a=>simp at a
   |m+1,a=> have:=VL m (pre:=n) (post:=o++i::post) (i:=d) (c:=c) (by simp at a;omega) (by rw[h];simp) e b;simp[this]
def amB{l:List Entry}(h:i∈iP l):jt l i=false:=by
 have key:∀{j:Nat},j∈iP l->lI l j=false:=by
  intro j a;have c:j<l.length:=yQ a;obtain⟨pre,post,e⟩:=YY a;have r:=VU.1 (vG (VK e)).2.1;unfold lI;rw[r.2.1,Rb];cases q:dM l j j with
  |false=>rfl
  |true=>exact absurd (VL _ (bM _) e c q) r.1
 cases s:jt l i with
 |false=>rfl
 |true=>
  rcases Po.1 s with b|⟨j,a,b,d⟩
  ·rw[key h]at b;cases b
  ·obtain⟨pre,post,e⟩:=YY h;have:=VL _ (bM _) e a b;rw[key (by rw[e];simp[this])]at d;cases d
def cnt(p:Nat->Bool):Nat->Nat
 |0=>0
 |n+1=>cnt p n+if p n then 1 else 0
def ah2{p q:Nat->Bool}:∀{n:Nat},(∀i,i<n->p i=true->q i=true)->cnt p n<=cnt q n
 |0,_=>bM _
 |n+1,h=>by
  simp only[cnt];have:=ah2 (n:=n) fun i b=>h i (by omega);have:=h n (by omega);by_cases a:p n=true
  ·rw[aC a,aC (this a)];omega
  ·rw[aw a];split<;>omega
def ah3{p q:Nat->Bool}:∀{n:Nat},(∀i,i<n->p i=true->q i=true)->(∃i,i<n/\p i=false/\q i=true)->cnt p n<cnt q n
 |0,_,⟨i,b,_⟩=>by omega
 |n+1,h,⟨i,b,h1,h2⟩=>by
  simp only[cnt];by_cases e:i=n
  ·subst e;have:=ah2 (n:=i) fun j c=>h j (by omega);rw[h1,h2];simp;omega
  ·have f:=ah3 (n:=n) (fun j c=>h j (by omega)) ⟨i,by omega,h1,h2⟩;have d:=h n (by omega);by_cases a:p n=true
   ·rw[aC a,aC (d a)];omega
   ·rw[aw a];split<;>omega
def amt{l:List Entry}:∀(m:Nat) {i:Nat},cnt (dM l i) l.length<=m->i<l.length->jt l i=false->i∈iP l
 |m,i,p,g,o=>by
  by_cases e:i∈iP l
  ·exact e
  ·exfalso;have n:lI l i=false:=by
    cases d:lI l i with
    |false=>rfl
    |true=>rw[Po.2 (.inl d)]at o;cases o
   have r:=aaR (amw l) i g;have s:jU l i=false:=by unfold lI at n;simp at n;exact n.1
   have:∃c,c<l.length/\fB l i c=true/\c∉iP l:=by refine Rd fun q=> ?_;have:js l (iP l) i=true:=VU.2 ⟨e,s,fun k v w=>Rd fun t=>q ⟨k,v,w,t⟩⟩;rw[this]at r;cases r
   obtain⟨c,f,x,y⟩:=this;have a:=adk g x;have b:jt l c=false:=by
    cases d:jt l c with
    |false=>rfl
    |true=>rw[(adT g).2 (.inr (.inr ⟨c,f,a,d⟩))]at o;cases o
   have u:dM l c c=false:=by
    cases d:dM l c c with
    |false=>rfl
    |true=>rw[(adT f).2 (.inr (.inl d))]at b;cases b
   have z:cnt (dM l c) l.length<cnt (dM l i) l.length:=ah3 (fun j A h=>adl g f A a h) ⟨c,f,u,a⟩
   match m,p with
   |0,p=>omega
   |m+1,p=>exact y (amt m (by omega) f b)
def amy{l:List Entry}(h:i<l.length):i∈iP l↔jt l i=false:=⟨amB,amt _ (bM _) h⟩
def amu(l:List Entry):(iP l).length+((List.range l.length).filter (jt l)).length=l.length:=by
 have b:(iP l).length=((List.range l.length).filter fun i=> !jt l i).length:=by
  refine Nat.le_antisymm (VD (OQ l _) fun x h=> ?_) (VD (List.nodup_range.filter _) fun x h=> ?_)
  ·simp only[tY,oF];exact⟨yQ h,by rw[amB h];rfl⟩
  ·simp only[tY,oF,qi]at h;exact(amy h.1).2 h.2
 rw[b];have:=List.length_eq_countP_add_countP (jt l) (l:=List.range l.length);simp only[List.length_range]at this;rw[<-agW, <-agW];have e:List.countP (fun i=> !jt l i) (List.range l.length)=List.countP (fun a=>decide ¬jt l a=true) (List.range l.length):=by congr 1;funext i;simp
 omega
def qG{l:List Entry}(h:cm l=true):l.length<=6/\∀k,k<l.length->mC l k=true:=by unfold cm at h;rw[aX,du,jC]at h;exact h
def ahj:∀{a b c:List UInt8},Op.bytesLess a b=true->Op.bytesLess b c=true->Op.bytesLess a c=true
 |_,[],_,h,_=>by simp[Op.bytesLess]at h
 |_,_::_,[],_,h=>by simp[Op.bytesLess]at h
 |[],_::_,_::_,_,_=>by simp[Op.bytesLess]
 |x::a,y::b,z::c,h1,h2=>by have ih:=@ahj a b c;simp only[Op.bytesLess,jM,aX,du,vf]at h1 h2 ⊢;grind
def alM{a c:ByteArray}(h1:dz a b=true)(h2:dz b c=true):dz a c=true:=ahj h1 h2
def acM(a:ByteArray):dz a a=false:=by
 cases h:dz a a with
 |false=>rfl
 |true=>rw[aEh h]at h;cases h
def VV{l:List Entry}(h:cm l=true){i:Nat}:∀{j:Nat},i<j->j<l.length->dz (nth l i).name (nth l j).name=true
 |0,a,_=>by omega
 |j+1,a,d=>by
  have h1:=(qG h).2 (j+1) d;unfold mC at h1;simp only[aX,jM]at h1;have b:dz (nth l j).name (nth l (j+1)).name=true:=by
   rcases h1.2 with h|h
   ·simp at h
   ·simpa using h
  rcases dP i j with c|c
  ·exact alM (VV h c (by omega)) b
  ·obtain rfl:i=j:=by omega
   exact b
def uH{l:List Entry}(h:cm l=true){i j:Nat}(b:i<l.length)(c:j<l.length)(e:(nth l i).name=(nth l j).name):i=j:=by
 rcases E8 i j with a|a|a
 ·have:=VV h a c;rw[e,acM]at this;cases this
 ·exact a
 ·have:=VV h a b;rw[e,acM]at this;cases this
def uE(l:List Entry)(p:Nat->Bool)(k:Nat):List ByteArray:=((List.range k).filter p).map fun i=>(nth l i).name
def fA(l:List Entry)(p:Nat->Bool):List ByteArray:=uE l p l.length
def Vz(l:List Entry)(p:Nat->Bool)(k:Nat):uE l p (k+1)=if p k=true then uE l p k++[(nth l k).name]else uE l p k:=by unfold uE;rw[Y9,Y0,zC];cases h:p k<;>simp[h]
def acQ(l:List Entry)(p:Nat->Bool)(k:Nat):(uE l p k).length<=k:=by unfold uE;rw[di];have:=Rh p (List.range k);simpa using this
def GA{l:List Entry}(h:cm l=true){p:Nat->Bool}{k:Nat}(a:k<l.length):hasB (fA l p) (nth l k).name=p k:=by
 rw[wQ];unfold hasB fA uE;simp only[uW,fJ,tY,oF,du];constructor
 ·rintro⟨t,⟨i,⟨b,c⟩,rfl⟩,e⟩;rw[<-uH h b a e];exact c
 ·intro d;exact⟨_,⟨k,⟨a,d⟩,rfl⟩,rfl⟩
def Cd:Ord dz:=⟨acM,alM,fun h n=>aEi n h⟩
def BW{l:List Entry}{p:Nat->Bool}{x:ByteArray}:x∈fA l p↔ ∃i,i<l.length/\p i=true/\(nth l i).name=x:=by unfold fA uE;simp only[fJ,tY,oF,and_assoc]
def VA{l:List Entry}(h:cm l=true)(p:Nat->Bool):ml dz (fA l p):=by unfold ml fA uE;rw[List.pairwise_map];refine List.Pairwise.imp_of_mem (R:=fun a b=>a<b) ?_ (List.Pairwise.filter _ List.pairwise_lt_range);intro a b e d c;simp only[tY,oF]at e d;exact VV h c d.1
def yN{l:List Entry}{p q:Nat->Bool}(h:∀i,i<l.length->p i=q i):fA l p=fA l q:=by unfold fA uE;congr 1;exact List.filter_congr fun i a=>h i (by simpa using a)
def al1(l:List Entry):fA l (fun _=>false)=[]:=by unfold fA uE;simp
def al2{l:List Entry}(h:cm l=true){p:Nat->Bool}{i:Nat}(e:i<l.length):xG dz (fA l p) (nth l i).name=fA l (fun a=>p a||decide (a=i)):=by
 refine SY Cd (amT Cd (VA h p) _) (VA h _) fun x=> ?_;rw[yS,BW,BW];simp only[jM,du];constructor
 ·rintro (⟨j,c,d,b⟩|rfl)
  ·exact⟨j,c,.inl d,b⟩
  ·exact⟨i,e,.inr rfl,rfl⟩
 ·rintro⟨j,c,d|rfl,b⟩
  ·exact .inl ⟨j,c,d,b⟩
  ·exact .inr b.symm
def zZ(l:List Entry)(a k:Nat):Option il:=(sC l a k).map fun c=>⟨(nth l a).name,(nth l c).name,(nth (nth l a).needs k).kR⟩
def su(l:List Entry)(a j:Nat):List il:=(List.range j).filterMap (zZ l a)
def yM(l:List Entry)(i:Nat):List il:=(List.range i).flatMap fun a=>su l a (nth l a).needs.length
def gq(l:List Entry):List il:=if cm l then yM l l.length else []
def alJ(l:List Entry)(a j:Nat):su l a (j+1)=su l a j++(zZ l a j).toList:=by unfold su;rw[Y9,List.filterMap_append];cases h:zZ l a j<;>simp[h]
def alK(l:List Entry)(i:Nat):yM l (i+1)=yM l i++su l i (nth l i).needs.length:=by unfold yM;rw[Y9,List.flatMap_append];simp
def alI(l:List Entry)(a j:Nat):(su l a j).length<=j:=by unfold su;have:=List.length_filterMap_le (zZ l a) (List.range j);simpa using this
def aEC{l:List Entry}{x:il}:x∈su l a j↔ ∃k,k<j/\zZ l a k=some x:=by unfold su;simp only[List.mem_filterMap,oF]
def aED{l:List Entry}{x:il}:x∈yM l i↔ ∃a k,a<i/\k<(nth l a).needs.length/\zZ l a k=some x:=by
 unfold yM;simp only[List.mem_flatMap,oF,aEC];constructor
 ·rintro⟨a,h,k,b,c⟩;exact⟨a,k,h,b,c⟩
 ·rintro⟨a,k,h,b,c⟩;exact⟨a,h,k,b,c⟩
def O7{l:List Entry}(h:cm l=true){a:Nat}(ha:a<l.length):(nth l a).needs.length<=3:=by have:=(qG h).2 a ha;unfold mC mT at this;simp only[aX,du]at this;exact this.1.1.2
def anc{l:List Entry}(h:cm l=true){a:Nat}(ha:a<l.length):(nth l a).name≠cL:=by have:=(qG h).2 a ha;unfold mC mT at this;simp only[aX,du]at this;have b:=this.1.1.1.1.2;intro e;rw[e]at b;exact absurd b (by decide)
def acL{l:List Entry}(h:cm l=true):∀i,i<=l.length->(yM l i).length<=3*i
 |0,_=>by simp[yM]
 |i+1,a=>by rw[alK,iZ];have h1:=acL h i (by omega);have b:=alI l i (nth l i).needs.length;have c:=O7 h (a:=i) (by omega);omega
def acK(l:List Entry):(gq l).length<=18:=by
 unfold gq;split
 ·rename_i h;have:=acL h l.length (bM _);have:=(qG h).1;omega
 ·simp
def acR{l:List Entry}{c:Nat}:fB l a c=true↔ ∃k,k<(nth l a).needs.length/\sC l a k=some c:=by unfold fB Aa;rw[IW];simp only[du]
def aEG{l:List Entry}:jU l a=true↔ ∃k,k<(nth l a).needs.length/\sC l a k=none:=by unfold jU BV;rw[IW];simp only[Option.isNone_iff_eq_none]
def xz(x:il)(back:Bool):ByteArray:=if back then x.to else x.ko
def ig(x:il)(back:Bool):ByteArray:=if back then x.ko else x.to
def Edge(ls:List il)(back:Bool)(a b:ByteArray):Prop:=∃x∈ls,xz x back=a/\ig x back=b
def Gy{l:List Entry}(h:cm l=true){a b:ByteArray}:Edge (gq l) false a b↔ ∃i c,i<l.length/\c<l.length/\fB l i c=true/\(nth l i).name=a/\(nth l c).name=b:=by
 unfold Edge gq;rw[aC h];simp only[aED,xz,ig,yc,vz];constructor
 ·rintro⟨x,⟨i,k,f,g,d⟩,rfl,rfl⟩;unfold zZ at d;simp only[kN]at d;obtain⟨c,e,rfl⟩:=d;exact⟨i,c,f,OZ e,acR.2 ⟨k,g,e⟩,rfl,rfl⟩
 ·rintro⟨i,c,f,g,d,rfl,rfl⟩;obtain⟨k,e,j⟩:=acR.1 d;exact⟨_,⟨i,k,f,e,by unfold zZ;rw[j];rfl⟩,rfl,rfl⟩
def aiu{ls:List il}{a:ByteArray}:Edge ls true a b↔Edge ls false b a:=by
 unfold Edge xz ig;simp only[ue,yc,vz];constructor
 ·rintro⟨x,h,c,d⟩;exact⟨x,h,d,c⟩
 ·rintro⟨x,h,c,d⟩;exact⟨x,h,d,c⟩
inductive lR(E:ByteArray->ByteArray->Prop):ByteArray->ByteArray->Prop
 |edge {a b:ByteArray} (h:E a b):lR E a b
 |snoc {a b c:ByteArray} (h:lR E a b) (e:E b c):lR E a c
def lR.trans{E:ByteArray->ByteArray->Prop}{a c:ByteArray}(h:lR E a b)(d:lR E b c):lR E a c:=by
 induction d with
 |edge e=>exact .snoc h e
 |snoc _ e ih=>exact .snoc ih e
def agP{E F:ByteArray->ByteArray->Prop}(c:∀{a b},E a b->F b a){a b:ByteArray}(h:lR E a b):lR F b a:=by
 induction h with
 |edge e=>exact .edge (c e)
 |snoc _ e ih=>exact .trans (.edge (c e)) ih
def Yk{l:List Entry}(h:cm l=true){a b:ByteArray}:lR (Edge (gq l) false) a b↔ ∃i c,i<l.length/\c<l.length/\dM l i c=true/\(nth l i).name=a/\(nth l c).name=b:=by
 constructor
 ·intro w;induction w with
  |edge e=> obtain⟨i,c,f,g,k,n,o⟩:=(Gy h).1 e;exact⟨i,c,f,g,adk f k,n,o⟩
  |snoc _ e ih=> obtain⟨i,c,f,g,k,n,o⟩:=ih;obtain⟨j,d,u,s,v,x,p⟩:=(Gy h).1 e;have:j=c:=uH h u g (by rw[x,o]);subst this;exact⟨i,d,f,s,adl f g s k (adk g v),n,p⟩
 ·rintro⟨i,c,f,g,k,rfl,rfl⟩;have w:=(DX f g).1 k;clear k;induction w with
  |@edge a b y=>exact .edge ((Gy h).2 ⟨a,b,f,g,y,rfl,rfl⟩)
  |@step a m b t z A q r=>exact .trans (q f t) (r t g)
def aiT{l:List Entry}(h:cm l=true){k:Nat}(a:k<l.length):pK l (nth l k).name=some k:=by unfold pK;refine vI (by simp) (fun i b=> ?_) a;rw[oH];intro e;have:=uH h (by omega) a e;omega
def aiS{l:List Entry}{s:ByteArray}(h:pK l s=none){k:Nat}(a:k<l.length):(nth l k).name≠s:=by unfold pK at h;have:=aaR h k a;simpa using this
def Jv{l:List Entry}{s:ByteArray}{k:Nat}(h:pK l s=some k):k<l.length/\(nth l k).name=s:=by obtain⟨a,b,_⟩:=vG h;exact⟨a,by simpa using b⟩
def Gz(l:List Entry):List ByteArray:=if cm l then fA l (jU l)else []
def mg(l:List Entry)(s:ByteArray):List ByteArray:=if cm l then match pK l s with|some k=>fA l (dM l k)|none=>[]else []
def rz(l:List Entry)(s:ByteArray):List ByteArray:=if cm l then match pK l s with|some k=>fA l (fun i=>dM l i k)|none=>[]else []
def pU(l:List Entry):List ByteArray:=if cm l then fA l (jt l)else []
def qC(l:List Entry)(o:List Nat):List ByteArray:=o.map fun i=>(nth l i).name
def bR(l:List Entry):List ByteArray:=if cm l then qC l (iP l)else []
def IY:ml dz []:=List.Pairwise.nil
def alL{l:List Entry}(h:¬cm l=true):gq l=[]:=by unfold gq;rw[aw h]
def ave{back:Bool}{a:ByteArray}:¬lR (Edge [] back) a b:=by
 intro h;induction h with
 |edge e=>obtain⟨x,c,_⟩:=e;simp at c
 |snoc _ e _=>obtain⟨x,c,_⟩:=e;simp at c
def Kj(l:List Entry)(s:ByteArray):ml dz (mg l s)/\∀x,x∈mg l s↔lR (Edge (gq l) false) s x:=by
 unfold mg;split
 ·rename_i h;split
  ·rename_i k d;obtain⟨f,g⟩:=Jv d;refine⟨VA h _,fun x=> ?_⟩;rw[BW,Yk h];constructor
   ·rintro⟨i,a,b,c⟩;exact⟨k,i,f,a,b,g,c⟩
   ·rintro⟨j,i,a,b,c,e,m⟩;have:j=k:=uH h a f (by rw[e,g]);subst this;exact⟨i,b,c,m⟩
  ·rename_i d;refine⟨IY,fun x=> ?_⟩;rw[Yk h];simp only[tZ,false_iff];rintro⟨j,i,a,b,c,e,m⟩;exact aiS d a e
 ·rename_i h;rw[alL h];exact⟨IY,fun x=>by simp[ave]⟩
def al6(l:List Entry)(s:ByteArray):ml dz (rz l s)/\∀x,x∈rz l s↔lR (Edge (gq l) true) s x:=by
 have f:∀x,lR (Edge (gq l) true) s x↔lR (Edge (gq l) false) x s:=fun x=>⟨agP fun h=>aiu.1 h,agP fun h=>aiu.2 h⟩;unfold rz;split
 ·rename_i h;split
  ·rename_i k d;obtain⟨g,m⟩:=Jv d;refine⟨VA h _,fun x=> ?_⟩;rw[f,BW,Yk h];constructor
   ·rintro⟨i,b,a,c⟩;exact⟨i,k,b,g,a,c,m⟩
   ·rintro⟨i,j,b,a,c,n,e⟩;have:j=k:=uH h a g (by rw[e,m]);subst this;exact⟨i,b,c,n⟩
  ·rename_i d;refine⟨IY,fun x=> ?_⟩;rw[f,Yk h];simp only[tZ,false_iff];rintro⟨i,j,b,a,c,n,e⟩;exact aiS d a e
 ·rename_i h;rw[alL h];exact⟨IY,fun x=>by simp[ave]⟩
def Eh(e:Entry):Entry:={e with needs:=e.needs.dropLast}
def tG(l:List Entry)(k:Nat):List Entry:=l.set k (Eh (nth l k))
def tot(l:List Entry):Nat:=(l.map fun e=>e.needs.length).sum
def wB:Nat->List Entry->List Entry
 |0,l=>l
 |n+1,l=>match pU l with
  |[]=>l
  |s::_=>wB n (tG l (cV l s).toNat)
def Ws(l:List Entry)(k:Nat):(tG l k).length=l.length:=by simp[tG]
def aEW[Inhabited α](l:List α)(k i:Nat)(x:α)(a:k<l.length):nth (l.set k x) i=if i=k then x else nth l i:=by
 unfold nth;simp only[jZ,Da];by_cases e:k=i
 ·subst e;simp[a]
 ·rw[aw e,aw (fun h=>e h.symm)]
def acU{l:List Entry}{k:Nat}(h:k<l.length):nth (tG l k) i=if i=k then Eh (nth l k)else nth l i:=aEW l k i _ h
def aon{l:List Entry}{k:Nat}(h:k<l.length):(nth (tG l k) i).name=(nth l i).name:=by
 rw[acU h];split
 ·rename_i e;subst e;rfl
 ·rfl
def aEU[Inhabited α](l:List α){i:Nat}(h:i<l.length-1):nth l.dropLast i=nth l i:=by unfold nth;simp only[jZ,List.getElem?_dropLast,aC h]
def aHU{e:Entry}(h:mT e=true):mT (Eh e)=true:=by
 unfold mT at *;simp only[aX,du,jC]at *;obtain⟨⟨⟨⟨b,c⟩,d⟩,g⟩,f⟩:=h;refine⟨⟨⟨⟨b,c⟩,d⟩,?_⟩,fun k i=> ?_⟩
 ·show e.needs.dropLast.length<=3;rw[Iy];omega
 ·have a:k<e.needs.length-1:=by have:(Eh e).needs.length=e.needs.length-1:=Iy;omega
  have:=f k (by omega);unfold rp at *;show(BZ (nth e.needs.dropLast k)&& !decide ((nth e.needs.dropLast k).ko=e.name))=true;rw[aEU _ a];exact this
def aoo{l:List Entry}(h:cm l=true){k:Nat}(b:k<l.length):cm (tG l k)=true:=by
 have p:=qG h;unfold cm;rw[aX,du,jC,Ws];refine⟨p.1,fun i c=> ?_⟩;have a:=p.2 i c;unfold mC at *;rw[aon b,aon b];simp only[aX]at a ⊢;refine⟨?_,a.2⟩;rw[acU b];split
 ·rename_i e;subst e;exact aHU a.1
 ·exact a.1
def aok:∀(l:List Entry) (k:Nat) (x:Entry),k<l.length->tot (l.set k x)+(nth l k).needs.length=tot l+x.needs.length
 |[],k,x,h=>by simp at h
 |e::l,0,x,_=>by show(x.needs.length+tot l)+e.needs.length=(e.needs.length+tot l)+x.needs.length;omega
 |e::l,k+1,x,h=>by have:=aok l k x (by simpa using h);show(e.needs.length+tot (l.set k x))+(nth l k).needs.length=(e.needs.length+tot l)+x.needs.length;omega
def aol{l:List Entry}{k:Nat}(h:k<l.length)(n:0<(nth l k).needs.length):tot (tG l k)+1=tot l:=by have:=aok l k (Eh (nth l k)) h;have a:(Eh (nth l k)).needs.length=(nth l k).needs.length-1:=Iy;unfold tG;omega
def aHv{l:List Entry}(b:i<l.length)(h:jt l i=true):0<(nth l i).needs.length:=by
 refine Nat.pos_of_ne_zero fun e=> ?_;have m:jU l i=false:=by
  cases d:jU l i with
  |false=>rfl
  |true=>obtain⟨k,g,_⟩:=aEG.1 d;omega
 have r:∀j,j<l.length->dM l i j=false:=fun j f=>by
  cases d:dM l i j with
  |false=>rfl
  |true=> obtain⟨c,_,a,_⟩:=(am5 b f).1 d;obtain⟨k,g,_⟩:=acR.1 a;omega
 rcases (adT b).1 h with a|a|⟨j,f,a,_⟩
 ·rw[m]at a;cases a
 ·rw[r i b]at a;cases a
 ·rw[r j f]at a;cases a
def aiR{l:List Entry}(h:cm l=true){k:Nat}(a:k<l.length):cV l (nth l k).name=k:=by unfold cV;rw[aiT h a]
def an7{l:List Entry}(h:cm l=true){s:ByteArray}{r:List ByteArray}(a:pU l=s::r):∃k,k<l.length/\cV l s=(k:Int)/\0<(nth l k).needs.length:=by
 unfold pU at a;rw[aC h]at a;have:s∈fA l (jt l):=by rw[a];simp
 obtain⟨i,b,c,rfl⟩:=BW.1 this;exact⟨i,b,aiR h b,aHv b c⟩
def aHW{l:List Entry}(h:cm l=true){s:ByteArray}{r:List ByteArray}(b:pU l=s::r){k:Nat}(c:cV l s=(k:Int))(a:k<l.length)(n:0<(nth l k).needs.length) :
  wB (tot l) l=wB (tot (tG l k)) (tG l k):=by
 have:=aol a n;rw[<-this]
 conv=>lhs;unfold wB
 rw[b];show wB _ (tG l (cV l s).toNat)=_;rw[c];rfl
def aHV{l:List Entry}(h:pU l=[]):∀n,wB n l=l
 |0=>rfl
 |n+1=>by unfold wB;rw[h]
def aom{l:List Entry}:∀{n:Nat},cm l=true->(∀e∈l,e.recipe.length<=5/\e.needs.length<=3)->cm (wB n l)=true/\(∀e∈wB n l,e.recipe.length<=5/\e.needs.length<=3)
 |0,h,f=>⟨h,f⟩
 |n+1,h,f=>by
  unfold wB;split
  ·exact⟨h,f⟩
  ·rename_i s r b;obtain⟨k,h1,h2,d⟩:=an7 h b;rw[h2,gR];refine aom (aoo h h1) fun e c=> ?_;rcases sZ c with a|rfl
   ·exact f e a
   ·have a:=f (nth l k) (gK h1);have g:(Eh (nth l k)).needs.length=(nth l k).needs.length-1:=Iy;exact⟨a.1,by omega⟩
def xB(l:List ByteArray)(s:ByteArray):D.sl (l.map aB.cells++[[.str s]])=aj (l++[s]):=by simp[aj,eO]
def ax6(l:List Entry)(x:D)(p:Nat->Bool)(c:l.length<=1048576)(hx:bG aJ.tab (.one (.c .fn)) x)(b:∀i:Nat,i<l.length->QW az x [.int .i64 i] (.bool (p i))):dJ az 31 none [aj l,x] (aj (fA l p)) [] [(0,1)]:=by
 refine gh apM aIK ⟨mh l,hx,trivial⟩ fun f=> ?_;unfold apM;refine cQ l.length (fun k=>[aj (uE l p k),.int .i64 k]) (fun _=>True) rfl trivial ?_;intro k d _ _;simp only[cA];have e:=acQ l p k;apply ai<;>intro h<;>simp only[eS]at h
 ·have h:k<l.length:=by simp at h;exact h
  refine eu ?_;refine azs rfl rfl (b k h) trivial ?_;simp only[cA];apply ai<;>intro a<;>simp only[eS,oZ,ja]at a
  ·refine aM (fun _=> ?_) ?_
   ·simp[E.den];omega
   refine cK h ?_ trivial;simp only[eS,oZ,ja];rw[bC,Vz,aC a,xB];rfl
  ·refine cK h ?_ trivial;simp only[eS];rw[bC,Vz,aw (by simpa using a)];rfl
 ·obtain rfl:k=l.length:=by simp at h;omega
  exact ay (by simp[E.den,fA])
def aHN:aJ.tab 4=[.bool]:=by kernel_rfl
def aHO:aJ.tab 50=[.sl 4]:=by kernel_rfl
def ad4(n:Nat)(f:Nat->Bool):cJ aJ.tab (.sl 4) (da n f):=by show dc _ (aJ.tab _) _;rw[aHN];refine sW fun r h=> ?_;unfold rowsOf at h;obtain⟨a,_,rfl⟩:=fJ.1 h;exact⟨trivial,trivial⟩
def aoI(n:Nat)(S:Nat->Nat->Bool):cJ aJ.tab (.sl 50) (j8 n S):=by show dc _ (aJ.tab _) _;rw[aHO];refine sW fun r h=> ?_;unfold rowsOf at h;obtain⟨a,_,rfl⟩:=fJ.1 h;exact⟨ad4 _ _,trivial⟩
def LM(l:List Entry):List D:=[da l.length (jU l),j8 l.length (fB l),j8 l.length (dM l)]
def aoZ(l:List Entry):bD aJ.tab [.sl 4,.sl 50,.sl 50] (LM l):=⟨ad4 _ _,aoI _ _,aoI _ _,trivial⟩
def Px(l:List Entry):bG aJ.tab (.one (.agg [.sl 4,.sl 50,.sl 50])) (jx l):=aoZ l
def axU(l:List Entry)(k i:Nat)(h:k<l.length)(a:i<l.length):LQ az 32 [.int .i64 i] [LM l,[.int .i64 k]] (.bool (dM l k i)):=by
 refine avw aKu aIr rfl rfl ?_ (fun f c=> ?_)
 ·exact⟨rfl,aoZ l,⟨rfl,trivial⟩,trivial⟩
 unfold apu;simp only[ia,iy,jA,qQ];refine aM (fun _=> ?_) (aM (fun _=> ?_) (ay ?_))
 ·simp only[eS,LM,Fs];simp;omega
 ·simp only[eS,LM,pG h,kQ];simp;omega
 ·simp only[eS,LM,pG h,yl a]
def aiQ{l:List Entry}{s:ByteArray}:cV l s<0↔pK l s=none:=by unfold cV;split<;>rename_i h<;>simp[h]<;>omega
abbrev aFy(l:List Entry)(k:Nat):Nat->Bool:=dM l k
def ZM(l:List Entry)(s:ByteArray)(b:l.length<=1048576):dJ az 8 none [aj l,.str s] (aj (mg l s)) [] [(0,1)]:=by
 refine gh apt aIp ⟨mh l,trivial,trivial⟩ fun t=> ?_;unfold apt;refine aF (MK l s) ?_;refine aF (ZK l) ?_;apply ai<;>intro h<;>simp only[eS]at h
 ·refine ay ?_;have h:cm l=false\/cV l s<0:=by simpa using h
  rcases h with h|h
  ·simp[E.den,mg,h,aj]
  ·rw[aiQ]at h;simp[E.den,mg,h,aj]
 have h:cm l=true/\0<=cV l s:=by simpa using h
 obtain⟨r,d⟩:=h;cases f:pK l s with
 |none=> have:=aiQ.2 f;omega
 |some k=>
  have c:=(Jv f).1;have a:cV l s=(k:Int):=by unfold cV;rw[f]
  rw[a];refine dU (Tk l b) (hty:=Px l) ?_;refine dU (ax6 l (.fn 32 [LM l,[.int .i64 k]]) (aFy l k) b trivial (fun i a=>⟨_,_,rfl,axU l k i c a⟩)) ?_;exact ay (by simp[E.den,mg,r,f])
def amR{l:List Entry}{c:Nat}(h:sC l i j=some c):GR l (nth l i).name (nth (nth l i).needs j)=(nth l c).name:=by unfold GR;rw[show xF l (nth l i).name (nth (nth l i).needs j)=some c from h]
def amQ{l:List Entry}(h:sC l i j=none):GR l (nth l i).name (nth (nth l i).needs j)=cL:=by unfold GR;rw[show xF l (nth l i).name (nth (nth l i).needs j)=none from h]
def aD9{l:List Entry}{c:Nat}(h:sC l i j=some c):su l i (j+1)=su l i j++[⟨(nth l i).name,(nth l c).name,(nth (nth l i).needs j).kR⟩]:=by rw[alJ];unfold zZ;rw[h];rfl
def aD8{l:List Entry}(h:sC l i j=none):su l i (j+1)=su l i j:=by rw[alJ];unfold zZ;rw[h];simp
def aD7{l:List Entry}(h:cm l=true){i:Nat}(a:i<l.length)(j:Nat)(b:j<=(nth l i).needs.length):(yM l i++su l i j).length<=100:=by have c:=acL h i (by omega);have d:=alI l i j;have e:=O7 h a;have f:=(qG h).1;rw[iZ];omega
def aD6(a:List il)(x:il)(q:List il):D.sl (a.map aB.cells++[[.str x.ko,.str x.to,.int .i64 x.kR]])=aj (a++[x]):=by simp[aj,vA]
def Wn(l:List Entry)(i j:Nat):Bool:=lI l i||nL (fun j=>dM l i j&&lI l j) j
def sF(l:List Entry)(i a:Nat):Bool:=decide (a<i)&&jt l a
def sG(l:List Entry)(i j a:Nat):Bool:=if a<i then jt l a else if a=i then Wn l i j else false
def ax9(l:List Entry)(g:l.length<=1048576):dJ az 84 none [jx l] (da l.length (jt l)) [] [(0,1)]:=by
 refine gh ao5 aH6 ⟨Px l,trivial⟩ fun f=> ?_;unfold ao5;refine aM (fun _=> ?_) ?_
 ·simp only[eS,jx,kQ];simp;omega
 refine cQ l.length (fun i=>[.int .i64 i,da l.length (sF l i)]) (fun _=>True) ?_ trivial ?_
 ·simp only[eS,jx,kQ,eF];simp only[gR,jA,qQ,eF,Ph];rw[show da l.length (sF l 0)=da l.length (fun _=>false)from rV fun a _=>by simp[sF]];rfl
 intro i k _ _;simp only[cA];apply ai<;>intro h<;>simp only[eS,jx,kQ,oU]at h
 ·have h:i<l.length:=by simp at h;exact h
  refine aM (fun _=> ?_) (aM (fun _=> ?_) (aM (fun _=> ?_) (aM (fun _=> ?_) ?_)))
  ·simp only[eS,jx,kQ];simp;omega
  ·simp only[eS,jx,Fs];simp;omega
  ·simp only[eS,jx,pG h,kQ];simp;omega
  ·simp only[eS,jx,kQ,oU];simp;omega
  refine cQ l.length (fun j=>[.int .i64 j,da l.length (sG l i j)]) (fun _=>True) ?_ trivial ?_
  ·simp only[eS,jx,yl h,pG h,Ft];rw[show da l.length (sG l i 0)=da l.length (fun a=>if a=i then jU l i||dM l i i else sF l i a)from rV fun a _=>by
    unfold sG sF;by_cases e:a=i
    ·subst e;simp[Wn,lI,nL]
    ·by_cases c:a<i<;>simp[e,c]]
   rfl
  intro j m _ _;simp only[cA];apply ai<;>intro b<;>simp only[eS,jx,kQ,oU]at b
  ·have b:j<l.length:=by simp at b;exact b
   refine aM (fun _=> ?_) (aM (fun _=> ?_) (aM (fun _=> ?_) (aM (fun _=> ?_) (aM (fun _=> ?_) (aM (fun _=> ?_) (aM (fun _=> ?_) ?_))))))
   ·simp only[eS,jx,kQ,oU];simp;omega
   ·simp only[eS,jx,Fs];simp;omega
   ·simp only[eS,jx,pG h,kQ];simp;omega
   ·simp only[eS,jx,kQ];simp;omega
   ·simp only[eS,jx,Fs];simp;omega
   ·simp only[eS,jx,pG b,kQ];simp;omega
   ·simp only[eS,jx,kQ,oU];simp;omega
   refine cK b ?_ trivial;simp only[eS,jx,yl h,yl b,pG h,pG b,Ft];rw[bC,show da l.length (sG l i (j+1))=da l.length (fun a=>if a=i then sG l i j i||(dM l i j&&(jU l j||dM l j j))else sG l i j a)from rV fun a _=>by
    unfold sG;by_cases e:a=i
    ·subst e;simp[Wn,lI,nL,Bool.or_assoc]
    ·simp[e]]
   rfl
  ·obtain rfl:j=l.length:=by simp at b;omega
   refine yq h ?_ trivial;simp only[eS];rw[bC,show da l.length (sG l i l.length)=da l.length (sF l (i+1))from rV fun a _=>by
    unfold sG sF;by_cases e:a=i
    ·subst e;simp[Wn,jt]
    ·have:a<i+1↔a<i:=by omega
     by_cases c:a<i<;>simp[e,c,this]]
   rfl
 ·obtain rfl:i=l.length:=by simp at h;omega
  exact ay (by simp only[eS];exact rV fun a d=>by simp[sF,d])
def nx(l:List Entry)(o:List Nat)(i:Nat):Int:=match eA (js l o) i with|some j=>j|none=> -1
def ama(l:List Entry)(o:List Nat)(j:Nat):qC l (o++[j])=qC l o++[(nth l j).name]:=by simp[qC]
def v7(l:List Entry)(o:List Nat):(qC l o).length=o.length:=by simp[qC]
def amj(l:List Entry)(o:List Nat)(i:Nat):nx l o (i+1)=if nx l o i<0/\js l o i=true then(i:Int)else nx l o i:=by
 unfold nx;rw[eA];cases h:eA (js l o) i with
 |some j=>simp;omega
 |none=>cases b:js l o i<;>simp
def Tj(l:List Entry)(q:l.length<=1048576):dJ az 9 none [aj l] (aj (bR l)) [] [(0,1)]:=by
 refine gh apy aIv ⟨mh l,trivial⟩ fun t=> ?_;unfold apy;refine aF (ZK l) ?_;apply ai<;>intro h<;>simp only[eS]at h
 ·have:cm l=false:=by simpa using h
  exact ay (by simp[E.den,bR,this,aj])
 have u:cm l=true:=by simpa using h
 refine dU (Tk l q) (hty:=Px l) ?_;refine aM (fun _=> ?_) ?_
 ·simp only[eS];simp;omega
 refine qo (List Nat) (fun o=>[aj (qC l o),da l.length (fun a=>o.contains a)]) (fun o=>o=gz l o.length) (fun o=>l.length+1-o.length) [] (fun s v h=> ?_) ?_ rfl ?_
 ·simp only[A6]at h;have:=congrArg cG h.1;rw[th,th,v7,v7]at this;omega
 ·simp only[eS,eF];simp only[gR,jA,qQ,eF,Ph];rfl
 intro o I _;simp only[cA];have d:=Ke l o.length;rw[<-I]at d;refine cQ l.length (fun i=>[.int .i64 (nx l o i),.int .i64 i]) (fun _=>True) rfl trivial ?_;intro i w _ _;simp only[cA];apply ai<;>intro c<;>simp only[eS]at c
 ·have c:i<l.length:=by simp at c;exact c
  refine aM (fun _=> ?_) (aM (fun _=> ?_) ?_)
  ·simp only[eS,oU];simp;omega
  ·simp only[eS,jx,kQ];simp;omega
  refine cQ l.length (fun k=>[.bool ((decide (nx l o i<0)&& !o.contains i&& !jU l i)&&dW (fun k=> !fB l i k||o.contains k) k),.int .i64 k]) (fun _=>True) ?_ trivial ?_
  ·simp only[eS,jx,yl c];simp[dW]
  intro k x _ _;simp only[cA];apply ai<;>intro b<;>simp only[eS]at b
  ·have b:k<l.length:=by simp at b;exact b
   refine aM (fun _=> ?_) (aM (fun _=> ?_) (aM (fun _=> ?_) ?_))
   ·simp only[eS,jx,Fs];simp;omega
   ·simp only[eS,jx,pG c,kQ];simp;omega
   ·simp only[eS,oU];simp;omega
   refine cK b ?_ trivial;simp only[eS,jx,pG c,yl b];rw[bC];simp[dW,Q9]
  ·obtain rfl:k=l.length:=by simp at b;omega
   have r:((decide (nx l o i<0)&& !o.contains i&& !jU l i)&&dW (fun k=> !fB l i k||o.contains k) l.length)=(decide (nx l o i<0)&&js l o i):=by unfold js;simp[Q9]
   apply ai<;>intro g<;>simp only[eS,r]at g
   ·refine yq c ?_ trivial;simp only[eS];have:nx l o i<0/\js l o i=true:=by simpa using g
    rw[bC,amj,aC this];rfl
   ·refine yq c ?_ trivial;simp only[eS];have:¬(nx l o i<0/\js l o i=true):=by rintro⟨q1,q2⟩;simp[q1,q2]at g
    rw[bC,amj,aw this];rfl
 ·obtain rfl:i=l.length:=by simp at c;omega
  cases f:eA (js l o) l.length with
  |none=>
   have n:nx l o l.length= -1:=by unfold nx;rw[f]
   rw[n];apply ai<;>intro b
   ·refine ay ?_;have:=amv (l:=l) (k:=o.length) (by rw[<-I];exact f);simp only[eS];unfold bR;rw[aC u, <-this, <-I]
   ·simp only[eS]at b;simp at b
  |some j=>
   have n:nx l o l.length=j:=by unfold nx;rw[f]
   have y:=(vG f).1;rw[n];have p:o.length<l.length:=by have m:=Ke l (o.length+1);simp only[gz]at m;rw[<-I,f]at m;simp at m;omega
   apply ai<;>intro b
   ·simp only[eS]at b;simp at b;omega
   refine aM (fun _=> ?_) (aM (fun _=> ?_) (aM (fun _=> ?_) ?_))
   ·simp only[eS,oU];simp;(try omega)
   ·simp only[eS];simp;(try omega)
   ·simp[E.den,v7];omega
   refine⟨o++[j],?_,?_,?_⟩
   ·simp only[eS,oZ,ja,Ft];rw[ama, <-xB];rw[show da l.length (fun a=>(o++[j]).contains a)=da l.length (fun a=>if a=j then true else o.contains a)from rV fun a _=>by by_cases e:a=j<;>simp[e]]
   ·rw[iZ];show o++[j]=gz l (o.length+1);simp only[gz];rw[<-I,f]
   ·simp only[iZ,dR,oD];omega
end
end Go.Proofs.YtoomhbopolalnabGreatDoor
