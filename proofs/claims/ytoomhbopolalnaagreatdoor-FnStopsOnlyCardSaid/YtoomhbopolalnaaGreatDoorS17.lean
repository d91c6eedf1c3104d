/- Contracts: a text put into ascending ones, links, who misses, what is reached by links: the reference's side. -/
import Derived.Test.YtoomhbopolalnaaGreatDoorS16
set_option linter.all false
set_option maxRecDepth 100000
namespace Go.Proofs.YtoomhbopolalnaaGreatDoor
variable {n nm t:ByteArray}{Q:D->List D->Prop}{h:Host}{L:List (List D->Prop)}{next:List ByteArray}{env:List D}{ls:List ik}{d j:Nat}{P:Program}{α:Type}
section
open Go.RowKit Go
variable [GC]
abbrev jc(l:List ByteArray)(s:ByteArray):List ByteArray:=xF du l s
def aEf(l:List ByteArray)(s t:ByteArray):D.sl ((l.map aB.cells++[[.str s]])++[[.str t]])=ak (l++[s]++[t]):=by simp[ak,fP]
def FF(l:List ByteArray)(s:ByteArray)(j:l.length<=1048576):dN az 56 none [ak l,.str s] (ak (jc l s)) [] [(0,1)]:=by
 refine gu apW aI7 ⟨kA l,trivial,trivial⟩ fun t=> ?_;unfold apW;refine cU l.length (fun k=>[.bool (gA du l s k).2,ak (gA du l s k).1,.int .i64 k]) (fun _=>True) rfl trivial ?_;intro k m _ _;simp only[cA];have e:=acD (lt:=du) l s k;have f:(gA du l s k).1.length<=1048577:=by split at e<;>omega
 apply aj<;>intro b<;>simp only[eS]at b
 ·have b:k<l.length:=by simp at b;exact b
  have n:l.getD k default=nth l k:=rfl;refine dK ?_;apply aj<;>intro h<;>simp only[eS,jr,fP]at h
  ·have h:(gA du l s k).2=false/\du (nth l k) s=false:=by simpa using h
   apply aj<;>intro c<;>simp only[eS,jr,fP]at c
   ·have c:¬nth l k=s:=by simpa using c
    refine aQ (fun _=> ?_) (aQ (fun _=> ?_) ?_)
    ·simp[E.den];omega
    ·simp[E.den];omega
    refine cJ b ?_ trivial;simp only[eS,jr,fP];rw[bF,aEf];simp only[gA,h.1,n,h.2,c,xZ,vC];rfl
   ·have c:nth l k=s:=by simpa using c
    refine aQ (fun _=> ?_) ?_
    ·simp[E.den];omega
    refine cJ b ?_ trivial;simp only[eS,jr,fP];rw[bF,yN];have d:=h.2;rw[c]at d;simp only[gA,h.1,n,c,d,xZ,vC,sZ];rfl
  ·refine aQ (fun _=> ?_) ?_
   ·simp[E.den];omega
   refine cJ b ?_ trivial;simp only[eS,jr,fP];rw[bF,yN];cases i:(gA du l s k).2 with
   |true=> simp only[gA,i,n,sZ];rfl
   |false=>
    have d:du (nth l k) s=true:=by rw[i]at h;simpa using h
    simp only[gA,i,n,d,xZ,vC,sZ];rfl
 ·obtain rfl:k=l.length:=by simp at b;omega
  apply aj<;>intro h<;>simp only[eS]at h
  ·have h:(gA du l s l.length).2=false:=by simpa using h
   refine aQ (fun _=> ?_) (ay ?_)
   ·simp[E.den];omega
   ·simp only[eS];rw[yN];unfold jc xF;rw[h];rfl
  ·have h:(gA du l s l.length).2=true:=by simpa using h
   refine ay ?_;simp only[eS];unfold jc xF;rw[h];rfl
def FD(l:List Entry):dN az 94 none [ak l] (ak (gr l)) [] [(0,3)]:=by
 refine gu apu aIH ⟨mL l,trivial⟩ fun t=> ?_;unfold apu;refine aH (Jb l) ?_;apply aj<;>intro h<;>simp only[eS]at h
 ·have:cG l=false:=by simpa using h
  exact ay (by simp[E.den,gr,this,ak])
 have r:cG l=true:=by simpa using h
 have s:=(qt r).1;refine cU l.length (fun i=>[ak (yL l i),.int .i64 i]) (fun _=>True) rfl trivial ?_;intro i u _ _;simp only[cA];apply aj<;>intro b<;>simp only[eS]at b
 ·have b:i<l.length:=by simp at b;exact b
  have n:=OE r b;refine dK ?_;refine cU (nth l i).needs.length (fun j=>[ak (yL l i++sr l i j),.int .i64 j]) (fun _=>True) ?_ trivial ?_
  ·simp only[eS];simp[sr]
  intro j q _ _;simp only[cA];have f:=aDs r b j q;apply aj<;>intro d<;>simp only[eS,oQ,iW]at d
  ·have d:j<(nth l i).needs.length:=by simp at d;exact d
   refine dK ?_;refine aH (ag3 l (nth l i).name (nth (nth l i).needs j)) ?_;cases e:sw l i j with
   |none=>
    rw[al0 e];apply aj<;>intro k
    ·simp only[eS]at k;simp[cL]at k
    refine cJ d ?_ trivial;simp only[eS];rw[bF,aDt e];rfl
   |some c=>
    rw[al1 e];have m:=OD e;apply aj<;>intro k
    ·refine aQ (fun _=> ?_) ?_
     ·simp[E.den];simp at f;omega
     refine cJ d ?_ trivial;simp only[eS,oQ,iW,Vu,zB];rw[bF,aDu e, <-iU, <-aDr _ _ []];rfl
    ·simp only[eS]at k;have:=amm r m;unfold cL at this;simp[this]at k
  ·obtain rfl:j=(nth l i).needs.length:=by simp at d;omega
   refine Bb b ?_ trivial;simp only[eS];rw[bF,akZ];rfl
 ·obtain rfl:i=l.length:=by simp at b;omega
  exact ay (by simp[E.den,gr,r])
def Kg(l:List Entry)(p:Nat->Bool):(fj l p).length<=l.length:=acb l p l.length
def ag2(l:List Entry):dN az 102 none [ak l] (ak (GH l)) [] [(0,1)]:=by
 refine gu apx aIK ⟨mL l,trivial⟩ fun t=> ?_;unfold apx;refine aH (Jb l) ?_;apply aj<;>intro h<;>simp only[eS]at h
 ·have:cG l=false:=by simpa using h
  exact ay (by simp[E.den,GH,this,ak])
 have r:cG l=true:=by simpa using h
 have v:=(qt r).1;refine cU l.length (fun i=>[ak (fj l (mF l i)),.int .i64 i]) (fun _=>True) ?_ trivial ?_
 ·simp only[eS];rw[show fj l (mF l 0)=[] by rw[<-alg l];exact yM fun a _=>by simp[mF]];rfl
 intro i x _ _;simp only[cA];apply aj<;>intro b<;>simp only[eS]at b
 ·have b:i<l.length:=by simp at b;exact b
  have q:=OE r b;refine dK ?_;refine cU (nth l i).needs.length (fun j=>[ak (fj l (mG l i j)),.int .i64 j]) (fun _=>True) ?_ trivial ?_
  ·simp only[eS];rw[show fj l (mG l i 0)=fj l (mF l i)from yM fun a _=>by
    unfold mF mG;by_cases e:a=i
    ·subst e;simp[BS,nD]
    ·by_cases f:a<i<;>simp[e,f]]
   rfl
  intro j y _ _;simp only[cA];apply aj<;>intro d<;>simp only[eS,oQ,iW]at d
  ·have d:j<(nth l i).needs.length:=by simp at d;exact d
   refine dK ?_;refine aH (ag3 l (nth l i).name (nth (nth l i).needs j)) ?_;have s:=Kg l (mG l i j);cases k:sw l i j with
   |none=>
    rw[al0 k];apply aj<;>intro m
    ·refine fD (FF (fj l (mG l i j)) (nth l i).name (by omega)) ?_;refine cJ d ?_ trivial;simp only[eS];rw[bF];show [ak (xF du (fj l (mG l i j)) (nth l i).name),_]=_;rw[alh r b,show fj l (mG l i (j+1))=fj l (fun a=>mG l i j a||decide (a=i))from yM fun a _=>by
      unfold mG;by_cases e:a=i
      ·subst e;simp[BS,nD,k]
      ·by_cases f:a<i<;>simp[e,f]]
     rfl
    ·simp only[eS]at m;simp[cL]at m
   |some c=>
    rw[al1 k];have n:=OD k;apply aj<;>intro m
    ·simp only[eS]at m;have:=amm r n;unfold cL at this;simp[this]at m
    ·refine cJ d ?_ trivial;simp only[eS];rw[bF,show fj l (mG l i (j+1))=fj l (mG l i j)from yM fun a _=>by
      unfold mG;by_cases e:a=i
      ·subst e;simp[BS,nD,k]
      ·simp[e]]
     rfl
  ·obtain rfl:j=(nth l i).needs.length:=by simp at d;omega
   refine Bb b ?_ trivial;simp only[eS];rw[bF,show fj l (mG l i (nth l i).needs.length)=fj l (mF l (i+1))from yM fun a _=>by
    unfold mF mG;by_cases e:a=i
    ·subst e;simp[kH]
    ·have:a<i+1↔a<i:=by omega
     by_cases f:a<i<;>simp[e,f,this]]
   rfl
 ·obtain rfl:i=l.length:=by simp at b;omega
  refine ay ?_;simp only[eS];unfold GH;rw[aD r,yM fun a u=>show mF l l.length a=kH l a by simp[mF,u]]
def Ov{α:Type}[DecidableEq α]:∀{a b:List α},a.Nodup->(∀x∈a,x∈b)->a.length<=b.length
 |[],b,_,_=>by simp
 |x::a,b,h,s=>by
  have hx:x∈b:=s x (by simp);rw[QU]at h;have:=Ov (a:=a) (b:=b.erase x) h.2 fun y c=>by have n:y≠x:=fun e=>h.1 (e▸c);exact(List.mem_erase_of_ne n).2 (s y (by simp[c]))
  rw[List.length_erase_of_mem hx]at this;have d:0<b.length:=List.length_pos_of_mem hx;simp only[dU];omega
def afr{back:Bool}{a b:ByteArray}(h:lR (Edge ls back) a b):b∈ls.map fun x=>ia x back:=by
 have key:∀{a b},Edge ls back a b->b∈ls.map fun x=>ia x back:=by rintro a b ⟨x,c,_,rfl⟩;exact fN.2 ⟨x,c,rfl⟩
 cases h with
 |edge e=>exact key e
 |snoc _ e=>exact key e
structure WI(ls:List ik)(back:Bool)(nm:ByteArray)(seen next:List ByteArray):Prop where
 yh:mi du seen
 way:∀x∈seen,lR (Edge ls back) nm x
 GN:∀x∈next,x=nm\/x∈seen
 zD:∀z,(z=nm\/z∈seen)->z∈next\/∀y,Edge ls back z y->y∈seen
 few:next.length<=seen.length+1
def WI.len{back:Bool}{seen:List ByteArray}(h:WI ls back n seen next):seen.length<=ls.length:=by have:=Ov (RV Ca h.yh) (b:=ls.map fun x=>ia x back) fun x b=>afr (h.way x b);simpa using this
def WI.done{back:Bool}{seen:List ByteArray}(h:WI ls back n seen [])(x:ByteArray):x∈seen↔lR (Edge ls back) n x:=by
 refine⟨h.way x,fun c=> ?_⟩;induction c with
 |edge e=>
  rcases h.zD _ (.inl rfl)with b|b
  ·simp at b
  ·exact b _ e
 |snoc _ e ih=>
  rcases h.zD _ (.inr ih)with b|b
  ·simp at b
  ·exact b _ e
structure WJ(ls:List ik)(back:Bool)(nm t:ByteArray)(d:Nat)(seen next:List ByteArray)(j:Nat):Prop where
 yh:mi du seen
 way:∀x∈seen,lR (Edge ls back) nm x
 GN:∀x∈next,x=nm\/x∈seen
 zD:∀z,(z=nm\/z∈seen)->z∈next\/(z=t/\∀i,i<j->xz (nth ls i) back=t->ia (nth ls i) back∈seen)\/∀y,Edge ls back z y->y∈seen
 few:next.length<=seen.length
 src:t=nm\/lR (Edge ls back) nm t
 cnt:(ls.length-seen.length)+next.length<=d
 le:j<=ls.length
def WJ.len{back:Bool}{seen:List ByteArray}(h:WJ ls back n t d seen next j):seen.length<=ls.length:=by have:=Ov (RV Ca h.yh) (b:=ls.map fun x=>ia x back) fun x b=>afr (h.way x b);simpa using this
def WI.start{back:Bool}{seen:List ByteArray}(h:WI ls back nm seen (t::next)):WJ ls back nm t (ls.length-seen.length+next.length) seen next 0 where
 yh:=h.yh
 way:=h.way
 GN:=fun x hx=>h.GN x (by simp[hx])
 zD:=fun z hz=>by
  rcases h.zD z hz with h1|h1
  ·rcases fw.1 h1 with rfl|h1
   ·exact .inr (.inl ⟨rfl,fun i hi=>absurd hi (by omega)⟩)
   ·exact .inl h1
  ·exact .inr (.inr h1)
 few:=by have:=h.few;simp only[dU]at this;omega
 src:=(h.GN t (by simp)).imp id (h.way t)
 cnt:=bK _
 le:=fO _
def WJ.skip{back:Bool}{seen:List ByteArray}(h:WJ ls back nm t d seen next j)(hj:j<ls.length)(hs:xz (nth ls j) back=t->ia (nth ls j) back∈seen):WJ ls back nm t d seen next (j+1) :=
 {h with
  le:=hj
  zD:=fun z hz=>by
   rcases h.zD z hz with h1|⟨rfl,h1⟩|h1
   ·exact .inl h1
   ·refine .inr (.inl ⟨rfl,fun i hi=> ?_⟩);rcases dO i j with h2|h2
    ·exact h1 i h2
    ·obtain rfl:i=j:=by omega
     exact hs
   ·exact .inr (.inr h1)}
def WJ.add{back:Bool}{seen:List ByteArray}(h:WJ ls back n t d seen next j)(F:j<ls.length)(G:xz (nth ls j) back=t)(H:ia (nth ls j) back∉seen) :
  WJ ls back n t d (jc seen (ia (nth ls j) back)) (next++[ia (nth ls j) back]) (j+1):=by
 have r:Edge ls back t (ia (nth ls j) back):=⟨nth ls j,gF F,G,rfl⟩;have u:lR (Edge ls back) n (ia (nth ls j) back):=by
  rcases h.src with e|u
  ·rw[e]at r;exact .edge r
  ·exact .snoc u r
 generalize I:ia (nth ls j) back=s at *;have v:(jc seen s).length=seen.length+1:=by
  have f:=al4 (lt:=du) seen s;have q:=Ov (a:=s::seen) (b:=jc seen s) (QU.2 ⟨H,RV Ca h.yh⟩) fun x b=>by
   rw[DX];rcases fw.1 b with rfl|b
   ·exact .inr rfl
   ·exact .inl b
  simp only[dU]at q;have f:(jc seen s).length<=seen.length+1:=f;omega
 have k:mi du (jc seen s):=al3 Ca h.yh s;have l:∀x∈jc seen s,lR (Edge ls back) n x:=fun x b=>by
  rcases (DX _ _ _).1 b with b|rfl
  ·exact h.way x b
  ·exact u
 have A:(jc seen s).length<=ls.length:=by have:=Ov (RV Ca k) (b:=ls.map fun x=>ia x back) fun x b=>afr (l x b);simpa using this
 refine⟨k,l,fun x b=> ?_,fun z c=> ?_,?_,h.src,?_,F⟩
 ·rw[DX];rcases iV.1 b with b|b
  ·exact(h.GN x b).imp id .inl
  ·simp at b;exact .inr (.inr b)
 ·have m:(z=n\/z∈seen)\/z=s:=by
   rcases c with c|c
   ·exact .inl (.inl c)
   ·rcases (DX _ _ _).1 c with c|c
    ·exact .inl (.inr c)
    ·exact .inr c
  rcases m with m|rfl
  ·rcases h.zD z m with f|⟨rfl,f⟩|f
   ·exact .inl (by simp[f])
   ·refine .inr (.inl ⟨rfl,fun i L B=> ?_⟩);rw[DX];rcases dO i j with q|q
    ·exact .inl (f i q B)
    ·obtain rfl:i=j:=by omega
     exact .inr I
   ·exact .inr (.inr fun y J=>(DX _ _ _).2 (.inl (f y J)))
  ·exact .inl (by simp)
 ·have:=h.few;rw[jI,v];simp;omega
 ·have:=h.cnt;rw[jI,v];rw[v]at A;simp only[dU,pg];omega
def WJ.done{back:Bool}{seen:List ByteArray}(h:WJ ls back nm t d seen next ls.length):WI ls back nm seen next where
 yh:=h.yh
 way:=h.way
 GN:=h.GN
 zD:=fun z hz=>by
  rcases h.zD z hz with h1|⟨rfl,h1⟩|h1
  ·exact .inl h1
  ·refine .inr ?_;rintro y ⟨x,hx,h2,rfl⟩;obtain⟨i,hi,rfl⟩:=AQ hx;have e:nth ls i=ls[i]:=by simp[nth,kQ,hi]
   have:=h1 i hi (by rw[e];exact h2)
   rwa[e]at this
  ·exact .inr h1
 few:=by have:=h.few;omega
structure qc where
 seen:List ByteArray
 next:List ByteArray
structure q9 where
 seen:List ByteArray
 next:List ByteArray
 j:Nat
def ahs(s:ByteArray)(l:List ByteArray):rV (ak (s::l)) 1 (((s::l).length:Nat):Int)=ak l:=by simp[rV,ak];exact AW (by simp)
def Jj{tab:Nat->List CT}{c:E}{a b:VC}
  (h:(c.den env).kJ=true) (ha:a.den P tab env Q L):(VC.ite c a b).den P tab env Q L:=⟨fun _=>ha,fun q=>by rw[h]at q;cases q⟩
def MP{tab:Nat->List CT}{c:E}{a b:VC}
  (h:(c.den env).kJ=false) (hb:b.den P tab env Q L):(VC.ite c a b).den P tab env Q L:=⟨fun q=>by rw[h]at q;exact Bool.noConfusion q,fun _=>hb⟩
def Zu(ls:List ik)(m:ByteArray)(S:List ByteArray)(A:mi du S)(u:∀x,x∈S↔lR (Edge ls false) m x)(O:ls.length<=1000):dN az 93 none [ak ls,.str m,.bool false] (ak S) [] [(0,1)]:=by
 refine gu V2 an8 ⟨Ai ls,trivial,trivial,trivial⟩ fun q=> ?_;unfold V2;refine qO qc (fun s=>[ak s.seen,ak s.next]) (fun s=>WI ls false m s.seen s.next) (fun s=>(ls.length-s.seen.length)+s.next.length) ⟨[],[m]⟩ (fun s v h=> ?_) ?_ ?_ ?_
 ·simp only[C4]at h;have y:=congrArg cK h.1;have b:=congrArg cK h.2.1;rw[vJ,vJ]at y b;omega
 ·simp only[eS];simp[ak,fP]
 ·exact⟨I3,by simp,by simp,by simp,by simp⟩
 rintro⟨seen,next⟩ I _;simp only at I;simp only[cA];have z:=I.len;have i:=I.few;apply aj<;>intro b<;>simp only[eS]at b
 ·have b:0<next.length:=by simp at b;exact b
  obtain⟨t,next,rfl⟩:∃t r,next=t::r:=by
   cases next with
   |nil=>simp at b
   |cons t r=>exact⟨t,r,rfl⟩
  simp only[dU]at i;refine aQ (fun _=> ?_) (aQ (fun _=> ?_) ?_)
  ·simp only[eS];simp;(try omega)
  ·simp only[eS];simp;(try omega)
  have B:nth (t::next) 0=t:=rfl;refine qO q9 (fun s=>[ak s.seen,ak s.next,.int .i64 s.j]) (fun s=>WJ ls false m t (ls.length-seen.length+next.length) s.seen s.next s.j) (fun s=>ls.length-s.j) ⟨seen,next,0⟩ (fun s v h=> ?_) ?_ I.start ?_
  ·simp at h;omega
  ·simp only[eS];rw[ahs];rfl
  rintro⟨n,nx,j⟩ J _;simp only at J;simp only[cA];have F:=J.len;have G:=J.few;have H:=J.le;apply aj<;>intro c<;>simp only[eS]at c
  ·have c:j<ls.length:=by simp at c;exact c
   refine dK ?_;refine MP rfl ?_;refine aH (nE n (ia (nth ls j) false)) ?_ (ha:=by(simp only[gS,xH,vF,ia];try exact rfl));apply aj<;>intro d<;>simp only[eS,xH,vF,jr,fP,Int.toNat_zero,B]at d
   ·have d:xz (nth ls j) false=t/\hasB n (ia (nth ls j) false)=false:=by simpa[xz]using d
    have k:ia (nth ls j) false∉n:=fun L=>by
     have:hasB n (ia (nth ls j) false)=true:=by unfold hasB;rw[uY];exact⟨_,L,by simp⟩
     rw[this]at d;simp at d
    refine fD (FF n (ia (nth ls j) false) (by omega)) ?_ (ha:=by(simp only[gS,xH,vF,ia];try exact rfl));refine aQ (fun _=> ?_) ?_
    ·simp[E.den];omega
    refine Ji ⟨jc n (ia (nth ls j) false),nx++[ia (nth ls j) false],j+1⟩ ?_ (J.add c d.1 k) (by simp only;omega);simp only[eS,xH,vF];rw[bF,yN];rfl
   ·refine Ji ⟨n,nx,j+1⟩ ?_ (J.skip c fun M=> ?_) (by simp only;omega)
    ·simp only[eS];rw[bF];rfl
    ·have l:hasB n (ia (nth ls j) false)=true:=by have f:=M;simp only[xz,xZ,vC,sZ]at f;simpa[f]using d
     unfold hasB at l;rw[uY]at l;obtain⟨x,N,e⟩:=l;rw[dr]at e;rw[<-e];exact N
  ·obtain rfl:j=ls.length:=by simp at c;omega
   refine⟨⟨n,nx⟩,rfl,J.done,?_⟩;have:=J.cnt;simp only[dU];omega
 ·obtain rfl:next=[]:=by cases next<;>simp at b ⊢
  refine ay ?_;simp only[eS];rw[RU Ca I.yh A fun x=>(I.done x).trans (u x).symm]
def axQ(ls:List ik)(m:ByteArray)(S:List ByteArray)(A:mi du S)(u:∀x,x∈S↔lR (Edge ls true) m x)(O:ls.length<=1000):dN az 93 none [ak ls,.str m,.bool true] (ak S) [] [(0,1)]:=by
 refine gu V2 an8 ⟨Ai ls,trivial,trivial,trivial⟩ fun q=> ?_;unfold V2;refine qO qc (fun s=>[ak s.seen,ak s.next]) (fun s=>WI ls true m s.seen s.next) (fun s=>(ls.length-s.seen.length)+s.next.length) ⟨[],[m]⟩ (fun s v h=> ?_) ?_ ?_ ?_
 ·simp only[C4]at h;have y:=congrArg cK h.1;have b:=congrArg cK h.2.1;rw[vJ,vJ]at y b;omega
 ·simp only[eS];simp[ak,fP]
 ·exact⟨I3,by simp,by simp,by simp,by simp⟩
 rintro⟨seen,next⟩ I _;simp only at I;simp only[cA];have z:=I.len;have i:=I.few;apply aj<;>intro b<;>simp only[eS]at b
 ·have b:0<next.length:=by simp at b;exact b
  obtain⟨t,next,rfl⟩:∃t r,next=t::r:=by
   cases next with
   |nil=>simp at b
   |cons t r=>exact⟨t,r,rfl⟩
  simp only[dU]at i;refine aQ (fun _=> ?_) (aQ (fun _=> ?_) ?_)
  ·simp only[eS];simp;(try omega)
  ·simp only[eS];simp;(try omega)
  have B:nth (t::next) 0=t:=rfl;refine qO q9 (fun s=>[ak s.seen,ak s.next,.int .i64 s.j]) (fun s=>WJ ls true m t (ls.length-seen.length+next.length) s.seen s.next s.j) (fun s=>ls.length-s.j) ⟨seen,next,0⟩ (fun s v h=> ?_) ?_ I.start ?_
  ·simp at h;omega
  ·simp only[eS];rw[ahs];rfl
  rintro⟨n,nx,j⟩ J _;simp only at J;simp only[cA];have F:=J.len;have G:=J.few;have H:=J.le;apply aj<;>intro c<;>simp only[eS]at c
  ·have c:j<ls.length:=by simp at c;exact c
   refine dK ?_;refine Jj rfl ?_;refine aH (nE n (ia (nth ls j) true)) ?_ (ha:=by(simp only[gS,xH,vF,ia];try exact rfl));apply aj<;>intro d<;>simp only[eS,xH,vF,jr,fP,Int.toNat_zero,B]at d
   ·have d:xz (nth ls j) true=t/\hasB n (ia (nth ls j) true)=false:=by simpa[xz]using d
    have k:ia (nth ls j) true∉n:=fun L=>by
     have:hasB n (ia (nth ls j) true)=true:=by unfold hasB;rw[uY];exact⟨_,L,by simp⟩
     rw[this]at d;simp at d
    refine fD (FF n (ia (nth ls j) true) (by omega)) ?_ (ha:=by(simp only[gS,xH,vF,ia];try exact rfl));refine aQ (fun _=> ?_) ?_
    ·simp[E.den];omega
    refine Ji ⟨jc n (ia (nth ls j) true),nx++[ia (nth ls j) true],j+1⟩ ?_ (J.add c d.1 k) (by simp only;omega);simp only[eS,xH,vF];rw[bF,yN];rfl
   ·refine Ji ⟨n,nx,j+1⟩ ?_ (J.skip c fun M=> ?_) (by simp only;omega)
    ·simp only[eS];rw[bF];rfl
    ·have l:hasB n (ia (nth ls j) true)=true:=by have f:=M;simp only[xz,xZ,vC,sZ]at f;simpa[f]using d
     unfold hasB at l;rw[uY]at l;obtain⟨x,N,e⟩:=l;rw[dr]at e;rw[<-e];exact N
  ·obtain rfl:j=ls.length:=by simp at c;omega
   refine⟨⟨n,nx⟩,rfl,J.done,?_⟩;have:=J.cnt;simp only[dU];omega
 ·obtain rfl:next=[]:=by cases next<;>simp at b ⊢
  refine ay ?_;simp only[eS];rw[RU Ca I.yh A fun x=>(I.done x).trans (u x).symm]
def axA(l:List Entry)(s:ByteArray):dN az 140 none [ak l,.str s] (ak (pO l s)) [] [(0,1)]:=by refine gu apG aIS ⟨mL l,trivial,trivial⟩ fun h=> ?_;unfold apG;have:=ab5 l;refine fD (FD l) (hty:=Ai _) ?_;refine fD (Zu (gr l) s _ (Kn l s).1 (Kn l s).2 (by omega)) ?_;exact ay rfl
def axu(l:List Entry)(s:ByteArray):dN az 57 none [ak l,.str s] (ak (lL l s)) [] [(0,1)]:=by refine gu apy aIL ⟨mL l,trivial,trivial⟩ fun h=> ?_;unfold apy;have:=ab5 l;refine fD (FD l) (hty:=Ai _) ?_;refine fD (axQ (gr l) s _ (alm l s).1 (alm l s).2 (by omega)) ?_;exact ay rfl
def Nt{l:List ByteArray}{s:ByteArray}:hasB l s=true↔s∈l:=by
 unfold hasB;rw[uY];constructor
 ·rintro⟨x,b,e⟩;rw[dr]at e;rw[<-e];exact b
 ·intro h;exact⟨s,h,by simp⟩
def acG{l:List Entry}(h:cG l=true){i:Nat}(b:i<l.length):pO l (nth l i).name=fj l (fJ l i):=by unfold pO;rw[aD h,aaf h b]
def aD8{l:List Entry}(h:cG l=true){i:Nat}(b:i<l.length):lL l (nth l i).name=fj l (fun a=>fJ l a i):=by unfold lL;rw[aD h,aaf h b]
def uk(l:List Entry)(i a:Nat):Bool:=kH l a||(decide (a<i)&&fJ l a a)
def awr{l:List Entry}(r:cG l=true){p q:Nat->Bool}:(fj l p).any (hasB (fj l q))=nD (fun j=>p j&&q j) l.length:=by
 rw[uX,uY,I1];constructor
 ·rintro⟨x,d,c⟩;obtain⟨j,h,b,rfl⟩:=DP.1 d;rw[GI r h]at c;exact⟨j,h,by rw[b,c];rfl⟩
 ·rintro⟨j,h,b⟩;rw[aY]at b;exact⟨_,DP.2 ⟨j,h,b.1,rfl⟩,by rw[GI r h];exact b.2⟩
def aws{l:List ByteArray}{p:ByteArray->Bool}{k:Nat}(h:k<l.length):(l.take (k+1)).any p=((l.take k).any p||p (nth l k)):=by rw[Ky l h,List.any_append];simp
def Sz(l:List Entry):dN az 62 none [ak l] (ak (pP l)) [] [(0,1)]:=by
 refine gu apM aIX ⟨mL l,trivial⟩ fun t=> ?_;unfold apM;refine aH (Jb l) ?_;apply aj<;>intro h<;>simp only[eS]at h
 ·have:cG l=false:=by simpa using h
  exact ay (by simp[E.den,pP,this,ak])
 have r:cG l=true:=by simpa using h
 have y:=(qt r).1;have u:=ab5 l;refine fD (FD l) (hty:=Ai _) ?_;refine fD (ag2 l) ?_;refine cU l.length (fun i=>[ak (fj l (uk l i)),.int .i64 i]) (fun _=>True) ?_ trivial ?_
 ·simp only[eS];unfold GH;rw[aD r,yM fun a _=>show uk l 0 a=kH l a by simp[uk]];rfl
 intro i v _ _;simp only[cA];apply aj<;>intro c<;>simp only[eS]at c
 ·have c:i<l.length:=by simp at c;exact c
  have f:=Kg l (uk l i);refine dK ?_;refine fD (Zu (gr l) (nth l i).name _ (Kn l _).1 (Kn l _).2 (by omega)) ?_;refine aH (nE (pO l (nth l i).name) (nth l i).name) ?_;rw[acG r c,GI r c];apply aj<;>intro b<;>simp only[eS]at b
  ·refine fD (FF (fj l (uk l i)) (nth l i).name (by omega)) ?_;refine cJ c ?_ trivial;simp only[eS];rw[bF];show [ak (xF du (fj l (uk l i)) (nth l i).name),_]=_;rw[alh r c,yM fun a _=>show(uk l i a||decide (a=i))=uk l (i+1) a by
    unfold uk;by_cases e:a=i
    ·subst e;simp[b]
    ·have:a<i+1↔a<i:=by omega
     simp[e,this]]
   rfl
  ·refine cJ c ?_ trivial;simp only[eS];rw[bF,yM fun a _=>show uk l i a=uk l (i+1) a by
    unfold uk;by_cases e:a=i
    ·subst e;simp[b]
    ·have:a<i+1↔a<i:=by omega
     simp[this]]
   rfl
 ·obtain rfl:i=l.length:=by simp at c;omega
  have k:fj l (uk l l.length)=fj l (lG l):=yM fun a x=>by simp[uk,lG,x]
  rw[k];refine cU l.length (fun i=>[ak (uH l (js l) i),.int .i64 i]) (fun _=>True) rfl trivial ?_;intro i v _ _;simp only[cA];have f:=acb l (js l) i;apply aj<;>intro b<;>simp only[eS]at b
  ·have b:i<l.length:=by simp at b;exact b
   refine dK ?_;refine aH (nE (fj l (lG l)) (nth l i).name) ?_;refine fD (Zu (gr l) (nth l i).name _ (Kn l _).1 (Kn l _).2 (by omega)) ?_;rw[acG r b,GI r b];have m:=Kg l (fJ l i);have n:=awr r (p:=fJ l i) (q:=lG l);generalize z:fj l (fJ l i)=R at n m;refine cU R.length (fun j=>[.bool (lG l i||(R.take j).any (hasB (fj l (lG l)))),.int .i64 j]) (fun _=>True) ?_ trivial ?_
   ·simp only[eS];simp
   intro j A _ _;simp only[cA];apply aj<;>intro d<;>simp only[eS]at d
   ·have d:j<R.length:=by simp at d;exact d
    refine dK ?_;refine aH (nE (fj l (lG l)) (nth R j)) ?_;refine cJ d ?_ trivial;simp only[eS];rw[bF,aws d, <-Bool.or_assoc];rfl
   ·obtain rfl:j=R.length:=by simp at d;omega
    rw[wU,n];have s:(lG l i||nD (fun j=>fJ l i j&&lG l j) l.length)=js l i:=rfl;rw[s];apply aj<;>intro q<;>simp only[eS]at q
    ·refine aQ (fun _=> ?_) ?_
     ·simp[E.den];omega
     refine Bb b ?_ trivial;simp only[eS,oQ,iW];rw[bF,UW,aD q,yN];rfl
    ·refine Bb b ?_ trivial;simp only[eS];rw[bF,UW,aw (by simp[q])];rfl
  ·obtain rfl:i=l.length:=by simp at b;omega
   refine ay ?_;simp only[eS];unfold pP;rw[aD r];rfl
def GZ(ls:List ik)(n:ByteArray)(done:List ByteArray):Bool:=eK (fun k=> !decide ((nth ls k).j8=n)||hasB done (nth ls k).to) ls.length
def aha(ls:List ik)(n:ByteArray)(done:List ByteArray):aG az 126 none [ak ls,.str n,ak done] (.bool (GZ ls n done)) []:=by
 refine bZ aqr aJC ⟨Ai ls,trivial,kA done,trivial⟩ fun f=> ?_;have l:ls.length<=9223372036854775807:=kF f.1;unfold aqr;refine cU ls.length (fun k=>[.int .i64 k]) (fun k=>eK (fun k=> !decide ((nth ls k).j8=n)||hasB done (nth ls k).to) k=true) rfl rfl ?_;intro k d I _;simp only[cA];apply aj<;>intro h<;>simp only[eS]at h
 ·have h:k<ls.length:=by simp at h;exact h
  refine dK ?_;refine aH (nE done (nth ls k).to) ?_;apply aj<;>intro c<;>simp only[eS,xH,vF]at c
  ·have b:(!decide ((nth ls k).j8=n)||hasB done (nth ls k).to)=false:=by grind
   refine ay ?_;simp only[eS];unfold GZ;rw[qg h b]
  ·have b:(!decide ((nth ls k).j8=n)||hasB done (nth ls k).to)=true:=by grind
   refine cJ h ?_ ?_
   ·simp only[eS];rw[bF];rfl
   ·show(eK _ k&&_)=true;rw[I];exact b
 ·obtain rfl:k=ls.length:=by simp at h;omega
  refine ay ?_;simp only[eS];unfold GZ;rw[I]
def acf{l:List Entry}(r:cG l=true){o:List Nat}(ho:∀x∈o,x<l.length){i:Nat}(b:i<l.length):hasB (v8 l o) (nth l i).name=o.contains i:=by
 rw[uX,Nt,Yu,dr];unfold v8;rw[fN];constructor
 ·rintro⟨j,c,d⟩
  rwa[<-wC r (ho j c) b d]
 ·intro h;exact⟨i,h,rfl⟩
def aFf{l:List Entry}(r:cG l=true){o:List Nat}(ho:∀x∈o,x<l.length){i:Nat}(n:i<l.length):GZ (gr l) (nth l i).name (v8 l o)=eK (fun k=> !fG l i k||o.contains k) l.length:=by
 rw[uX];unfold GZ;rw[kC,kC];have A:∀c,c<l.length->(fG l i c=true↔Edge (gr l) false (nth l i).name (nth l c).name):=fun c f=>by
  rw[GG r];constructor
  ·intro h;exact⟨i,c,n,f,h,rfl,rfl⟩
  ·rintro⟨a,b,j,d,q,s,t⟩;rw[<-wC r j n s, <-wC r d f t];exact q
 constructor
 ·intro h c f;cases B:fG l i c with
  |false=>rfl
  |true=>
   obtain⟨x,F,j,d⟩:=(A c f).1 B;obtain⟨k,m,rfl⟩:=AQ F;have e:nth (gr l) k=(gr l)[k]:=by simp[nth,kQ,m]
   have:=h k m;rw[e]at this;have u:(gr l)[k].j8=(nth l i).name:=j;have v:(gr l)[k].to=(nth l c).name:=d;rw[u,v,acf r ho f]at this;simpa using this
 ·intro h k m;cases z:decide ((nth (gr l) k).j8=(nth l i).name)with
  |false=>rfl
  |true=> rw[dr]at z;obtain⟨a,c,j,d,q,s,t⟩:=(GG r).1 ⟨_,gF m,z,rfl⟩;have G:a=i:=wC r j n s;subst G;have y:(nth l c).name=(nth (gr l) k).to:=t;have:=h c d;rw[q]at this;rw[<-y,acf r ho d];simpa using this
structure awe where
 o:List Nat
 m:Bool
def axE(l:List Entry):dN az 141 none [ak l] (ak (wy l)) [] [(0,1)]:=by
 refine gu apL aIW ⟨mL l,trivial⟩ fun F=> ?_;unfold apL;refine fD (FD l) (hty:=Ai _) ?_;refine fD (ag2 l) ?_;refine aH (Jb l) ?_;refine qO awe (fun s=>[ak (v8 l s.o),.bool s.m]) (fun s=>s.o=ib l s.o.length/\(s.m=true->cG l=true)/\(s.m=false->cG l=true->eH (mK l s.o) l.length=none)/\(cG l=false->s.o=[])) (fun s=>if s.m then l.length+1-s.o.length else 0) ⟨[],cG l⟩ (fun s G h=> ?_) rfl ⟨rfl,id,fun d b=>by simp[b]at d,fun _=>rfl⟩ ?_
 ·simp only[C4]at h;have d:=congrArg cK h.1;rw[vJ,vJ,Ou,Ou]at d;have b:s.m=G.m:=by simpa using h.2.1
  rw[b,show s.o.length=G.o.length by omega]
 rintro⟨o,m⟩ ⟨I,q,u,e⟩ _;simp only at I q u e;simp only[cA];apply aj<;>intro h<;>simp only[eS]at h
 ·have r:=q h;have M:=(qt r).1;have y:=acs l o.length;rw[<-I]at y;have H:∀x∈o,x<l.length:=fun x L=>DS (k:=o.length) (by rw[<-I];exact L);refine cU l.length (fun i=>[ak (v8 l (match eH (mK l o) i with|some j=>o++[j]|none=>o)),.bool (eH (mK l o) i).isSome,.int .i64 i]) (fun _=>True) rfl trivial ?_;intro i N _ _;simp only[cA];apply aj<;>intro b<;>simp only[eS]at b
  ·have b:i<l.length:=by simp at b;exact b
   refine dK ?_;generalize c:(match eH (mK l o) i with|some j=>o++[j]|none=>o)=z;refine aH (nE (v8 l z) (nth l i).name) ?_;refine aH (nE (GH l) (nth l i).name) ?_;refine aH (aha (gr l) (nth l i).name (v8 l z)) ?_;have A:hasB (GH l) (nth l i).name=kH l i:=by unfold GH;rw[aD r,GI r b]
   rw[A];cases f:eH (mK l o) i with
   |some j=>
    rw[f]at c;have t:eH (mK l o) (i+1)=some j:=by rw[eH,f]
    apply aj<;>intro n
    ·simp only[eS]at n;simp at n
    ·refine cJ b ?_ trivial;simp only[eS];rw[bF,t, <-c];rfl
   |none=>
    rw[f]at c;have v:o=z:=c;subst v;rw[acf r H b,aFf r H b];have B:(!o.contains i&& !kH l i&&eK (fun k=> !fG l i k||o.contains k) l.length)=mK l o i:=rfl;apply aj<;>intro n<;>simp only[eS,YH,Iz,qI,B]at n
    ·have t:eH (mK l o) (i+1)=some i:=by rw[eH,f];simp[n]
     refine aQ (fun _=> ?_) ?_
     ·simp[E.den,Ou];omega
     refine cJ b ?_ trivial;simp only[eS,oQ,iW];rw[bF,t,yN];simp only[aEe];rfl
    ·have t:eH (mK l o) (i+1)=none:=by rw[eH,f];simp[n]
     refine cJ b ?_ trivial;simp only[eS];rw[bF,t];rfl
  ·obtain rfl:i=l.length:=by simp at b;omega
   cases f:eH (mK l o) l.length with
   |none=> refine⟨⟨o,false⟩,rfl,⟨I,fun h=>(by cases h),fun _ _=>f,e⟩,?_⟩;simp only[h,sZ,xZ,vC];omega
   |some j=>
    have J:o.length<l.length:=by have d:=acs l (o.length+1);simp only[ib]at d;rw[<-I,f]at d;simp at d;omega
    refine⟨⟨o++[j],true⟩,rfl,⟨?_,fun _=>r,fun h=>(by cases h),fun h=>by rw[r]at h;cases h⟩,?_⟩
    ·show o++[j]=ib l (o++[j]).length;rw[jI];show o++[j]=ib l (o.length+1);simp only[ib];rw[<-I,f]
    ·simp only[h,sZ,jI,dU,pg];omega
 ·refine ay ?_;simp only[eS];unfold wy;cases r:cG l with
  |false=> rw[e r];rfl
  |true=> have:=aEE (l:=l) (k:=o.length) (by rw[<-I];exact u h r);rw[aD rfl, <-this, <-I]
def ali[Inhabited α]{l b:List α}{k:Nat}(h:nth l k≠nth b k):l≠b:=fun e=>h (by rw[e])
def alj{l b:List α}(h:l.length≠b.length):l≠b:=fun e=>h (by rw[e])
def axg(l b:List ByteArray):aG az 80 none [ak l,ak b] (.bool (decide (l=b))) []:=by
 refine bZ aoZ aId ⟨kA l,kA b,trivial⟩ fun f=> ?_;have j:l.length<=9223372036854775807:=kF f.1;unfold aoZ;apply aj<;>intro h<;>simp only[eS]at h
 ·have h:l.length≠b.length:=by grind
  exact ay (by simp[E.den,alj h])
 have h:l.length=b.length:=by grind
 refine cU l.length (fun k=>[.int .i64 k]) (fun k=>∀i,i<k->nth l i=nth b i) rfl (by omega) ?_;intro k m I _;simp only[cA];apply aj<;>intro d<;>simp only[eS]at d
 ·have d:k<l.length:=by simp at d;exact d
  refine dK ?_;refine dK ?_;apply aj<;>intro c<;>simp only[eS,jr,fP]at c
  ·have c:nth l k≠nth b k:=by simpa using c
   exact ay (by simp[E.den,ali c])
  ·have c:nth l k=nth b k:=by simpa using c
   refine cJ d ?_ fun i n=> ?_
   ·simp only[eS];rw[bF];rfl
   ·rcases dO i k with e|e
    ·exact I i e
    ·obtain rfl:i=k:=by omega
     exact c
 ·obtain rfl:k=l.length:=by simp at d;omega
  exact ay (by simp[E.den,Jz h I])
def axL(l b:List ByteArray):aG az 90 none [ak l,ak b] (.bool (decide (l=b))) []:=by
 refine bZ apX aI8 ⟨kA l,kA b,trivial⟩ fun f=> ?_;have j:l.length<=9223372036854775807:=kF f.1;unfold apX;apply aj<;>intro h<;>simp only[eS]at h
 ·have h:l.length≠b.length:=by grind
  exact ay (by simp[E.den,alj h])
 have h:l.length=b.length:=by grind
 refine cU l.length (fun k=>[.int .i64 k]) (fun k=>∀i,i<k->nth l i=nth b i) rfl (by omega) ?_;intro k m I _;simp only[cA];apply aj<;>intro d<;>simp only[eS]at d
 ·have d:k<l.length:=by simp at d;exact d
  refine dK ?_;refine dK ?_;apply aj<;>intro c<;>simp only[eS,jr,fP]at c
  ·have c:nth l k≠nth b k:=by simpa using c
   exact ay (by simp[E.den,ali c])
  ·have c:nth l k=nth b k:=by simpa using c
   refine cJ d ?_ fun i n=> ?_
   ·simp only[eS];rw[bF];rfl
   ·rcases dO i k with e|e
    ·exact I i e
    ·obtain rfl:i=k:=by omega
     exact c
 ·obtain rfl:k=l.length:=by simp at d;omega
  exact ay (by simp[E.den,Jz h I])
def aw1(a b:Core):aG az 29 none [enc a,enc b] (.bool (decide (a=b))) []:=by
 refine bZ aoH aHU ⟨pS a,pS b,trivial⟩ fun f=> ?_;have t:a.cells.length<=9223372036854775807:=by have j:=f.1;simp only[enc,Fits,eM,dC]at j;exact kF j.2.2.2.1
 unfold aoH;apply aj<;>intro h<;>simp only[eS,eM]at h
 ·have:a≠b:=fun e=>by subst e;simp at h
  exact ay (by simp[E.den,this])
 simp at h;obtain⟨⟨⟨⟨n,q⟩,r⟩,s⟩,l⟩:=h;have l:a.cells.length=b.cells.length:=by omega
 refine cU a.cells.length (fun k=>[.int .i64 k]) (fun k=>∀i,i<k->nth a.cells i=nth b.cells i) rfl (by omega) ?_;intro k u I _;simp only[cA];apply aj<;>intro d<;>simp only[eS,eM]at d
 ·have d:k<a.cells.length:=by simp at d;exact d
  refine dK ?_;refine dK ?_;apply aj<;>intro c<;>simp only[eS,eM,rB,azd]at c
  ·have c:nth a.cells k≠nth b.cells k:=by simpa using c
   have:a≠b:=fun e=>c (by rw[e]);exact ay (by simp[E.den,this])
  ·have c:nth a.cells k=nth b.cells k:=by simpa using c
   refine cJ d ?_ fun i v=> ?_
   ·simp only[eS];rw[bF];rfl
   ·rcases dO i k with m|m
    ·exact I i m
    ·obtain rfl:i=k:=by omega
     exact c
 ·obtain rfl:k=a.cells.length:=by simp at d;omega
  have:a=b:=by rw[ay8];exact⟨n,q,r,Jz l I,s⟩
  exact ay (by simp[E.den,this])
def aw2(a b:Part):aG az 10 none [enc a,enc b] (.bool (decide (a=b))) []:=by
 refine bZ aoI aHV ⟨jS a,jS b,trivial⟩ fun f=> ?_;have q:a.ai.length<=9223372036854775807:=by have j:=f.1;simp only[enc,Fits,iN,dC]at j;exact kF j.2.2.2.2.2.1
 unfold aoI;refine aH (aw1 a.core b.core) ?_;apply aj<;>intro h<;>simp only[eS,iN]at h
 ·have:a≠b:=fun e=>by subst e;simp at h
  exact ay (by simp[E.den,this])
 simp at h;obtain⟨n,l⟩:=h;have l:a.ai.length=b.ai.length:=by omega
 refine cU a.ai.length (fun k=>[.int .i64 k]) (fun k=>∀i,i<k->nth a.ai i=nth b.ai i) rfl (by omega) ?_;intro k r I _;simp only[cA];apply aj<;>intro d<;>simp only[eS,iN]at d
 ·have d:k<a.ai.length:=by simp at d;exact d
  refine dK ?_;refine dK ?_;apply aj<;>intro c<;>simp only[eS,iN,D3,aze]at c
  ·have c:nth a.ai k≠nth b.ai k:=by simpa using c
   have:a≠b:=fun e=>c (by rw[e]);exact ay (by simp[E.den,this])
  ·have c:nth a.ai k=nth b.ai k:=by simpa using c
   refine cJ d ?_ fun i s=> ?_
   ·simp only[eS];rw[bF];rfl
   ·rcases dO i k with m|m
    ·exact I i m
    ·obtain rfl:i=k:=by omega
     exact c
 ·obtain rfl:k=a.ai.length:=by simp at d;omega
  have:a=b:=by rw[aza];exact⟨n,Jz l I⟩
  exact ay (by simp[E.den,this])
def yU(p:Part)(k:Nat):List ByteArray:=p.core.kind::(p.ai.take k).map (·.name)
def G4(p:Part):List ByteArray:=p.core.kind::p.ai.map (·.name)
def amk(p:Part){k:Nat}(h:k<p.ai.length):yU p (k+1)=yU p k++[(nth p.ai k).name]:=by unfold yU;rw[Ky _ h,AR];rfl
def amj(p:Part)(k:Nat):(yU p k).length<=k+1:=by unfold yU;simp;omega
def ami(p:Part):yU p p.ai.length=G4 p:=by unfold yU G4;rw[wU]
def aw0(p:Part)(h:p.ai.length<=1048576):dN az 81 none [enc p] (ak (G4 p)) [] [(0,1)]:=by
 refine gu aoG aHT ⟨jS p,trivial⟩ fun f=> ?_;unfold aoG;refine cU p.ai.length (fun k=>[ak (yU p k),.int .i64 k]) (fun _=>True) ?_ trivial ?_
 ·simp only[eS,iN];simp[yU,ak,fP]
 intro k c _ _;simp only[cA];have l:=amj p k;apply aj<;>intro b<;>simp only[eS,iN]at b
 ·have b:k<p.ai.length:=by simp at b;exact b
  refine dK ?_;refine aQ (fun _=> ?_) ?_
  ·simp[E.den];omega
  refine cJ b ?_ trivial;simp only[eS,iN,D3,yn];rw[bF,yN, <-amk p b];rfl
 ·obtain rfl:k=p.ai.length:=by simp at b;omega
  exact ay (by rw[<-ami];rfl)
def axB(p:Part)(h:p.ai.length<=1048576):dN az 91 none [enc p] (ak (G4 p)) [] [(0,1)]:=by
 refine gu apI aIU ⟨jS p,trivial⟩ fun f=> ?_;unfold apI;refine cU p.ai.length (fun k=>[ak (yU p k),.int .i64 k]) (fun _=>True) ?_ trivial ?_
 ·simp only[eS,iN];simp[yU,ak,fP]
 intro k c _ _;simp only[cA];have l:=amj p k;apply aj<;>intro b<;>simp only[eS,iN]at b
 ·have b:k<p.ai.length:=by simp at b;exact b
  refine dK ?_;refine aQ (fun _=> ?_) ?_
  ·simp[E.den];omega
  refine cJ b ?_ trivial;simp only[eS,iN,D3,yn];rw[bF,yN, <-amk p b];rfl
 ·obtain rfl:k=p.ai.length:=by simp at b;omega
  exact ay (by rw[<-ami];rfl)
def xN(l:List ByteArray)(k:Nat):Bool:=k==0||du (nth l (k-1)) (nth l k)
def yY(l:List ByteArray):Bool:=eK (xN l) l.length
def axc(l:List ByteArray):aG az 77 none [ak l] (.bool (yY l)) []:=by
 refine bZ aoV aH9 ⟨kA l,trivial⟩ fun f=> ?_;have q:l.length<=9223372036854775807:=kF f.1;unfold aoV;have n:∀i,i<=0->i<l.length->xN l i=true:=fun i c _=>by
  obtain rfl:i=0:=by omega
  rfl
 refine cU (l.length-1) (fun k=>[.int .i64 ((k+1:Nat):Int)]) (fun k=>∀i,i<=k->i<l.length->xN l i=true) rfl n ?_;intro k r I _;simp only[cA];apply aj<;>intro b<;>simp only[eS]at b
 ·have b:k+1<l.length:=by simp at b;omega
  have m:dQ .sub .i64 ((k+1:Nat):Int) 1=(k:Int):=by rw[lS];omega
  refine aQ (fun _=> ?_) (aQ (fun _=> ?_) ?_)
  ·simp only[eS,m];simp;omega
  ·simp only[eS];simp;omega
  apply aj<;>intro d<;>simp only[eS,jr,fP,m]at d
  ·have e:xN l (k+1)=false:=by unfold xN;simpa using d
   exact ay (by simp[E.den,yY,qg b e])
  ·have e:xN l (k+1)=true:=by unfold xN;simpa using d
   refine cJ (by omega) ?_ fun i c j=> ?_
   ·simp only[eS];rw[bF];rfl
   ·rcases dO k i with h|h
    ·obtain rfl:i=k+1:=by omega
     exact e
    ·exact I i h j
 ·have b:¬k+1<l.length:=by simp at b;omega
  refine ay ?_;have:yY l=true:=by unfold yY;rw[kC];exact fun i c=>I i (by omega) c
  simp[E.den,this]
def sJ(l:List Entry)(up:List ByteArray)(j:Nat):Bool:=match pz l (nth up j)with
 |none=>false
 |some k=> !hasB (up.take j) (nth up j)&&eK (fun i=> !fG l k i||hasB (up.take j) (nth l i).name) l.length
def sL(l:List Entry)(up:List ByteArray):Bool:=eK (sJ l up) up.length
def az5(l:List ByteArray)(s t:ByteArray):hasB (l++[t]) s=(hasB l s||decide (t=s)):=by unfold hasB;rw[List.any_append];simp
def axi(h:Host)(x:cG h.entries=true):aG az 83 none [enc h,lB h.entries] (.bool (sL h.entries h.up)) []:=by
 refine bZ ao0 aIe ⟨pT h,VU _,trivial⟩ fun t=> ?_;have A:=t.1;simp only[enc,Fits,bo,dC]at A;have B:h.up.length<=9223372036854775807:=kF (show Fits (ak h.up)from A.2.2.1);have q:=(qt x).1;unfold ao0;refine aQ (fun _=> ?_) ?_
 ·simp only[eS,bo];simp;omega
 generalize d:h.entries=l at x q;refine cU h.up.length (fun j=>[.int .i64 j,dJ l.length (fun a=>hasB (h.up.take j) (nth l a).name)]) (fun j=>∀i,i<j->sJ l h.up i=true) ?_ (by omega) ?_
 ·simp only[eS,bo,d,eF];simp only[gX,jJ,rR,eF,Vw];rfl
 intro j H I _;simp only[cA];apply aj<;>intro c<;>simp only[eS,bo]at c
 ·have c:j<h.up.length:=by simp at c;exact c
  refine dK ?_;refine aH (MD l (nth h.up j)) ?_ (ha:=by(simp only[gS,bo,d,jr,fP];try exact rfl));cases f:pz l (nth h.up j)with
  |none=>
   have r:cN l (nth h.up j)= -1:=by unfold cN;rw[f]
   have s:sJ l h.up j=false:=by unfold sJ;rw[f]
   rw[r];refine aQ (fun F=> ?_) ?_
   ·simp[cO,E.den,bg]at F
   refine aj (fun _=> ?_) (fun b=> ?_)
   ·exact ay (by simp[E.den,sL,qg c s])
   ·simp[E.den,bg]at b
  |some k=>
   obtain⟨u,v⟩:=JD f;have r:cN l (nth h.up j)=(k:Int):=by unfold cN;rw[f]
   rw[r];refine aQ (fun _=> ?_) ?_
   ·simp only[eS,bo,d,qZ];simp;omega
   apply aj<;>intro b<;>simp only[eS,AZ u,v]at b
   ·have b:hasB (h.up.take j) (nth h.up j)=true:=by
     simp at b;rcases b with b|b
     ·omega
     ·exact b
    have s:sJ l h.up j=false:=by unfold sJ;rw[f];simp[b]
    exact ay (by simp[E.den,sL,qg c s])
   have b:hasB (h.up.take j) (nth h.up j)=false:=by
    cases y:hasB (h.up.take j) (nth h.up j)with
    |false=>rfl
    |true=>simp[y]at b
   refine aQ (fun _=> ?_) ?_
   ·simp only[eS,lB,I5,d];simp;omega
   refine cU l.length (fun i=>[.int .i64 i]) (fun i=>∀a,a<i->(!fG l k a||hasB (h.up.take j) (nth l a).name)=true) rfl (by omega) ?_;intro i L J _;simp only[cA];apply aj<;>intro m<;>simp only[eS,lB,d,qL u,lT]at m
   ·have m:i<l.length:=by simp at m;exact m
    refine aQ (fun _=> ?_) (aQ (fun _=> ?_) ?_)
    ·simp only[eS,lB,d,qL u,lT];simp;omega
    ·simp only[eS,bo,d,qZ];simp;omega
    apply aj<;>intro n<;>simp only[eS,lB,d,qL u,AZ m]at n
    ·have n:(!fG l k i||hasB (h.up.take j) (nth l i).name)=false:=by simpa using n
     have s:sJ l h.up j=false:=by unfold sJ;rw[f];show(!hasB (h.up.take j) (nth h.up j)&&eK (fun i=> !fG l k i||hasB (h.up.take j) (nth l i).name) l.length)=false;rw[qg (p:=fun i=> !fG l k i||hasB (h.up.take j) (nth l i).name) m n,Yo]
     exact ay (by simp[E.den,sL,qg c s])
    ·have n:(!fG l k i||hasB (h.up.take j) (nth l i).name)=true:=by cases y:fG l k i<;>simp[y]at n ⊢;exact n
     refine cJ m ?_ fun a z=> ?_
     ·simp only[eS];rw[bF];rfl
     ·rcases dO a i with q|q
      ·exact J a q
      ·obtain rfl:a=i:=by omega
       exact n
   ·obtain rfl:i=l.length:=by simp at m;omega
    have s:sJ l h.up j=true:=by unfold sJ;rw[f];simp only[b,Iz,qI];rw[kC];exact J
    refine aQ (fun _=> ?_) ?_
    ·simp only[eS,bo,d,qZ];simp;omega
    refine Bb c ?_ fun a z=> ?_
    ·simp only[eS,I6];rw[bF,show dJ l.length (fun a=>hasB (h.up.take (j+1)) (nth l a).name)=dJ l.length (fun a=>if a=k then true else hasB (h.up.take j) (nth l a).name)from tg fun a z=>by
      rw[Ky _ c,az5, <-v];by_cases e:a=k
      ·subst e;simp
      ·have:(nth l k).name≠(nth l a).name:=fun G=>e (wC x z u G.symm);simp[e,this]]
     rfl
    ·rcases dO a j with q|q
     ·exact I a q
     ·obtain rfl:a=j:=by omega
      exact s
 ·obtain rfl:j=h.up.length:=by simp at c;omega
  have:sL l h.up=true:=by unfold sL;rw[kC];exact I
  exact ay (by simp[E.den,this])
def amg{l:List Entry}(r:cG l=true)(done:List ByteArray){i:Nat}(q:i<l.length):GZ (gr l) (nth l i).name done=eK (fun k=> !fG l i k||hasB done (nth l k).name) l.length:=by
 rw[uX];unfold GZ;rw[kC,kC];constructor
 ·intro h c t;cases u:fG l i c with
  |false=>rfl
  |true=>
   obtain⟨x,v,d,f⟩:=(GG r).2 ⟨i,c,q,t,u,rfl,rfl⟩;obtain⟨k,b,rfl⟩:=AQ v;have e:nth (gr l) k=(gr l)[k]:=by simp[nth,kQ,b]
   have:=h k b;rw[e]at this;have j:(gr l)[k].j8=(nth l i).name:=d;have m:(gr l)[k].to=(nth l c).name:=f;rw[j,m]at this;simpa using this
 ·intro h k b;cases s:decide ((nth (gr l) k).j8=(nth l i).name)with
  |false=>rfl
  |true=> rw[dr]at s;obtain⟨a,c,d,f,y,z,A⟩:=(GG r).1 ⟨_,gF b,s,rfl⟩;have B:a=i:=wC r d q z;subst B;have n:(nth l c).name=(nth (gr l) k).to:=A;have:=h c f;rw[y]at this;rw[<-n];simpa using this
def axV(l:List Entry)(up:List ByteArray)(m:cG l=true)(u:up.length<=4294967296):aG az 88 none [ak l,ak up] (.bool (sL l up)) []:=by
 refine bZ aqB aJM ⟨mL l,kA up,trivial⟩ fun t=> ?_;unfold aqB;refine fD (FD l) (hty:=Ai _) ?_;refine cU up.length (fun j=>[ak (up.take j),.int .i64 j]) (fun j=>∀i,i<j->sJ l up i=true) rfl (by omega) ?_;intro j v I _;simp only[cA];apply aj<;>intro b<;>simp only[eS]at b
 ·have b:j<up.length:=by simp at b;exact b
  refine dK ?_;refine aH (qM l (nth up j)) ?_;refine aH (nE (up.take j) (nth up j)) ?_;refine aH (aha (gr l) (nth up j) (up.take j)) ?_;apply aj<;>intro c<;>simp only[eS]at c
  ·have d:sJ l up j=false:=by
    unfold sJ;cases h:pz l (nth up j)with
    |none=>rfl
    |some k=>
     obtain⟨e,n⟩:=JD h;have f:cN l (nth up j)=(k:Int):=by unfold cN;rw[h]
     have r:=amg m (up.take j) e;rw[n]at r;rw[f,r]at c;have s:decide ((k:Int)<0)=false:=by rw[qK];omega
     rw[s,QJ]at c;show(!hasB (up.take j) (nth up j)&&eK (fun i=> !fG l k i||hasB (up.take j) (nth l i).name) l.length)=false;revert c;cases hasB (up.take j) (nth up j)<;>cases eK (fun i=> !fG l k i||hasB (up.take j) (nth l i).name) l.length<;>simp
   exact ay (by simp[E.den,sL,qg b d])
  ·have d:sJ l up j=true:=by
    unfold sJ;cases h:pz l (nth up j)with
    |none=>
     have f:cN l (nth up j)= -1:=by unfold cN;rw[h]
     rw[f]at c;simp at c
    |some k=> obtain⟨e,n⟩:=JD h;have r:=amg m (up.take j) e;rw[n]at r;rw[r]at c;show(!hasB (up.take j) (nth up j)&&eK (fun i=> !fG l k i||hasB (up.take j) (nth l i).name) l.length)=true;revert c;cases hasB (up.take j) (nth up j)<;>cases eK (fun i=> !fG l k i||hasB (up.take j) (nth l i).name) l.length<;>simp
   refine aQ (fun _=> ?_) ?_
   ·simp[E.den];omega
   refine cJ b ?_ fun i x=> ?_
   ·simp only[eS,jr,fP];rw[bF,yN, <-Ky _ b];rfl
   ·rcases dO i j with q|q
    ·exact I i q
    ·obtain rfl:i=j:=by omega
     exact d
 ·obtain rfl:j=up.length:=by simp at b;omega
  have:sL l up=true:=by unfold sL;rw[kC];exact I
  exact ay (by simp[E.den,this])
def Eg(h:Host)(i:Nat):Bool:= !decide (cN h.entries (nth h.shut i)<0)&& !hasB h.up (nth h.shut i)
def partAt(h:Host)(i:Nat):Bool:=dw (nth h.parts i)&&decide (G4 (nth h.parts i)=(nth h.entries i).recipe)
def Ke(h:Host)(i:Nat):Bool:=xe (nth h.log i)
def tz(h:Host):Bool:=cG h.entries&&decide (h.parts.length=h.entries.length)&&decide (h.log.length<=24)&&yY h.shut&&eK (fun i=> !js h.entries i) h.entries.length&&eK (partAt h) h.entries.length &&
 eK (Eg h) h.shut.length&&eK (Ke h) h.log.length&&sL h.entries h.up
structure uS(h:Host):Prop where
 rz:cG h.entries=true
 len:h.parts.length=h.entries.length
 log:h.log.length<=24
 srt:∀i,i<h.shut.length->xN h.shut i=true
 stk:∀i,i<h.entries.length->js h.entries i=false
 nk:∀i,i<h.entries.length->partAt h i=true
 sht:∀i,i<h.shut.length->Eg h i=true
 lgs:∀i,i<h.log.length->Ke h i=true
 ze:sL h.entries h.up=true
def DC:tz h=true↔uS h:=by
 unfold tz yY;simp only[aY,dr,kC,qH];constructor
 ·rintro⟨⟨⟨⟨⟨⟨⟨⟨a,b⟩,c⟩,d⟩,e⟩,f⟩,g⟩,i⟩,j⟩;exact⟨a,b,c,d,e,f,g,i,j⟩
 ·rintro⟨a,b,c,d,e,f,g,i,j⟩;exact⟨⟨⟨⟨⟨⟨⟨⟨a,b⟩,c⟩,d⟩,e⟩,f⟩,g⟩,i⟩,j⟩
def aBe(n:¬uS h):tz h=false:=by
 cases b:tz h with
 |false=>rfl
 |true=>exact absurd (DC.1 b) n
def D0{tab:Nat->List CT}(n:¬uS h):(VC.ret (.lb false) []).den P tab env (fun d bs=>d=.bool (tz h)/\bs=[]) L :=
 ay (by rw[aBe n];rfl)
def ang{l:List Entry}(r:cG l=true):pP l=[]↔ ∀i,i<l.length->js l i=false:=by
 unfold pP;rw[aD r];constructor
 ·intro h i b;cases s:js l i with
  |false=>rfl
  |true=> have:(nth l i).name∈fj l (js l):=DP.2 ⟨i,b,s,rfl⟩;rw[h]at this;simp at this
 ·intro h;rw[<-alg l];exact yM h
def awT(h:Host)(v:h.entries.length<=1048576)(A:∀i,i<h.parts.length->(nth h.parts i).ai.length<=1048576):aG az 50 none [enc h] (.bool (tz h)) []:=by
 refine bZ aor aHF ⟨pT h,trivial⟩ fun t=> ?_;have x:=t.1;simp only[enc,Fits,bo,dC]at x;have B:h.shut.length<=9223372036854775807:=kF (show Fits (ak h.shut)from x.2.2.2.1);unfold aor;refine aH (agP h.entries) ?_;refine aH (axc h.shut) ?_;apply aj<;>intro d<;>simp only[eS,bo]at d
 ·refine D0 fun e=> ?_;have j:=e.rz;have m:=e.len;have M:=e.log;have F:yY h.shut=true:=by unfold yY;rw[kC];exact e.srt
  rw[j,F,m]at d;simp at d;omega
 have r:cG h.entries=true:=by cases q:cG h.entries<;>simp[q]at d ⊢
 have s:yY h.shut=true:=by cases q:yY h.shut<;>simp[q]at d ⊢
 rw[r,s]at d;have d:h.parts.length=h.entries.length/\h.log.length<=24:=by simp at d;exact⟨by omega,by omega⟩
 obtain⟨u,n⟩:=d;have N:=(qt r).1;refine fD (Zl h.entries v) (hty:=VU _) ?_;refine fD (axh h.entries v) (hty:=adm _ _) ?_;refine cU h.entries.length (fun i=>[.int .i64 i]) (fun i=>∀a,a<i->js h.entries a=false/\partAt h a=true) rfl (by omega) ?_;intro i O I _;simp only[cA];apply aj<;>intro f<;>simp only[eS,lT]at f
 ·have f:i<h.entries.length:=by simp at f;exact f
  refine aQ (fun _=> ?_) ?_
  ·simp only[eS,lT];simp;omega
  refine aQ (fun _=> ?_) ?_
  ·simp only[eS,bo];simp;omega
  refine aH (Zf (nth h.parts i)) ?_;refine aQ (fun _=> ?_) ?_
  ·simp only[eS,bo];simp;omega
  refine aH (.fZ (aw0 (nth h.parts i) (A i (by omega)))) ?_;refine aQ (fun _=> ?_) ?_
  ·simp only[eS,bo];simp;omega
  refine aH (axg (G4 (nth h.parts i)) (nth h.entries i).recipe) ?_;apply aj<;>intro b<;>simp only[eS,AZ f]at b
  ·refine D0 fun e=> ?_;have j:=e.stk i f;have m:=e.nk i f;unfold partAt at m;simp only[aY,dr]at m;simp[j,m]at b
  ·refine cJ f ?_ fun a k=> ?_
   ·simp only[eS];rw[bF];rfl
   ·rcases dO a i with c|c
    ·exact I a c
    ·obtain rfl:a=i:=by omega
     unfold partAt;simp at b ⊢;exact⟨b.1.1,b.1.2,b.2⟩
 ·obtain rfl:i=h.entries.length:=by simp at f;omega
  refine cU h.shut.length (fun i=>[.int .i64 i]) (fun i=>∀a,a<i->Eg h a=true) rfl (by omega) ?_;intro i G J _;simp only[cA];apply aj<;>intro b<;>simp only[eS,bo]at b
  ·have b:i<h.shut.length:=by simp at b;exact b
   refine aQ (fun _=> ?_) ?_
   ·simp only[eS,bo];simp;omega
   refine aH (MD h.entries (nth h.shut i)) ?_;refine aH (Zj h.up (nth h.shut i)) ?_;apply aj<;>intro c<;>simp only[eS]at c
   ·refine D0 fun e=> ?_;have j:=e.sht i b;unfold Eg at j;revert j c;cases decide (cN h.entries (nth h.shut i)<0)<;>cases hasB h.up (nth h.shut i)<;>simp
   ·refine cJ b ?_ fun a k=> ?_
    ·simp only[eS];rw[bF];rfl
    ·rcases dO a i with l|l
     ·exact J a l
     ·obtain rfl:a=i:=by omega
      unfold Eg;revert c;cases decide (cN h.entries (nth h.shut a)<0)<;>cases hasB h.up (nth h.shut a)<;>simp
  ·obtain rfl:i=h.shut.length:=by simp at b;omega
   refine cU h.log.length (fun i=>[.int .i64 i]) (fun i=>∀a,a<i->Ke h a=true) rfl (by omega) ?_;intro i H y _;simp only[cA];apply aj<;>intro c<;>simp only[eS,bo]at c
   ·have c:i<h.log.length:=by simp at c;exact c
    refine aQ (fun _=> ?_) ?_
    ·simp only[eS,bo];simp;omega
    refine aH (awS (nth h.log i)) ?_;apply aj<;>intro l<;>simp only[eS]at l
    ·refine D0 fun e=> ?_;have j:xe (nth h.log i)=true:=e.lgs i c;simp[j]at l
    ·refine cJ c ?_ fun a k=> ?_
     ·simp only[eS];rw[bF];rfl
     ·rcases dO a i with z|z
      ·exact y a z
      ·obtain rfl:a=i:=by omega
       unfold Ke;simpa using l
   ·obtain rfl:i=h.log.length:=by simp at c;omega
    refine aH (axi h r) ?_;refine ay ?_;simp only[eS];congr 1;rw[uX,DC];constructor
    ·intro L;exact⟨r,u,n,by unfold yY at s;rw[kC]at s;exact s,fun a k=>(I a k).1,fun a k=>(I a k).2,J,y,L⟩
    ·intro e;exact e.ze
def axr(h:Host)(T:h.entries.length<=1048576)(H:∀i,i<h.parts.length->(nth h.parts i).ai.length<=1048576)(v:h.up.length<=4294967296):aG az 55 none [enc h] (.bool (tz h)) []:=by
 refine bZ apl aIz ⟨pT h,trivial⟩ fun t=> ?_;have B:=t.1;simp only[enc,Fits,bo,dC]at B;have L:h.shut.length<=9223372036854775807:=kF (show Fits (ak h.shut)from B.2.2.2.1);unfold apl;refine aH (Jb h.entries) ?_;refine aH (.fZ (Sz h.entries)) ?_;refine wZ (r:=.bool (sL h.entries h.up)) (xs:=[ak h.entries,ak h.up]) ?_ (fun j=>axV h.entries h.up ?_ v) trivial ?_
 ·simp only[eS,bo]
 ·simp only[cO,fw,vf,yg,Fz,Db]at j;simp only[eS,bo]at j;cases q:cG h.entries with
  |true=>rfl
  |false=>simp[q]at j
 simp only[cA];apply aj<;>intro c<;>simp only[eS,bo]at c
 ·refine D0 fun e=> ?_;have m:=e.rz;have k:=e.len;have U:=e.log;have M:=e.ze;have N:=(ang e.rz).2 e.stk;rw[m,M,k,N]at c;simp at c;omega
 have s:cG h.entries=true:=by cases q:cG h.entries<;>simp[q]at c ⊢
 have u:sL h.entries h.up=true:=by cases q:sL h.entries h.up<;>simp[q]at c ⊢
 rw[s,u]at c;have c:(pP h.entries).length=0/\h.parts.length=h.entries.length/\h.log.length<=24:=by simp at c;obtain⟨⟨q1,q2⟩,q3⟩:=c;exact⟨by simp[q1],by omega,by omega⟩
 obtain⟨x,y,r⟩:=c;have z:=(ang s).1 (mM x);have V:=(qt s).1;refine cU h.parts.length (fun i=>[.int .i64 i]) (fun i=>∀a,a<i->partAt h a=true) rfl (by omega) ?_;intro i W I _;simp only[cA];apply aj<;>intro f<;>simp only[eS,bo]at f
 ·have f:i<h.parts.length:=by simp at f;exact f
  refine aQ (fun _=> ?_) ?_
  ·simp only[eS,bo];simp;omega
  refine aH (Zq (nth h.parts i)) ?_;refine aH (.fZ (axB (nth h.parts i) (H i (by omega)))) ?_;refine aQ (fun _=> ?_) ?_
  ·simp only[eS,bo];simp;omega
  refine aH (axL (G4 (nth h.parts i)) (nth h.entries i).recipe) ?_;apply aj<;>intro d<;>simp only[eS]at d
  ·refine D0 fun e=> ?_;have k:=e.nk i (by omega);unfold partAt at k;simp only[aY,dr]at k;simp[k]at d
  ·refine cJ f ?_ fun a l=> ?_
   ·simp only[eS];rw[bF];rfl
   ·rcases dO a i with b|b
    ·exact I a b
    ·obtain rfl:a=i:=by omega
     unfold partAt;simpa using d
 ·obtain rfl:i=h.parts.length:=by simp at f;omega
  refine cU h.shut.length (fun i=>[.int .i64 i]) (fun i=>∀a,a<i->Eg h a=true/\xN h.shut a=true) rfl (by omega) ?_;intro i O J _;simp only[cA];apply aj<;>intro d<;>simp only[eS,bo]at d
  ·have d:i<h.shut.length:=by simp at d;exact d
   refine aQ (fun _=> ?_) ?_
   ·simp only[eS,bo];simp;omega
   refine aH (qM h.entries (nth h.shut i)) ?_;refine aH (nE h.up (nth h.shut i)) ?_;refine aQ (fun j=> ?_) ?_
   ·simp only[cO,fw,vf,yg,Fz,Db]at j;simp only[eS]at j;simp only[eS,bo];have Q:0<i:=by have:=j.2;simp at this;omega
    rw[lS];simp;omega
   have A:(decide ((i:Int)>0)&& !du (nth h.shut ((dQ .sub .i64 (i:Int) 1).toNat)) (nth h.shut i))= !xN h.shut i:=by
    unfold xN;rcases ue i with rfl|Q
    ·simp
    ·rw[lS,show((i:Int)-1).toNat=i-1 by omega];have c:decide ((i:Int)>0)=true:=by rw[dr];omega
     have f:(i==0)=false:=by rw[YY];omega
     rw[c,f];simp
   apply aj<;>intro b<;>simp only[eS,bo,jr,fP,A]at b
   ·refine D0 fun e=> ?_;have m:=e.sht i d;have k:=e.srt i d;unfold Eg at m;rw[k]at b;revert m b;cases decide (cN h.entries (nth h.shut i)<0)<;>cases hasB h.up (nth h.shut i)<;>simp
   ·refine cJ d ?_ fun a l=> ?_
    ·simp only[eS];rw[bF];rfl
    ·rcases dO a i with n|n
     ·exact J a n
     ·obtain rfl:a=i:=by omega
      unfold Eg;revert b;cases decide (cN h.entries (nth h.shut a)<0)<;>cases hasB h.up (nth h.shut a)<;>cases xN h.shut a<;>simp
  ·obtain rfl:i=h.shut.length:=by simp at d;omega
   refine cU h.log.length (fun i=>[.int .i64 i]) (fun i=>∀a,a<i->Ke h a=true) rfl (by omega) ?_;intro i S F _;simp only[cA];apply aj<;>intro b<;>simp only[eS,bo]at b
   ·have b:i<h.log.length:=by simp at b;exact b
    refine aQ (fun _=> ?_) ?_
    ·simp only[eS,bo];simp;omega
    refine aH (axq (nth h.log i)) ?_;apply aj<;>intro n<;>simp only[eS]at n
    ·refine D0 fun e=> ?_;have m:xe (nth h.log i)=true:=e.lgs i b;simp[m]at n
    ·refine cJ b ?_ fun a l=> ?_
     ·simp only[eS];rw[bF];rfl
     ·rcases dO a i with G|G
      ·exact F a G
      ·obtain rfl:a=i:=by omega
       unfold Ke;simpa using n
   ·obtain rfl:i=h.log.length:=by simp at b;omega
    refine ay ?_;simp only[eS];have:tz h=true:=DC.2 ⟨s,y,r,fun a l=>(J a l).2,z,fun a l=>I a (by omega),fun a l=>(J a l).1,F,u⟩;rw[this]
end
section
open Go.RowKit Go
def mZ(p:Part)(m:ByteArray):Part:=if cm (fc p) 1 then(fX p (bL m)).1 else p
def cD(h:Host)(s:ByteArray):Nat:=(cN h.entries s).toNat
def Ch(h:Host)(s:ByteArray):Host:={h with parts:=h.parts.set (cD h s) (mZ (nth h.parts (cD h s)) mStart),up:=h.up++[s]}
def dc(h:Host)(down:List ByteArray):Nat->List Part×List ByteArray
 |0=>(h.parts,[])
 |j+1 =>
  let s:=nth h.up (h.up.length-1-j)
  if hasB down s then((dc h down j).1.set (cD h s) (mZ (nth (dc h down j).1 (cD h s)) dR),(dc h down j).2)else((dc h down j).1,s::(dc h down j).2)
def kD(h:Host)(s:ByteArray):Host :=
 let q:=dc h (jc (lL h.entries s) s) h.up.length
 {h with parts:=q.1,up:=q.2}
def gV(h:Host)(s:ByteArray):Bool:=tz h&& !decide (cN h.entries s<0)&&decide (h.log.length<24)
def jj(k:Int)(s:ByteArray):Event:=⟨k,s,nV,[]⟩
def qo(h:Host)(e:Event):Host:={h with log:=h.log++[e]}
def FA(h:Host)(s:ByteArray):List ByteArray:=jc (pO h.entries s) s
def sE(h:Host)(all:List ByteArray):Nat->Host
 |0=>h
 |k+1=>let s:=nth (wy h.entries) k
  if hasB all s&& !hasB (sE h all k).up s then Ch (sE h all k) s else sE h all k
def wE(h:Host)(s:ByteArray):Bool:=gV h s&& !hasB h.up s&&(FA h s).all fun x=> !hasB h.shut x
def Af(h:Host)(s:ByteArray):Host:=if wE h s then qo (sE h (FA h s) (wy h.entries).length) (jj 1 s)else h
def nj(h:Host)(s:ByteArray):Bool:=gV h s&&hasB h.up s
def ku(h:Host)(s:ByteArray):Host:=if nj h s then qo (kD h s) (jj 2 s)else h
def ox(h:Host)(s:ByteArray)(x:Call):Host×gK×Bool :=
 if gV h s=false\/gy x=false then(h,rep 7 0 0 0,false)
 else if hasB h.up s=false then(h,rep 2 0 0 0,false)
 else
  let q:=fX (nth h.parts (cD h s)) x
  if q.2.code=1 then(h,q.2,false)
  else
   let g:={h with parts:=h.parts.set (cD h s) q.1}
   let f:=if q.2.code=3 then {kD g s with shut:=jc h.shut s} else g
   (qo f ⟨3,s,x,[]⟩,q.2,true)
def uy(h:Host)(s:ByteArray):Host×gK :=
 if gV h s=false then(h,rep 7 0 0 0)
 else if hasB h.shut s=false then(h,rep 6 0 0 0)
 else
  let i:=cD h s
  let q:=fX (nth h.parts i) (bL jo)
  let p:=if q.2.code=0 then q.1 else(dX (nth h.entries i).recipe).1
  (qo {h with parts:=h.parts.set i (mZ p dR),shut:=h.shut.filter fun x=> !decide (x=s)} (jj 4 s),rep 0 (if q.2.code=0 then 1 else 0) 0 0)
def BV(h:Host)(s:ByteArray)(r:List ByteArray):List Entry:=h.entries.set (cD h s) {nth h.entries (cD h s)with recipe:=r}
def rE(h:Host)(s:ByteArray)(r:List ByteArray):Bool:=gV h s&&jq r&& !hasB h.shut s&&decide (gr (BV h s r)=gr h.entries)&&decide ((pP (BV h s r)).length=0)
def Kx(h:Host)(s:ByteArray)(r:List ByteArray):Part :=
 let i:=cD h s
 let p:=(dX r).1
 let p:=if cm (fg (nth (nth h.entries i).recipe 0)) 2&&cm (fg (nth r 0)) 2 then {p with core:={p.core with cells:=(nth h.parts i).core.cells}} else p
 if hasB h.up s then mZ p mStart else p
def rD(h:Host)(s:ByteArray)(r:List ByteArray):Host :=
 if rE h s r then qo {h with entries:=BV h s r,parts:=h.parts.set (cD h s) (Kx h s r)} ⟨5,s,nV,r⟩else h
def xD(h:Host)(e:Event):Host×Bool :=
 if e.kind=1 then(Af h e.name,wE h e.name)
 else if e.kind=2 then(ku h e.name,nj h e.name)
 else if e.kind=3 then((ox h e.name e.call).1,(ox h e.name e.call).2.2)
 else if e.kind=4 then((uy h e.name).1,decide ((uy h e.name).2.code=0))
 else(rD h e.name e.recipe,rE h e.name e.recipe)
end
variable {M:Addr->Prop}{l:List (ByteArray×Int)}{g:Nat}{S:Value}{a b w:World}
section
open Go.RowKit Go
variable [GC]
def GU(l:List Cell):List (ByteArray×Int):=l.map fun c=>(c.key,c.val)
def qp(l:List tW):List (ByteArray×Int):=l.map fun c=>(c.name,c.count)
def uK(x:ByteArray×Int):List D:=[.str x.1,.int .i64 x.2]
def alW(l:List Cell):(GU l).map uK=l.map aB.cells:=by simp[GU,uK,mz,QL]
def alY(l:List tW):(qp l).map uK=l.map aB.cells:=by simp[qp,uK,yn,QL]
def Kl(l:List tW):(qp l).length=l.length:=by simp[qp]
def aEk{b:Type}[Inhabited α][Inhabited b](f:α->b){l:List α}{k:Nat}(h:k<l.length):nth (l.map f) k=f (nth l k):=by simp[nth,kQ,h]
def alX{l:List tW}{k:Nat}(h:k<l.length):nth (qp l) k=((nth l k).name,(nth l k).count):=aEk _ h
def pOk(x:ByteArray×Int):Prop:=x.1.size<=maxLen/\IntKind.i64.min<=x.2/\x.2<=IntKind.i64.max
def lE(K:Nat->Prop)(w:World)(g:Nat)(S:Value)(l:List (ByteArray×Int)):Prop :=
 ∃a cap,S=.slice a l.length cap/\l.length<=cap/\cap<=maxLen/\(a=none->cap=0)/\(∀x∈l,pOk x) /\
  ∀b o s,a=some ⟨b,o,s⟩->0<cap->s=none/\K b/\b≠g/\∃cells T,w.heap[b]? =some (.cells cells T (0,0))/\o+cap*2<=cells.size /\
   ∀i,i<l.length->cells[o+i*2]? =some (.string (nth l i).1)/\cells[o+i*2+1]? =some (.int .i64 (nth l i).2)
def lE.keep{K K':Nat->Prop}{w':World}(h:lE K w g S l)(d:∀b,dS S b->w'.heap[b]? =w.heap[b]?)(f:∀b,K b->K' b):lE K' w' g S l:=by obtain⟨a,cap,rfl,i,j,k,m,n⟩:=h;refine⟨a,cap,rfl,i,j,k,m,fun b o s e c=> ?_⟩;obtain⟨q1,q2,q3,cells,T,q4,q5⟩:=n b o s e c;exact⟨q1,f _ q2,q3,cells,T,by rw[d b ⟨o,s,_,cap,by rw[e],c⟩];exact q4,q5⟩
def lE.out{K:Nat->Prop}(h:lE K w g S l){b:Nat}(hb:dS S b):K b/\b≠g/\b<w.heap.size:=by obtain⟨a,cap,rfl,i,j,k,m,d⟩:=h;obtain⟨o,s,len,c,e,f⟩:=hb;simp only[fA]at e;obtain⟨rfl,rfl,rfl⟩:=e;obtain⟨q1,q2,q3,cells,T,q4,q5⟩:=d b o s rfl f;exact⟨q2,q3,(rQ.1 q4).1⟩
def lE.at{K:Nat->Prop}(h:lE K w g S l){i:Nat}(c:i<l.length) :
  ∃b o cap,S=.slice (some ⟨b,o,none⟩) l.length cap/\K b/\b≠g/\dS S b/\w.cell? ⟨b,o+i*2,none⟩=some (.string (nth l i).1)/\w.cell? ⟨b,o+i*2+1,none⟩=some (.int .i64 (nth l i).2)/\(∀x y,w.frozen? ⟨b,x,y⟩=false)/\b<w.heap.size:=by
 have j:=h;obtain⟨a,cap,rfl,k,m,e,n,f⟩:=h;rcases a with _|⟨b,o,s⟩
 ·have:=e rfl;omega
 ·have d:0<cap:=by omega
  obtain⟨rfl,q2,q3,cells,T,q4,q5,q⟩:=f b o s rfl d;refine⟨b,o,cap,rfl,q2,q3,⟨o,none,_,cap,rfl,d⟩,?_,?_,fun x y=> ?_,(rQ.1 q4).1⟩
  ·simp only[World.cell?,q4];exact(q i c).1
  ·simp only[World.cell?,q4];exact(q i c).2
  ·unfold World.frozen?;rw[q4];simp
def lE.aDp{K:Nat->Prop}(h:lE K w g S l):∃a cap,S=.slice a l.length cap/\l.length<=cap/\cap<=maxLen:=by obtain⟨a,cap,rfl,b,c,_⟩:=h;exact⟨a,cap,rfl,b,c⟩
def lE.put{K:Nat->Prop}{b o cap:Nat}{s:Option Nat}(h:lE K w g (.slice (some ⟨b,o,s⟩) l.length cap) l){i:Nat}(d:i<l.length){v:Int}(n:IntKind.i64.min<=v/\v<=IntKind.i64.max) :
  lE K (w.setCell ⟨b,o+i*2+1,none⟩ (.int .i64 v)) g (.slice (some ⟨b,o,s⟩) l.length cap) (l.set i ((nth l i).1,v)):=by
 obtain⟨a,f,e,q,r,F,k,u⟩:=h;cases e;refine⟨_,cap,by rw[vc],by rw[vc];exact q,r,(fun e=>by cases e),fun x c=> ?_,fun G H I e y=> ?_⟩
 ·rcases sY c with c|rfl
  ·exact k x c
  ·exact⟨(k _ (gF d)).1,n⟩
 ·cases e;obtain⟨q1,q2,q3,cells,T,q4,q5,A⟩:=u b o s rfl y;refine⟨q1,q2,q3,cells.setIfInBounds (o+i*2+1) (.int .i64 v),T,?_,by simpa using q5,fun j m=> ?_⟩
  ·unfold World.setCell;simp[Iy,q4]
  ·rw[vc]at m;obtain⟨B,z⟩:=A j m;rw[U0 _ _ _ _ d];constructor
   ·rw[Yk (by omega),B];split
    ·rename_i e;rw[e]
    ·rfl
   ·by_cases e:j=i
    ·subst e;have t:=(rQ.1 z).1;rw[aD rfl,Array.getElem?_setIfInBounds_self_of_lt t]
    ·rw[aw e,Yk (by omega),z]
def afV{K:Nat->Prop}{B:Nat}(d:R w M (.sl (l.map uK)) S)(y:Qz B w S 2)(z:∀b,B<=b->b<w.heap.size->K b)(hg:∀b,B<=b->b<w.heap.size->b≠g):lE K w g S l:=by
 have j:=d;have n:∀r∈l.map uK,r.length=2:=fun r d=>by obtain⟨x,_,rfl⟩:=fN.1 d;rfl
 obtain⟨a,len,cap,rfl,m,A,F,G,W⟩:=d;rw[dq]at m;subst m;refine⟨a,cap,rfl,A,F,G,fun x H=> ?_,fun b o s e I=> ?_⟩
 ·have J:=LO _ _ j;have:∀(c:List (List D)),Ij c->∀r∈c,dC r:=by
   intro c;induction c with
   |nil=>intro _ r d;cases d
   |cons a t ih=>intro h r d;rcases fw.1 d with rfl|d;exact h.1;exact ih h.2 r d
  have:=this _ J.2 _ (fN.2 ⟨x,H,rfl⟩);exact⟨this.1,this.2.1.1,this.2.1.2⟩
 ·subst e;obtain⟨q1,q2,cells,T,q3,q4⟩:=y b o s _ cap rfl I;have k:=(rQ.1 q3).1;refine⟨q1,z b q2 k,hg b q2 k,cells,T,q3,q4,fun i q=> ?_⟩;have f:(l.map uK)[i]? =some (uK (nth l i)):=by rw[iq,bX q];simp[nth,q]
  obtain⟨L,u,_,N⟩:=JE n j f (j:=0) rfl;obtain⟨O,v,_,Q⟩:=JE n j f (j:=1) rfl;simp only[World.cell?,q3]at u v;have U:L=_:=N.1;have V:O=_:=Q.1;subst U V;exact⟨by simpa using u,by simpa using v⟩
def lE.rd{K:Nat->Prop}(h:lE K w g S l)(n:∀b o cap i,S=.slice (some ⟨b,o,none⟩) l.length cap->K b->i<l.length*2->¬M ⟨b,o+i,none⟩):R w M (.sl (l.map uK)) S:=by
 have A:∀r∈l.map uK,r.length=2:=fun r k=>by obtain⟨x,_,rfl⟩:=fN.1 k;rfl
 obtain⟨a,cap,rfl,q,t,u,B,v⟩:=h;rcases a with _|⟨b,o,s⟩
 ·have:l=[]:=mM (by have:=u rfl;omega);subst this;exact⟨none,_,cap,rfl,rfl,q,t,u,fun b o s e=>by cases e⟩
 ·refine JF A (by simp) q t (fun F=>(v b o s rfl (by omega)).1) fun i j r d m f=> ?_;have c:i<l.length:=by have:=(db.1 m).1;simpa using this
  obtain⟨rfl,q2,q3,cells,T,q4,q5,y⟩:=v b o s rfl (by omega);have z:=B _ (gF c);have k:r=uK (nth l i):=by rw[iq,bX c]at m;cases m;simp[nth,c]
  subst k
  match j,f with
  |0,f=>cases f;exact⟨_,by simp only[World.cell?,q4];exact(y i c).1,n b o cap (i*2) rfl q2 (by omega),rfl,z.1⟩
  |1,f=>cases f;exact⟨_,by simp only[World.cell?,q4];exact(y i c).2,by have:=n b o cap (i*2+1) rfl q2 (by omega);rwa[<-wV]at this,rfl,z.2⟩
def aaU{q:Addr}{v:Value}{b:Nat}(h:b≠q.block):(w.setCell q v).heap[b]? =w.heap[b]? :=by unfold World.setCell;simp only[Iy];rw[aw (fun e=>h e.symm)]
section
structure PB(K:Nat->Prop)(w:World)(g:Nat)(S2:Value)(p:Part):Prop where
 gi:qa w/\NG<=w.heap.size
 kb:∀b,K b->NG<=b/\b<w.heap.size
 kg:K g
 bx:∃S1,aA w g 51 #[.string p.core.kind,.bool p.core.on,.bool p.core.broken,S1,.int .i64 p.core.count,S2]/\lE K w g S1 (GU p.core.cells)/\∀b,dS S1 b->¬dS S2 b
 ly:lE K w g S2 (qp p.ai)
 ks:p.core.kind.size<=maxLen
 ct:IntKind.i64.min<=p.core.count/\p.core.count<=IntKind.i64.max
structure dD(K:Nat->Prop)(w w':World):Prop where
 os:w'.os=w.os
 tape:w'.tape=w.tape
 output:w'.output=w.output
 size:w.heap.size<=w'.heap.size
 block:∀b,b<w.heap.size->¬K b->w'.heap[b]? =w.heap[b]?
def dD.refl(K:Nat->Prop)(w:World):dD K w w:=⟨rfl,rfl,rfl,bK _,fun _ _ _=>rfl⟩
def dD.OT{K:Nat->Prop}{c:World}(h:dD K a b)(k:dD K b c):dD K a c :=
 ⟨k.os.trans h.os,k.tape.trans h.tape,k.output.trans h.output,dV h.size k.size,fun i d n=>(k.block i (ek d h.size) n).trans (h.block i d n)⟩
def dD.below{K:Nat->Prop}(h:Below a.heap.size a b):dD K a b:=⟨h.os,h.tape,h.output,h.size,fun i c _=>h.block i c⟩
def dD.Ek{K:Nat->Prop}{B:Nat}(h:dD K a b)(c:B<=a.heap.size)(d:∀b,K b->B<=b):Below B a b:=⟨h.os,h.tape,h.output,h.size,fun i e=>h.block i (ek e c) fun k=>by have:=d i k;omega⟩
section
variable {K K':Nat->Prop}{w w':World}{g:Nat}{S2:Value}{p:Part}
def PB.glt(h:PB K w g S2 p):g<w.heap.size:=(h.kb _ h.kg).2
def giK(h:qa w/\NG<=w.heap.size){q:Addr}{v:Value}(b:NG<=q.block):qa (w.setCell q v)/\NG<=(w.setCell q v).heap.size:=by refine⟨h.1.keep fun k c=> ?_,by simpa using h.2⟩;exact aaU (by omega)
end
end
end
section
open Go.RowKit
section
variable {P:Program}{o:Oper}{a:Act}{C:World->Prop}{K:Act->Prop}
end
end
end Go.Proofs.YtoomhbopolalnaaGreatDoor
