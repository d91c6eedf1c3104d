/- Contracts: a text put into ascending ones, links, who misses, what is reached by links: the reference's side. -/
import Derived.Test.YtoomhbopolalnabGreatDoorT16
import Derived.Deep.DeepCutAuto
set_option linter.all false
set_option maxRecDepth 100000
namespace Go.Proofs.YtoomhbopolalnabGreatDoor
variable {n nm t:ByteArray}{Q:D->List D->Prop}{h:Host}{L:List (List D->Prop)}{next:List ByteArray}{env:List D}{ls:List il}{d j:Nat}{P:Program}{α:Type}
section
open Go.RowKit Go
variable [GC]
abbrev kA(l:List ByteArray)(s:ByteArray):List ByteArray:=xG dz l s
def aER(l:List ByteArray)(s t:ByteArray):D.sl ((l.map aB.cells++[[.str s]])++[[.str t]])=aj (l++[s]++[t]):=by simp[aj,eO]
def Fz(l:List ByteArray)(s:ByteArray)(j:l.length<=1048576):dJ az 26 none [aj l,.str s] (aj (kA l s)) [] [(0,1)]:=by
 refine gh aqL aJH ⟨jW l,trivial,trivial⟩ fun t=> ?_;unfold aqL;refine cQ l.length (fun k=>[.bool (gA dz l s k).2,aj (gA dz l s k).1,.int .i64 k]) (fun _=>True) rfl trivial ?_;intro k m _ _;simp only[cA];have e:=adh (lt:=dz) l s k;have f:(gA dz l s k).1.length<=1048577:=by split at e<;>omega
 apply ai<;>intro b<;>simp only[eS]at b
 ·have b:k<l.length:=by simp at b;exact b
  have n:l.getD k default=nth l k:=rfl;refine eu ?_;apply ai<;>intro h<;>simp only[eS,gZ,eO]at h
  ·have h:(gA dz l s k).2=false/\dz (nth l k) s=false:=by simpa using h
   apply ai<;>intro c<;>simp only[eS,gZ,eO]at c
   ·have c:¬nth l k=s:=by simpa using c
    refine aM (fun _=> ?_) (aM (fun _=> ?_) ?_)
    ·simp[E.den];omega
    ·simp[E.den];omega
    refine cK b ?_ trivial;simp only[eS,gZ,eO];rw[bC,aER];simp only[gA,h.1,n,h.2,c,yc,vz];rfl
   ·have c:nth l k=s:=by simpa using c
    refine aM (fun _=> ?_) ?_
    ·simp[E.den];omega
    refine cK b ?_ trivial;simp only[eS,gZ,eO];rw[bC,xB];have d:=h.2;rw[c]at d;simp only[gA,h.1,n,c,d,yc,vz,ue];rfl
  ·refine aM (fun _=> ?_) ?_
   ·simp[E.den];omega
   refine cK b ?_ trivial;simp only[eS,gZ,eO];rw[bC,xB];cases i:(gA dz l s k).2 with
   |true=> simp only[gA,i,n,ue];rfl
   |false=>
    have d:dz (nth l k) s=true:=by rw[i]at h;simpa using h
    simp only[gA,i,n,d,yc,vz,ue];rfl
 ·obtain rfl:k=l.length:=by simp at b;omega
  apply ai<;>intro h<;>simp only[eS]at h
  ·have h:(gA dz l s l.length).2=false:=by simpa using h
   refine aM (fun _=> ?_) (ay ?_)
   ·simp[E.den];omega
   ·simp only[eS];rw[xB];unfold kA xG;rw[h];rfl
  ·have h:(gA dz l s l.length).2=true:=by simpa using h
   refine ay ?_;simp only[eS];unfold kA xG;rw[h];rfl
def Fw(l:List Entry):dJ az 62 none [aj l] (aj (gq l)) [] [(0,3)]:=by
 refine gh aqj aJh ⟨mh l,trivial⟩ fun t=> ?_;unfold aqj;refine aF (I4 l) ?_;apply ai<;>intro h<;>simp only[eS]at h
 ·have:cm l=false:=by simpa using h
  exact ay (by simp[E.den,gq,this,aj])
 have r:cm l=true:=by simpa using h
 have u:=(qG r).1;refine cQ l.length (fun i=>[aj (yM l i),.int .i64 i]) (fun _=>True) rfl trivial ?_;intro i v _ _;simp only[cA];apply ai<;>intro b<;>simp only[eS]at b
 ·have b:i<l.length:=by simp at b;exact b
  have n:=O7 r b;refine eu ?_;refine cQ (nth l i).needs.length (fun j=>[aj (yM l i++su l i j),.int .i64 j]) (fun _=>True) ?_ trivial ?_
  ·simp only[eS];simp[su]
  intro j s _ _;simp only[cA];have f:=aD7 r b j s;apply ai<;>intro d<;>simp only[eS,oZ,ja]at d
  ·have d:j<(nth l i).needs.length:=by simp at d;exact d
   refine eu ?_;refine aF (ahJ l (nth l i).name (nth (nth l i).needs j)) ?_;cases e:sC l i j with
   |none=>
    rw[amQ e];apply ai<;>intro k
    ·simp only[eS]at k;simp[cL]at k
    refine cK d ?_ trivial;simp only[eS];rw[bC,aD8 e];rfl
   |some c=>
    rw[amR e];have m:=OZ e;apply ai<;>intro k
    ·refine aM (fun _=> ?_) ?_
     ·simp[E.den];simp at f;omega
     refine cK d ?_ trivial;simp only[eS,oZ,ja,V4,zJ];rw[bC,aD9 e, <-iY, <-aD6 _ _ []];rfl
    ·simp only[eS]at k;have:=anc r m;unfold cL at this;simp[this]at k
  ·obtain rfl:j=(nth l i).needs.length:=by simp at d;omega
   refine yq b ?_ trivial;simp only[eS];rw[bC,alK];rfl
 ·obtain rfl:i=l.length:=by simp at b;omega
  exact ay (by simp[E.den,gq,r])
def Ka(l:List Entry)(p:Nat->Bool):(fA l p).length<=l.length:=acQ l p l.length
def ahI(l:List Entry):dJ az 63 none [aj l] (aj (Gz l)) [] [(0,1)]:=by
 refine gh aqm aJk ⟨mh l,trivial⟩ fun t=> ?_;unfold aqm;refine aF (I4 l) ?_;apply ai<;>intro h<;>simp only[eS]at h
 ·have:cm l=false:=by simpa using h
  exact ay (by simp[E.den,Gz,this,aj])
 have r:cm l=true:=by simpa using h
 have x:=(qG r).1;refine cQ l.length (fun i=>[aj (fA l (mF l i)),.int .i64 i]) (fun _=>True) ?_ trivial ?_
 ·simp only[eS];rw[show fA l (mF l 0)=[] by rw[<-al1 l];exact yN fun a _=>by simp[mF]];rfl
 intro i y _ _;simp only[cA];apply ai<;>intro b<;>simp only[eS]at b
 ·have b:i<l.length:=by simp at b;exact b
  have s:=O7 r b;refine eu ?_;refine cQ (nth l i).needs.length (fun j=>[aj (fA l (mG l i j)),.int .i64 j]) (fun _=>True) ?_ trivial ?_
  ·simp only[eS];rw[show fA l (mG l i 0)=fA l (mF l i)from yN fun a _=>by
    unfold mF mG;by_cases e:a=i
    ·subst e;simp[BV,nL]
    ·by_cases f:a<i<;>simp[e,f]]
   rfl
  intro j z _ _;simp only[cA];apply ai<;>intro d<;>simp only[eS,oZ,ja]at d
  ·have d:j<(nth l i).needs.length:=by simp at d;exact d
   refine eu ?_;refine aF (ahJ l (nth l i).name (nth (nth l i).needs j)) ?_;have u:=Ka l (mG l i j);cases k:sC l i j with
   |none=>
    rw[amQ k];apply ai<;>intro m
    ·refine dU (Fz (fA l (mG l i j)) (nth l i).name (by omega)) ?_;refine cK d ?_ trivial;simp only[eS];rw[bC];show [aj (xG dz (fA l (mG l i j)) (nth l i).name),_]=_;rw[al2 r b,show fA l (mG l i (j+1))=fA l (fun a=>mG l i j a||decide (a=i))from yN fun a _=>by
      unfold mG;by_cases e:a=i
      ·subst e;simp[BV,nL,k]
      ·by_cases f:a<i<;>simp[e,f]]
     rfl
    ·simp only[eS]at m;simp[cL]at m
   |some c=>
    rw[amR k];have n:=OZ k;apply ai<;>intro m
    ·simp only[eS]at m;have:=anc r n;unfold cL at this;simp[this]at m
    ·refine cK d ?_ trivial;simp only[eS];rw[bC,show fA l (mG l i (j+1))=fA l (mG l i j)from yN fun a _=>by
      unfold mG;by_cases e:a=i
      ·subst e;simp[BV,nL,k]
      ·simp[e]]
     rfl
  ·obtain rfl:j=(nth l i).needs.length:=by simp at d;omega
   refine yq b ?_ trivial;simp only[eS];rw[bC,show fA l (mG l i (nth l i).needs.length)=fA l (mF l (i+1))from yN fun a _=>by
    unfold mF mG;by_cases e:a=i
    ·subst e;simp[jU]
    ·have:a<i+1↔a<i:=by omega
     by_cases f:a<i<;>simp[e,f,this]]
   rfl
 ·obtain rfl:i=l.length:=by simp at b;omega
  refine ay ?_;simp only[eS];unfold Gz;rw[aC r,yN fun a v=>show mF l l.length a=jU l a by simp[mF,v]]
def OJ{α:Type}[DecidableEq α]:∀{a b:List α},a.Nodup->(∀x∈a,x∈b)->a.length<=b.length
 |[],b,_,_=>by simp
 |x::a,b,h,s=>by
  have hx:x∈b:=s x (by simp);rw[Rn]at h;have:=OJ (a:=a) (b:=b.erase x) h.2 fun y c=>by have n:y≠x:=fun e=>h.1 (e▸c);exact(List.mem_erase_of_ne n).2 (s y (by simp[c]))
  rw[List.length_erase_of_mem hx]at this;have d:0<b.length:=List.length_pos_of_mem hx;simp only[dR];omega
def af9{back:Bool}{a b:ByteArray}(h:lR (Edge ls back) a b):b∈ls.map fun x=>ig x back:=by
 have key:∀{a b},Edge ls back a b->b∈ls.map fun x=>ig x back:=by rintro a b ⟨x,c,_,rfl⟩;exact fJ.2 ⟨x,c,rfl⟩
 cases h with
 |edge e=>exact key e
 |snoc _ e=>exact key e
structure WI(ls:List il)(back:Bool)(nm:ByteArray)(seen next:List ByteArray):Prop where
 yj:ml dz seen
 way:∀x∈seen,lR (Edge ls back) nm x
 GJ:∀x∈next,x=nm\/x∈seen
 zK:∀z,(z=nm\/z∈seen)->z∈next\/∀y,Edge ls back z y->y∈seen
 few:next.length<=seen.length+1
def WI.len{back:Bool}{seen:List ByteArray}(h:WI ls back n seen next):seen.length<=ls.length:=by have:=OJ (SZ Cd h.yj) (b:=ls.map fun x=>ig x back) fun x b=>af9 (h.way x b);simpa using this
def WI.done{back:Bool}{seen:List ByteArray}(h:WI ls back n seen [])(x:ByteArray):x∈seen↔lR (Edge ls back) n x:=by
 refine⟨h.way x,fun c=> ?_⟩;induction c with
 |edge e=>
  rcases h.zK _ (.inl rfl)with b|b
  ·simp at b
  ·exact b _ e
 |snoc _ e ih=>
  rcases h.zK _ (.inr ih)with b|b
  ·simp at b
  ·exact b _ e
structure WJ(ls:List il)(back:Bool)(nm t:ByteArray)(d:Nat)(seen next:List ByteArray)(j:Nat):Prop where
 yj:ml dz seen
 way:∀x∈seen,lR (Edge ls back) nm x
 GJ:∀x∈next,x=nm\/x∈seen
 zK:∀z,(z=nm\/z∈seen)->z∈next\/(z=t/\∀i,i<j->xz (nth ls i) back=t->ig (nth ls i) back∈seen)\/∀y,Edge ls back z y->y∈seen
 few:next.length<=seen.length
 src:t=nm\/lR (Edge ls back) nm t
 cnt:(ls.length-seen.length)+next.length<=d
 le:j<=ls.length
def WJ.len{back:Bool}{seen:List ByteArray}(h:WJ ls back n t d seen next j):seen.length<=ls.length:=by have:=OJ (SZ Cd h.yj) (b:=ls.map fun x=>ig x back) fun x b=>af9 (h.way x b);simpa using this
def WI.start{back:Bool}{seen:List ByteArray}(h:WI ls back nm seen (t::next)):WJ ls back nm t (ls.length-seen.length+next.length) seen next 0 where
 yj:=h.yj
 way:=h.way
 GJ:=fun x hx=>h.GJ x (by simp[hx])
 zK:=fun z hz=>by
  rcases h.zK z hz with h1|h1
  ·rcases fI.1 h1 with rfl|h1
   ·exact .inr (.inl ⟨rfl,fun i hi=>absurd hi (by omega)⟩)
   ·exact .inl h1
  ·exact .inr (.inr h1)
 few:=by have:=h.few;simp only[dR]at this;omega
 src:=(h.GJ t (by simp)).imp id (h.way t)
 cnt:=bM _
 le:=fW _
def WJ.skip{back:Bool}{seen:List ByteArray}(h:WJ ls back nm t d seen next j)(hj:j<ls.length)(hs:xz (nth ls j) back=t->ig (nth ls j) back∈seen):WJ ls back nm t d seen next (j+1) :=
 {h with
  le:=hj
  zK:=fun z hz=>by
   rcases h.zK z hz with h1|⟨rfl,h1⟩|h1
   ·exact .inl h1
   ·refine .inr (.inl ⟨rfl,fun i hi=> ?_⟩);rcases dP i j with h2|h2
    ·exact h1 i h2
    ·obtain rfl:i=j:=by omega
     exact hs
   ·exact .inr (.inr h1)}
def WJ.add{back:Bool}{seen:List ByteArray}(h:WJ ls back n t d seen next j)(G:j<ls.length)(H:xz (nth ls j) back=t)(I:ig (nth ls j) back∉seen) :
  WJ ls back n t d (kA seen (ig (nth ls j) back)) (next++[ig (nth ls j) back]) (j+1):=by
 have u:Edge ls back t (ig (nth ls j) back):=⟨nth ls j,gK G,H,rfl⟩;have v:lR (Edge ls back) n (ig (nth ls j) back):=by
  rcases h.src with e|v
  ·rw[e]at u;exact .edge u
  ·exact .snoc v u
 generalize J:ig (nth ls j) back=s at *;have A:(kA seen s).length=seen.length+1:=by
  have f:=amU (lt:=dz) seen s;have r:=OJ (a:=s::seen) (b:=kA seen s) (Rn.2 ⟨I,SZ Cd h.yj⟩) fun x b=>by
   rw[yS];rcases fI.1 b with rfl|b
   ·exact .inr rfl
   ·exact .inl b
  simp only[dR]at r;have f:(kA seen s).length<=seen.length+1:=f;omega
 have k:ml dz (kA seen s):=amT Cd h.yj s;have l:∀x∈kA seen s,lR (Edge ls back) n x:=fun x b=>by
  rcases (yS _ _ _).1 b with b|rfl
  ·exact h.way x b
  ·exact v
 have B:(kA seen s).length<=ls.length:=by have:=OJ (SZ Cd k) (b:=ls.map fun x=>ig x back) fun x b=>af9 (l x b);simpa using this
 refine⟨k,l,fun x b=> ?_,fun z c=> ?_,?_,h.src,?_,G⟩
 ·rw[yS];rcases iJ.1 b with b|b
  ·exact(h.GJ x b).imp id .inl
  ·simp at b;exact .inr (.inr b)
 ·have m:(z=n\/z∈seen)\/z=s:=by
   rcases c with c|c
   ·exact .inl (.inl c)
   ·rcases (yS _ _ _).1 c with c|c
    ·exact .inl (.inr c)
    ·exact .inr c
  rcases m with m|rfl
  ·rcases h.zK z m with f|⟨rfl,f⟩|f
   ·exact .inl (by simp[f])
   ·refine .inr (.inl ⟨rfl,fun i M F=> ?_⟩);rw[yS];rcases dP i j with r|r
    ·exact .inl (f i r F)
    ·obtain rfl:i=j:=by omega
     exact .inr J
   ·exact .inr (.inr fun y L=>(yS _ _ _).2 (.inl (f y L)))
  ·exact .inl (by simp)
 ·have:=h.few;rw[iZ,A];simp;omega
 ·have:=h.cnt;rw[iZ,A];rw[A]at B;simp only[dR,oD];omega
def WJ.done{back:Bool}{seen:List ByteArray}(h:WJ ls back nm t d seen next ls.length):WI ls back nm seen next where
 yj:=h.yj
 way:=h.way
 GJ:=h.GJ
 zK:=fun z hz=>by
  rcases h.zK z hz with h1|⟨rfl,h1⟩|h1
  ·exact .inl h1
  ·refine .inr ?_;rintro y ⟨x,hx,h2,rfl⟩;obtain⟨i,hi,rfl⟩:=tX hx;have e:nth ls i=ls[i]:=by simp[nth,jZ,hi]
   have:=h1 i hi (by rw[e];exact h2)
   rwa[e]at this
  ·exact .inr h1
 few:=by have:=h.few;omega
structure y9 where
 seen:List ByteArray
 next:List ByteArray
structure AA where
 seen:List ByteArray
 next:List ByteArray
 j:Nat
def ah7(s:ByteArray)(l:List ByteArray):qn (aj (s::l)) 1 (((s::l).length:Nat):Int)=aj l:=by simp[qn,aj];exact A7 (by simp)
def Jc{tab:Nat->List CT}{c:E}{a b:VC}
  (h:(c.den env).kG=true) (ha:a.den P tab env Q L):(VC.ite c a b).den P tab env Q L:=⟨fun _=>ha,fun q=>by rw[h]at q;cases q⟩
def MW{tab:Nat->List CT}{c:E}{a b:VC}
  (h:(c.den env).kG=false) (hb:b.den P tab env Q L):(VC.ite c a b).den P tab env Q L:=⟨fun q=>by rw[h]at q;exact Bool.noConfusion q,fun _=>hb⟩
def Z2(ls:List il)(m:ByteArray)(S:List ByteArray)(A:ml dz S)(v:∀x,x∈S↔lR (Edge ls false) m x)(Q:ls.length<=1000):dJ az 61 none [aj ls,.str m,.bool false] (aj S) [] [(0,1)]:=by
 refine gh WG aoY ⟨Ap ls,trivial,trivial,trivial⟩ fun u=> ?_;unfold WG;refine qo y9 (fun s=>[aj s.seen,aj s.next]) (fun s=>WI ls false m s.seen s.next) (fun s=>(ls.length-s.seen.length)+s.next.length) ⟨[],[m]⟩ (fun s y h=> ?_) ?_ ?_ ?_
 ·simp only[A6]at h;have z:=congrArg cG h.1;have b:=congrArg cG h.2.1;rw[th,th]at z b;omega
 ·simp only[eS];simp[aj,eO]
 ·exact⟨IY,by simp,by simp,by simp,by simp⟩
 rintro⟨seen,next⟩ I _;simp only at I;simp only[cA];have B:=I.len;have i:=I.few;apply ai<;>intro b<;>simp only[eS]at b
 ·have b:0<next.length:=by simp at b;exact b
  obtain⟨t,next,rfl⟩:∃t r,next=t::r:=by
   cases next with
   |nil=>simp at b
   |cons t r=>exact⟨t,r,rfl⟩
  simp only[dR]at i;refine aM (fun _=> ?_) (aM (fun _=> ?_) ?_)
  ·simp only[eS];simp;(try omega)
  ·simp only[eS];simp;(try omega)
  have F:nth (t::next) 0=t:=rfl;refine qo AA (fun s=>[aj s.seen,aj s.next,.int .i64 s.j]) (fun s=>WJ ls false m t (ls.length-seen.length+next.length) s.seen s.next s.j) (fun s=>ls.length-s.j) ⟨seen,next,0⟩ (fun s y h=> ?_) ?_ I.start ?_
  ·simp at h;omega
  ·simp only[eS];rw[ah7];rfl
  rintro⟨n,nx,j⟩ J _;simp only at J;simp only[cA];have G:=J.len;have H:=J.few;have L:=J.le;apply ai<;>intro c<;>simp only[eS]at c
  ·have c:j<ls.length:=by simp at c;exact c
   refine eu ?_;refine MW rfl ?_;refine aF (nM n (ig (nth ls j) false)) ?_ (ha:=by(simp only[gS,xK,vA,ig];try exact rfl));apply ai<;>intro d<;>simp only[eS,xK,vA,gZ,eO,Int.toNat_zero,F]at d
   ·have d:xz (nth ls j) false=t/\hasB n (ig (nth ls j) false)=false:=by simpa[xz]using d
    have k:ig (nth ls j) false∉n:=fun M=>by
     have:hasB n (ig (nth ls j) false)=true:=by unfold hasB;rw[uW];exact⟨_,M,by simp⟩
     rw[this]at d;simp at d
    refine dU (Fz n (ig (nth ls j) false) (by omega)) ?_ (ha:=by(simp only[gS,xK,vA,ig];try exact rfl));refine aM (fun _=> ?_) ?_
    ·simp[E.den];omega
    refine Jb ⟨kA n (ig (nth ls j) false),nx++[ig (nth ls j) false],j+1⟩ ?_ (J.add c d.1 k) (by simp only;omega);simp only[eS,xK,vA];rw[bC,xB];rfl
   ·refine Jb ⟨n,nx,j+1⟩ ?_ (J.skip c fun N=> ?_) (by simp only;omega)
    ·simp only[eS];rw[bC];rfl
    ·have l:hasB n (ig (nth ls j) false)=true:=by have f:=N;simp only[xz,yc,vz,ue]at f;simpa[f]using d
     unfold hasB at l;rw[uW]at l;obtain⟨x,O,e⟩:=l;rw[du]at e;rw[<-e];exact O
  ·obtain rfl:j=ls.length:=by simp at c;omega
   refine⟨⟨n,nx⟩,rfl,J.done,?_⟩;have:=J.cnt;simp only[dR];omega
 ·obtain rfl:next=[]:=by cases next<;>simp at b ⊢
  refine ay ?_;simp only[eS];rw[SY Cd I.yj A fun x=>(I.done x).trans (v x).symm]
def ayG(ls:List il)(m:ByteArray)(S:List ByteArray)(A:ml dz S)(v:∀x,x∈S↔lR (Edge ls true) m x)(Q:ls.length<=1000):dJ az 61 none [aj ls,.str m,.bool true] (aj S) [] [(0,1)]:=by
 refine gh WG aoY ⟨Ap ls,trivial,trivial,trivial⟩ fun u=> ?_;unfold WG;refine qo y9 (fun s=>[aj s.seen,aj s.next]) (fun s=>WI ls true m s.seen s.next) (fun s=>(ls.length-s.seen.length)+s.next.length) ⟨[],[m]⟩ (fun s y h=> ?_) ?_ ?_ ?_
 ·simp only[A6]at h;have z:=congrArg cG h.1;have b:=congrArg cG h.2.1;rw[th,th]at z b;omega
 ·simp only[eS];simp[aj,eO]
 ·exact⟨IY,by simp,by simp,by simp,by simp⟩
 rintro⟨seen,next⟩ I _;simp only at I;simp only[cA];have B:=I.len;have i:=I.few;apply ai<;>intro b<;>simp only[eS]at b
 ·have b:0<next.length:=by simp at b;exact b
  obtain⟨t,next,rfl⟩:∃t r,next=t::r:=by
   cases next with
   |nil=>simp at b
   |cons t r=>exact⟨t,r,rfl⟩
  simp only[dR]at i;refine aM (fun _=> ?_) (aM (fun _=> ?_) ?_)
  ·simp only[eS];simp;(try omega)
  ·simp only[eS];simp;(try omega)
  have F:nth (t::next) 0=t:=rfl;refine qo AA (fun s=>[aj s.seen,aj s.next,.int .i64 s.j]) (fun s=>WJ ls true m t (ls.length-seen.length+next.length) s.seen s.next s.j) (fun s=>ls.length-s.j) ⟨seen,next,0⟩ (fun s y h=> ?_) ?_ I.start ?_
  ·simp at h;omega
  ·simp only[eS];rw[ah7];rfl
  rintro⟨n,nx,j⟩ J _;simp only at J;simp only[cA];have G:=J.len;have H:=J.few;have L:=J.le;apply ai<;>intro c<;>simp only[eS]at c
  ·have c:j<ls.length:=by simp at c;exact c
   refine eu ?_;refine Jc rfl ?_;refine aF (nM n (ig (nth ls j) true)) ?_ (ha:=by(simp only[gS,xK,vA,ig];try exact rfl));apply ai<;>intro d<;>simp only[eS,xK,vA,gZ,eO,Int.toNat_zero,F]at d
   ·have d:xz (nth ls j) true=t/\hasB n (ig (nth ls j) true)=false:=by simpa[xz]using d
    have k:ig (nth ls j) true∉n:=fun M=>by
     have:hasB n (ig (nth ls j) true)=true:=by unfold hasB;rw[uW];exact⟨_,M,by simp⟩
     rw[this]at d;simp at d
    refine dU (Fz n (ig (nth ls j) true) (by omega)) ?_ (ha:=by(simp only[gS,xK,vA,ig];try exact rfl));refine aM (fun _=> ?_) ?_
    ·simp[E.den];omega
    refine Jb ⟨kA n (ig (nth ls j) true),nx++[ig (nth ls j) true],j+1⟩ ?_ (J.add c d.1 k) (by simp only;omega);simp only[eS,xK,vA];rw[bC,xB];rfl
   ·refine Jb ⟨n,nx,j+1⟩ ?_ (J.skip c fun N=> ?_) (by simp only;omega)
    ·simp only[eS];rw[bC];rfl
    ·have l:hasB n (ig (nth ls j) true)=true:=by have f:=N;simp only[xz,yc,vz,ue]at f;simpa[f]using d
     unfold hasB at l;rw[uW]at l;obtain⟨x,O,e⟩:=l;rw[du]at e;rw[<-e];exact O
  ·obtain rfl:j=ls.length:=by simp at c;omega
   refine⟨⟨n,nx⟩,rfl,J.done,?_⟩;have:=J.cnt;simp only[dR];omega
 ·obtain rfl:next=[]:=by cases next<;>simp at b ⊢
  refine ay ?_;simp only[eS];rw[SY Cd I.yj A fun x=>(I.done x).trans (v x).symm]
def ayq(l:List Entry)(s:ByteArray):dJ az 27 none [aj l,.str s] (aj (mg l s)) [] [(0,1)]:=by refine gh aqv aJs ⟨mh l,trivial,trivial⟩ fun h=> ?_;unfold aqv;have:=acK l;refine dU (Fw l) (hty:=Ap _) ?_;refine dU (Z2 (gq l) s _ (Kj l s).1 (Kj l s).2 (by omega)) ?_;exact ay rfl
def ayk(l:List Entry)(s:ByteArray):dJ az 168 none [aj l,.str s] (aj (rz l s)) [] [(0,1)]:=by refine gh aqn aJl ⟨mh l,trivial,trivial⟩ fun h=> ?_;unfold aqn;have:=acK l;refine dU (Fw l) (hty:=Ap _) ?_;refine dU (ayG (gq l) s _ (al6 l s).1 (al6 l s).2 (by omega)) ?_;exact ay rfl
def yw{l:List ByteArray}{s:ByteArray}:hasB l s=true↔s∈l:=by
 unfold hasB;rw[uW];constructor
 ·rintro⟨x,b,e⟩;rw[du]at e;rw[<-e];exact b
 ·intro h;exact⟨s,h,by simp⟩
def O5{l:List Entry}(h:cm l=true){i:Nat}(b:i<l.length):mg l (nth l i).name=fA l (dM l i):=by unfold mg;rw[aC h,aiT h b]
def uj(l:List Entry)(i a:Nat):Bool:=jU l a||(decide (a<i)&&dM l a a)
def axn{l:List Entry}(r:cm l=true){p q:Nat->Bool}:(fA l p).any (hasB (fA l q))=nL (fun j=>p j&&q j) l.length:=by
 rw[wQ,uW,IW];constructor
 ·rintro⟨x,d,c⟩;obtain⟨j,h,b,rfl⟩:=BW.1 d;rw[GA r h]at c;exact⟨j,h,by rw[b,c];rfl⟩
 ·rintro⟨j,h,b⟩;rw[aX]at b;exact⟨_,BW.2 ⟨j,h,b.1,rfl⟩,by rw[GA r h];exact b.2⟩
def axo{l:List ByteArray}{p:ByteArray->Bool}{k:Nat}(h:k<l.length):(l.take (k+1)).any p=((l.take k).any p||p (nth l k)):=by rw[Ku l h,List.any_append];simp
def Tq(l:List Entry):dJ az 68 none [aj l] (aj (pU l)) [] [(0,1)]:=by
 refine gh aqB aJx ⟨mh l,trivial⟩ fun u=> ?_;unfold aqB;refine aF (I4 l) ?_;apply ai<;>intro h<;>simp only[eS]at h
 ·have:cm l=false:=by simpa using h
  exact ay (by simp[E.den,pU,this,aj])
 have r:cm l=true:=by simpa using h
 have z:=(qG r).1;have v:=acK l;refine dU (Fw l) (hty:=Ap _) ?_;refine dU (ahI l) ?_;refine cQ l.length (fun i=>[aj (fA l (uj l i)),.int .i64 i]) (fun _=>True) ?_ trivial ?_
 ·simp only[eS];unfold Gz;rw[aC r,yN fun a _=>show uj l 0 a=jU l a by simp[uj]];rfl
 intro i x _ _;simp only[cA];apply ai<;>intro c<;>simp only[eS]at c
 ·have c:i<l.length:=by simp at c;exact c
  have f:=Ka l (uj l i);refine eu ?_;refine dU (Z2 (gq l) (nth l i).name _ (Kj l _).1 (Kj l _).2 (by omega)) ?_;refine aF (nM (mg l (nth l i).name) (nth l i).name) ?_;rw[O5 r c,GA r c];apply ai<;>intro b<;>simp only[eS]at b
  ·refine dU (Fz (fA l (uj l i)) (nth l i).name (by omega)) ?_;refine cK c ?_ trivial;simp only[eS];rw[bC];show [aj (xG dz (fA l (uj l i)) (nth l i).name),_]=_;rw[al2 r c,yN fun a _=>show(uj l i a||decide (a=i))=uj l (i+1) a by
    unfold uj;by_cases e:a=i
    ·subst e;simp[b]
    ·have:a<i+1↔a<i:=by omega
     simp[e,this]]
   rfl
  ·refine cK c ?_ trivial;simp only[eS];rw[bC,yN fun a _=>show uj l i a=uj l (i+1) a by
    unfold uj;by_cases e:a=i
    ·subst e;simp[b]
    ·have:a<i+1↔a<i:=by omega
     simp[this]]
   rfl
 ·obtain rfl:i=l.length:=by simp at c;omega
  have k:fA l (uj l l.length)=fA l (lI l):=yN fun a y=>by simp[uj,lI,y]
  rw[k];refine cQ l.length (fun i=>[aj (uE l (jt l) i),.int .i64 i]) (fun _=>True) rfl trivial ?_;intro i x _ _;simp only[cA];have f:=acQ l (jt l) i;apply ai<;>intro b<;>simp only[eS]at b
  ·have b:i<l.length:=by simp at b;exact b
   refine eu ?_;refine aF (nM (fA l (lI l)) (nth l i).name) ?_;refine dU (Z2 (gq l) (nth l i).name _ (Kj l _).1 (Kj l _).2 (by omega)) ?_;rw[O5 r b,GA r b];have m:=Ka l (dM l i);have n:=axn r (p:=dM l i) (q:=lI l);generalize A:fA l (dM l i)=R at n m;refine cQ R.length (fun j=>[.bool (lI l i||(R.take j).any (hasB (fA l (lI l)))),.int .i64 j]) (fun _=>True) ?_ trivial ?_
   ·simp only[eS];simp
   intro j B _ _;simp only[cA];apply ai<;>intro d<;>simp only[eS]at d
   ·have d:j<R.length:=by simp at d;exact d
    refine eu ?_;refine aF (nM (fA l (lI l)) (nth R j)) ?_;refine cK d ?_ trivial;simp only[eS];rw[bC,axo d, <-Bool.or_assoc];rfl
   ·obtain rfl:j=R.length:=by simp at d;omega
    rw[uY,n];have s:(lI l i||nL (fun j=>dM l i j&&lI l j) l.length)=jt l i:=rfl;rw[s];apply ai<;>intro t<;>simp only[eS]at t
    ·refine aM (fun _=> ?_) ?_
     ·simp[E.den];omega
     refine yq b ?_ trivial;simp only[eS,oZ,ja];rw[bC,Vz,aC t,xB];rfl
    ·refine yq b ?_ trivial;simp only[eS];rw[bC,Vz,aw (by simp[t])];rfl
  ·obtain rfl:i=l.length:=by simp at b;omega
   refine ay ?_;simp only[eS];unfold pU;rw[aC r];rfl
def GW(ls:List il)(n:ByteArray)(done:List ByteArray):Bool:=dW (fun k=> !decide ((nth ls k).ko=n)||hasB done (nth ls k).to) ls.length
def ahP(ls:List il)(n:ByteArray)(done:List ByteArray):aH az 65 none [aj ls,.str n,aj done] (.bool (GW ls n done)) []:=by
 refine cu ari aKc ⟨Ap ls,trivial,jW done,trivial⟩ fun f=> ?_;have l:ls.length<=9223372036854775807:=kS f.1;unfold ari;refine cQ ls.length (fun k=>[.int .i64 k]) (fun k=>dW (fun k=> !decide ((nth ls k).ko=n)||hasB done (nth ls k).to) k=true) rfl rfl ?_;intro k d I _;simp only[cA];apply ai<;>intro h<;>simp only[eS]at h
 ·have h:k<ls.length:=by simp at h;exact h
  refine eu ?_;refine aF (nM done (nth ls k).to) ?_;apply ai<;>intro c<;>simp only[eS,xK,vA]at c
  ·have b:(!decide ((nth ls k).ko=n)||hasB done (nth ls k).to)=false:=by grind
   refine ay ?_;simp only[eS];unfold GW;rw[qm h b]
  ·have b:(!decide ((nth ls k).ko=n)||hasB done (nth ls k).to)=true:=by grind
   refine cK h ?_ ?_
   ·simp only[eS];rw[bC];rfl
   ·show(dW _ k&&_)=true;rw[I];exact b
 ·obtain rfl:k=ls.length:=by simp at h;omega
  refine ay ?_;simp only[eS];unfold GW;rw[I]
def acT{l:List Entry}(r:cm l=true){o:List Nat}(ho:∀x∈o,x<l.length){i:Nat}(b:i<l.length):hasB (qC l o) (nth l i).name=o.contains i:=by
 rw[wQ,yw,YZ,du];unfold qC;rw[fJ];constructor
 ·rintro⟨j,c,d⟩
  rwa[<-uH r (ho j c) b d]
 ·intro h;exact⟨i,h,rfl⟩
def aFQ{l:List Entry}(r:cm l=true){o:List Nat}(ho:∀x∈o,x<l.length){i:Nat}(n:i<l.length):GW (gq l) (nth l i).name (qC l o)=dW (fun k=> !fB l i k||o.contains k) l.length:=by
 rw[wQ];unfold GW;rw[jC,jC];have B:∀c,c<l.length->(fB l i c=true↔Edge (gq l) false (nth l i).name (nth l c).name):=fun c f=>by
  rw[Gy r];constructor
  ·intro h;exact⟨i,c,n,f,h,rfl,rfl⟩
  ·rintro⟨a,b,j,d,s,t,u⟩;rw[<-uH r j n t, <-uH r d f u];exact s
 constructor
 ·intro h c f;cases F:fB l i c with
  |false=>rfl
  |true=>
   obtain⟨x,G,j,d⟩:=(B c f).1 F;obtain⟨k,m,rfl⟩:=tX G;have e:nth (gq l) k=(gq l)[k]:=by simp[nth,jZ,m]
   have:=h k m;rw[e]at this;have v:(gq l)[k].ko=(nth l i).name:=j;have y:(gq l)[k].to=(nth l c).name:=d;rw[v,y,acT r ho f]at this;simpa using this
 ·intro h k m;cases A:decide ((nth (gq l) k).ko=(nth l i).name)with
  |false=>rfl
  |true=> rw[du]at A;obtain⟨a,c,j,d,s,t,u⟩:=(Gy r).1 ⟨_,gK m,A,rfl⟩;have H:a=i:=uH r j n t;subst H;have z:(nth l c).name=(nth (gq l) k).to:=u;have:=h c d;rw[s]at this;rw[<-z,acT r ho d];simpa using this
structure aw9 where
 o:List Nat
 m:Bool
def ayu(l:List Entry):dJ az 28 none [aj l] (aj (bR l)) [] [(0,1)]:=by
 refine gh aqA aJw ⟨mh l,trivial⟩ fun G=> ?_;unfold aqA;refine dU (Fw l) (hty:=Ap _) ?_;refine dU (ahI l) ?_;refine aF (I4 l) ?_;refine qo aw9 (fun s=>[aj (qC l s.o),.bool s.m]) (fun s=>s.o=gz l s.o.length/\(s.m=true->cm l=true)/\(s.m=false->cm l=true->eA (js l s.o) l.length=none)/\(cm l=false->s.o=[])) (fun s=>if s.m then l.length+1-s.o.length else 0) ⟨[],cm l⟩ (fun s H h=> ?_) rfl ⟨rfl,id,fun d b=>by simp[b]at d,fun _=>rfl⟩ ?_
 ·simp only[A6]at h;have d:=congrArg cG h.1;rw[th,th,v7,v7]at d;have b:s.m=H.m:=by simpa using h.2.1
  rw[b,show s.o.length=H.o.length by omega]
 rintro⟨o,m⟩ ⟨I,u,v,e⟩ _;simp only at I u v e;simp only[cA];apply ai<;>intro h<;>simp only[eS]at h
 ·have r:=u h;have N:=(qG r).1;have z:=Ke l o.length;rw[<-I]at z;have J:∀x∈o,x<l.length:=fun x M=>yQ (k:=o.length) (by rw[<-I];exact M);refine cQ l.length (fun i=>[aj (qC l (match eA (js l o) i with|some j=>o++[j]|none=>o)),.bool (eA (js l o) i).isSome,.int .i64 i]) (fun _=>True) rfl trivial ?_;intro i O _ _;simp only[cA];apply ai<;>intro b<;>simp only[eS]at b
  ·have b:i<l.length:=by simp at b;exact b
   refine eu ?_;generalize c:(match eA (js l o) i with|some j=>o++[j]|none=>o)=A;refine aF (nM (qC l A) (nth l i).name) ?_;refine aF (nM (Gz l) (nth l i).name) ?_;refine aF (ahP (gq l) (nth l i).name (qC l A)) ?_;have B:hasB (Gz l) (nth l i).name=jU l i:=by unfold Gz;rw[aC r,GA r b]
   rw[B];cases f:eA (js l o) i with
   |some j=>
    rw[f]at c;have t:eA (js l o) (i+1)=some j:=by rw[eA,f]
    apply ai<;>intro n
    ·simp only[eS]at n;simp at n
    ·refine cK b ?_ trivial;simp only[eS];rw[bC,t, <-c];rfl
   |none=>
    rw[f]at c;have y:o=A:=c;subst y;rw[acT r J b,aFQ r J b];have F:(!o.contains i&& !jU l i&&dW (fun k=> !fB l i k||o.contains k) l.length)=js l o i:=rfl;apply ai<;>intro n<;>simp only[eS,Ze,C8,oC,F]at n
    ·have t:eA (js l o) (i+1)=some i:=by rw[eA,f];simp[n]
     refine aM (fun _=> ?_) ?_
     ·simp[E.den,v7];omega
     refine cK b ?_ trivial;simp only[eS,oZ,ja];rw[bC,t,xB];simp only[ama];rfl
    ·have t:eA (js l o) (i+1)=none:=by rw[eA,f];simp[n]
     refine cK b ?_ trivial;simp only[eS];rw[bC,t];rfl
  ·obtain rfl:i=l.length:=by simp at b;omega
   cases f:eA (js l o) l.length with
   |none=> refine⟨⟨o,false⟩,rfl,⟨I,fun h=>(by cases h),fun _ _=>f,e⟩,?_⟩;simp only[h,ue,yc,vz];omega
   |some j=>
    have L:o.length<l.length:=by have d:=Ke l (o.length+1);simp only[gz]at d;rw[<-I,f]at d;simp at d;omega
    refine⟨⟨o++[j],true⟩,rfl,⟨?_,fun _=>r,fun h=>(by cases h),fun h=>by rw[r]at h;cases h⟩,?_⟩
    ·show o++[j]=gz l (o++[j]).length;rw[iZ];show o++[j]=gz l (o.length+1);simp only[gz];rw[<-I,f]
    ·simp only[h,ue,iZ,dR,oD];omega
 ·refine ay ?_;simp only[eS];unfold bR;cases r:cm l with
  |false=> rw[e r];rfl
  |true=> have:=amv (l:=l) (k:=o.length) (by rw[<-I];exact v h r);rw[aC rfl, <-this, <-I]
def al3[Inhabited α]{l b:List α}{k:Nat}(h:nth l k≠nth b k):l≠b:=fun e=>h (by rw[e])
def al4{l b:List α}(h:l.length≠b.length):l≠b:=fun e=>h (by rw[e])
def ax8(l b:List ByteArray):aH az 86 none [aj l,aj b] (.bool (decide (l=b))) []:=by
 refine cu apO aIM ⟨jW l,jW b,trivial⟩ fun f=> ?_;have j:l.length<=9223372036854775807:=kS f.1;unfold apO;apply ai<;>intro h<;>simp only[eS]at h
 ·have h:l.length≠b.length:=by grind
  exact ay (by simp[E.den,al4 h])
 have h:l.length=b.length:=by grind
 refine cQ l.length (fun k=>[.int .i64 k]) (fun k=>∀i,i<k->nth l i=nth b i) rfl (by omega) ?_;intro k m I _;simp only[cA];apply ai<;>intro d<;>simp only[eS]at d
 ·have d:k<l.length:=by simp at d;exact d
  refine eu ?_;refine eu ?_;apply ai<;>intro c<;>simp only[eS,gZ,eO]at c
  ·have c:nth l k≠nth b k:=by simpa using c
   exact ay (by simp[E.den,al3 c])
  ·have c:nth l k=nth b k:=by simpa using c
   refine cK d ?_ fun i n=> ?_
   ·simp only[eS];rw[bC];rfl
   ·rcases dP i k with e|e
    ·exact I i e
    ·obtain rfl:i=k:=by omega
     exact c
 ·obtain rfl:k=l.length:=by simp at d;omega
  exact ay (by simp[E.den,Ua h I])
def ayB(l b:List ByteArray):aH az 100 none [aj l,aj b] (.bool (decide (l=b))) []:=by
 refine cu aqM aJI ⟨jW l,jW b,trivial⟩ fun f=> ?_;have j:l.length<=9223372036854775807:=kS f.1;unfold aqM;apply ai<;>intro h<;>simp only[eS]at h
 ·have h:l.length≠b.length:=by grind
  exact ay (by simp[E.den,al4 h])
 have h:l.length=b.length:=by grind
 refine cQ l.length (fun k=>[.int .i64 k]) (fun k=>∀i,i<k->nth l i=nth b i) rfl (by omega) ?_;intro k m I _;simp only[cA];apply ai<;>intro d<;>simp only[eS]at d
 ·have d:k<l.length:=by simp at d;exact d
  refine eu ?_;refine eu ?_;apply ai<;>intro c<;>simp only[eS,gZ,eO]at c
  ·have c:nth l k≠nth b k:=by simpa using c
   exact ay (by simp[E.den,al3 c])
  ·have c:nth l k=nth b k:=by simpa using c
   refine cK d ?_ fun i n=> ?_
   ·simp only[eS];rw[bC];rfl
   ·rcases dP i k with e|e
    ·exact I i e
    ·obtain rfl:i=k:=by omega
     exact c
 ·obtain rfl:k=l.length:=by simp at d;omega
  exact ay (by simp[E.den,Ua h I])
def yZ(p:Part)(k:Nat):List ByteArray:=p.core.kind::(p.ak.take k).map (·.name)
def GX(p:Part):List ByteArray:=p.core.kind::p.ak.map (·.name)
def ana(p:Part){k:Nat}(h:k<p.ak.length):yZ p (k+1)=yZ p k++[(nth p.ak k).name]:=by unfold yZ;rw[Ku _ h,zC];rfl
def am9(p:Part)(k:Nat):(yZ p k).length<=k+1:=by unfold yZ;simp;omega
def am8(p:Part):yZ p p.ak.length=GX p:=by unfold yZ GX;rw[uY]
def axV(p:Part)(h:p.ak.length<=1048576):dJ az 87 none [enc p] (aj (GX p)) [] [(0,1)]:=by
 refine gh apw aIt ⟨kH p,trivial⟩ fun f=> ?_;unfold apw;refine cQ p.ak.length (fun k=>[aj (yZ p k),.int .i64 k]) (fun _=>True) ?_ trivial ?_
 ·simp only[eS,jN];simp[yZ,aj,eO]
 intro k c _ _;simp only[cA];have l:=am9 p k;apply ai<;>intro b<;>simp only[eS,jN]at b
 ·have b:k<p.ak.length:=by simp at b;exact b
  refine eu ?_;refine aM (fun _=> ?_) ?_
  ·simp[E.den];omega
  refine cK b ?_ trivial;simp only[eS,jN,G4,zI];rw[bC,xB, <-ana p b];rfl
 ·obtain rfl:k=p.ak.length:=by simp at b;omega
  exact ay (by rw[<-am8];rfl)
def ayr(p:Part)(h:p.ak.length<=1048576):dJ az 101 none [enc p] (aj (GX p)) [] [(0,1)]:=by
 refine gh aqx aJu ⟨kH p,trivial⟩ fun f=> ?_;unfold aqx;refine cQ p.ak.length (fun k=>[aj (yZ p k),.int .i64 k]) (fun _=>True) ?_ trivial ?_
 ·simp only[eS,jN];simp[yZ,aj,eO]
 intro k c _ _;simp only[cA];have l:=am9 p k;apply ai<;>intro b<;>simp only[eS,jN]at b
 ·have b:k<p.ak.length:=by simp at b;exact b
  refine eu ?_;refine aM (fun _=> ?_) ?_
  ·simp[E.den];omega
  refine cK b ?_ trivial;simp only[eS,jN,G4,zI];rw[bC,xB, <-ana p b];rfl
 ·obtain rfl:k=p.ak.length:=by simp at b;omega
  exact ay (by rw[<-am8];rfl)
def xQ(l:List ByteArray)(k:Nat):Bool:=k==0||dz (nth l (k-1)) (nth l k)
def zf(l:List ByteArray):Bool:=dW (xQ l) l.length
def ax4(l:List ByteArray):aH az 83 none [aj l] (.bool (zf l)) []:=by
 refine cu apK aII ⟨jW l,trivial⟩ fun f=> ?_;have r:l.length<=9223372036854775807:=kS f.1;unfold apK;have n:∀i,i<=0->i<l.length->xQ l i=true:=fun i c _=>by
  obtain rfl:i=0:=by omega
  rfl
 refine cQ (l.length-1) (fun k=>[.int .i64 ((k+1:Nat):Int)]) (fun k=>∀i,i<=k->i<l.length->xQ l i=true) rfl n ?_;intro k s I _;simp only[cA];apply ai<;>intro b<;>simp only[eS]at b
 ·have b:k+1<l.length:=by simp at b;omega
  have m:dL .sub .i64 ((k+1:Nat):Int) 1=(k:Int):=by rw[mz];omega
  refine aM (fun _=> ?_) (aM (fun _=> ?_) ?_)
  ·simp only[eS,m];simp;omega
  ·simp only[eS];simp;omega
  apply ai<;>intro d<;>simp only[eS,gZ,eO,m]at d
  ·have e:xQ l (k+1)=false:=by unfold xQ;simpa using d
   exact ay (by simp[E.den,zf,qm b e])
  ·have e:xQ l (k+1)=true:=by unfold xQ;simpa using d
   refine cK (by omega) ?_ fun i c j=> ?_
   ·simp only[eS];rw[bC];rfl
   ·rcases dP k i with h|h
    ·obtain rfl:i=k+1:=by omega
     exact e
    ·exact I i h j
 ·have b:¬k+1<l.length:=by simp at b;omega
  refine ay ?_;have:zf l=true:=by unfold zf;rw[jC];exact fun i c=>I i (by omega) c
  simp[E.den,this]
def sL(l:List Entry)(up:List ByteArray)(j:Nat):Bool:=match pK l (nth up j)with
 |none=>false
 |some k=> !hasB (up.take j) (nth up j)&&dW (fun i=> !fB l k i||hasB (up.take j) (nth l i).name) l.length
def sM(l:List Entry)(up:List ByteArray):Bool:=dW (sL l up) up.length
def aAN(l:List ByteArray)(s t:ByteArray):hasB (l++[t]) s=(hasB l s||decide (t=s)):=by unfold hasB;rw[List.any_append];simp
def aya(h:Host)(y:cm h.entries=true):aH az 89 none [enc h,jx h.entries] (.bool (sM h.entries h.up)) []:=by
 refine cu apP aIN ⟨mN h,Px _,trivial⟩ fun u=> ?_;have B:=u.1;simp only[enc,Fits,aZ,dI]at B;have F:h.up.length<=9223372036854775807:=kS (show Fits (aj h.up)from B.2.2.1);have r:=(qG y).1;unfold apP;refine aM (fun _=> ?_) ?_
 ·simp only[eS,aZ];simp;omega
 generalize d:h.entries=l at y r;refine cQ h.up.length (fun j=>[.int .i64 j,da l.length (fun a=>hasB (h.up.take j) (nth l a).name)]) (fun j=>∀i,i<j->sL l h.up i=true) ?_ (by omega) ?_
 ·simp only[eS,aZ,d,eF];simp only[gR,jA,qQ,eF,Ph];rfl
 intro j L I _;simp only[cA];apply ai<;>intro c<;>simp only[eS,aZ]at c
 ·have c:j<h.up.length:=by simp at c;exact c
  refine eu ?_;refine aF (MK l (nth h.up j)) ?_ (ha:=by(simp only[gS,aZ,d,gZ,eO];try exact rfl));cases f:pK l (nth h.up j)with
  |none=>
   have s:cV l (nth h.up j)= -1:=by unfold cV;rw[f]
   have t:sL l h.up j=false:=by unfold sL;rw[f]
   rw[s];refine aM (fun G=> ?_) ?_
   ·simp[cP,E.den,bg]at G
   refine ai (fun _=> ?_) (fun b=> ?_)
   ·exact ay (by simp[E.den,sM,qm c t])
   ·simp[E.den,bg]at b
  |some k=>
   obtain⟨v,x⟩:=Jv f;have s:cV l (nth h.up j)=(k:Int):=by unfold cV;rw[f]
   rw[s];refine aM (fun _=> ?_) ?_
   ·simp only[eS,aZ,d,oU];simp;omega
   apply ai<;>intro b<;>simp only[eS,yl v,x]at b
   ·have b:hasB (h.up.take j) (nth h.up j)=true:=by
     simp at b;rcases b with b|b
     ·omega
     ·exact b
    have t:sL l h.up j=false:=by unfold sL;rw[f];simp[b]
    exact ay (by simp[E.den,sM,qm c t])
   have b:hasB (h.up.take j) (nth h.up j)=false:=by
    cases z:hasB (h.up.take j) (nth h.up j)with
    |false=>rfl
    |true=>simp[z]at b
   refine aM (fun _=> ?_) ?_
   ·simp only[eS,jx,Fs,d];simp;omega
   refine cQ l.length (fun i=>[.int .i64 i]) (fun i=>∀a,a<i->(!fB l k a||hasB (h.up.take j) (nth l a).name)=true) rfl (by omega) ?_;intro i M J _;simp only[cA];apply ai<;>intro m<;>simp only[eS,jx,d,pG v,kQ]at m
   ·have m:i<l.length:=by simp at m;exact m
    refine aM (fun _=> ?_) (aM (fun _=> ?_) ?_)
    ·simp only[eS,jx,d,pG v,kQ];simp;omega
    ·simp only[eS,aZ,d,oU];simp;omega
    apply ai<;>intro n<;>simp only[eS,jx,d,pG v,yl m]at n
    ·have n:(!fB l k i||hasB (h.up.take j) (nth l i).name)=false:=by simpa using n
     have t:sL l h.up j=false:=by unfold sL;rw[f];show(!hasB (h.up.take j) (nth h.up j)&&dW (fun i=> !fB l k i||hasB (h.up.take j) (nth l i).name) l.length)=false;rw[qm (p:=fun i=> !fB l k i||hasB (h.up.take j) (nth l i).name) m n,YT]
     exact ay (by simp[E.den,sM,qm c t])
    ·have n:(!fB l k i||hasB (h.up.take j) (nth l i).name)=true:=by cases z:fB l k i<;>simp[z]at n ⊢;exact n
     refine cK m ?_ fun a A=> ?_
     ·simp only[eS];rw[bC];rfl
     ·rcases dP a i with r|r
      ·exact J a r
      ·obtain rfl:a=i:=by omega
       exact n
   ·obtain rfl:i=l.length:=by simp at m;omega
    have t:sL l h.up j=true:=by unfold sL;rw[f];simp only[b,C8,oC];rw[jC];exact J
    refine aM (fun _=> ?_) ?_
    ·simp only[eS,aZ,d,oU];simp;omega
    refine yq c ?_ fun a A=> ?_
    ·simp only[eS,Ft];rw[bC,show da l.length (fun a=>hasB (h.up.take (j+1)) (nth l a).name)=da l.length (fun a=>if a=k then true else hasB (h.up.take j) (nth l a).name)from rV fun a A=>by
      rw[Ku _ c,aAN, <-x];by_cases e:a=k
      ·subst e;simp
      ·have:(nth l k).name≠(nth l a).name:=fun H=>e (uH y A v H.symm);simp[e,this]]
     rfl
    ·rcases dP a j with r|r
     ·exact I a r
     ·obtain rfl:a=j:=by omega
      exact t
 ·obtain rfl:j=h.up.length:=by simp at c;omega
  have:sM l h.up=true:=by unfold sM;rw[jC];exact I
  exact ay (by simp[E.den,this])
def am6{l:List Entry}(r:cm l=true)(done:List ByteArray){i:Nat}(s:i<l.length):GW (gq l) (nth l i).name done=dW (fun k=> !fB l i k||hasB done (nth l k).name) l.length:=by
 rw[wQ];unfold GW;rw[jC,jC];constructor
 ·intro h c u;cases v:fB l i c with
  |false=>rfl
  |true=>
   obtain⟨x,y,d,f⟩:=(Gy r).2 ⟨i,c,s,u,v,rfl,rfl⟩;obtain⟨k,b,rfl⟩:=tX y;have e:nth (gq l) k=(gq l)[k]:=by simp[nth,jZ,b]
   have:=h k b;rw[e]at this;have j:(gq l)[k].ko=(nth l i).name:=d;have m:(gq l)[k].to=(nth l c).name:=f;rw[j,m]at this;simpa using this
 ·intro h k b;cases t:decide ((nth (gq l) k).ko=(nth l i).name)with
  |false=>rfl
  |true=> rw[du]at t;obtain⟨a,c,d,f,z,A,B⟩:=(Gy r).1 ⟨_,gK b,t,rfl⟩;have F:a=i:=uH r d s A;subst F;have n:(nth l c).name=(nth (gq l) k).to:=B;have:=h c f;rw[z]at this;rw[<-n];simpa using this
def ayL(l:List Entry)(up:List ByteArray)(m:cm l=true)(u:up.length<=4294967296):aH az 98 none [aj l,aj up] (.bool (sM l up)) []:=by
 refine cu aru aKm ⟨mh l,jW up,trivial⟩ fun t=> ?_;unfold aru;refine dU (Fw l) (hty:=Ap _) ?_;refine cQ up.length (fun j=>[aj (up.take j),.int .i64 j]) (fun j=>∀i,i<j->sL l up i=true) rfl (by omega) ?_;intro j x I _;simp only[cA];apply ai<;>intro b<;>simp only[eS]at b
 ·have b:j<up.length:=by simp at b;exact b
  refine eu ?_;refine aF (qR l (nth up j)) ?_;refine aF (nM (up.take j) (nth up j)) ?_;refine aF (ahP (gq l) (nth up j) (up.take j)) ?_;apply ai<;>intro c<;>simp only[eS]at c
  ·have d:sL l up j=false:=by
    unfold sL;cases h:pK l (nth up j)with
    |none=>rfl
    |some k=>
     obtain⟨e,n⟩:=Jv h;have f:cV l (nth up j)=(k:Int):=by unfold cV;rw[h]
     have r:=am6 m (up.take j) e;rw[n]at r;rw[f,r]at c;have v:decide ((k:Int)<0)=false:=by rw[oH];omega
     rw[v,Rb]at c;show(!hasB (up.take j) (nth up j)&&dW (fun i=> !fB l k i||hasB (up.take j) (nth l i).name) l.length)=false;revert c;cases hasB (up.take j) (nth up j)<;>cases dW (fun i=> !fB l k i||hasB (up.take j) (nth l i).name) l.length<;>simp
   exact ay (by simp[E.den,sM,qm b d])
  ·have d:sL l up j=true:=by
    unfold sL;cases h:pK l (nth up j)with
    |none=>
     have f:cV l (nth up j)= -1:=by unfold cV;rw[h]
     rw[f]at c;simp at c
    |some k=> obtain⟨e,n⟩:=Jv h;have r:=am6 m (up.take j) e;rw[n]at r;rw[r]at c;show(!hasB (up.take j) (nth up j)&&dW (fun i=> !fB l k i||hasB (up.take j) (nth l i).name) l.length)=true;revert c;cases hasB (up.take j) (nth up j)<;>cases dW (fun i=> !fB l k i||hasB (up.take j) (nth l i).name) l.length<;>simp
   refine aM (fun _=> ?_) ?_
   ·simp[E.den];omega
   refine cK b ?_ fun i y=> ?_
   ·simp only[eS,gZ,eO];rw[bC,xB, <-Ku _ b];rfl
   ·rcases dP i j with s|s
    ·exact I i s
    ·obtain rfl:i=j:=by omega
     exact d
 ·obtain rfl:j=up.length:=by simp at b;omega
  have:sM l up=true:=by unfold sM;rw[jC];exact I
  exact ay (by simp[E.den,this])
def Ed(h:Host)(i:Nat):Bool:= !decide (cV h.entries (nth h.shut i)<0)&& !hasB h.up (nth h.shut i)
def partAt(h:Host)(i:Nat):Bool:=dC (nth h.parts i)&&decide (GX (nth h.parts i)=(nth h.entries i).recipe)
def J8(h:Host)(i:Nat):Bool:=xe (nth h.log i)
def tu(h:Host):Bool:=cm h.entries&&decide (h.parts.length=h.entries.length)&&decide (h.log.length<=24)&&zf h.shut&&dW (fun i=> !jt h.entries i) h.entries.length&&dW (partAt h) h.entries.length &&
 dW (Ed h) h.shut.length&&dW (J8 h) h.log.length&&sM h.entries h.up
structure wJ(h:Host):Prop where
 qF:cm h.entries=true
 len:h.parts.length=h.entries.length
 log:h.log.length<=24
 srt:∀i,i<h.shut.length->xQ h.shut i=true
 qc:∀i,i<h.entries.length->jt h.entries i=false
 py:∀i,i<h.entries.length->partAt h i=true
 sht:∀i,i<h.shut.length->Ed h i=true
 lgs:∀i,i<h.log.length->J8 h i=true
 zj:sM h.entries h.up=true
def DD:tu h=true↔wJ h:=by
 unfold tu zf;simp only[aX,du,jC,qi];constructor
 ·rintro⟨⟨⟨⟨⟨⟨⟨⟨a,b⟩,c⟩,d⟩,e⟩,f⟩,g⟩,i⟩,j⟩;exact⟨a,b,c,d,e,f,g,i,j⟩
 ·rintro⟨a,b,c,d,e,f,g,i,j⟩;exact⟨⟨⟨⟨⟨⟨⟨⟨a,b⟩,c⟩,d⟩,e⟩,f⟩,g⟩,i⟩,j⟩
def aBX(n:¬wJ h):tu h=false:=by
 cases b:tu h with
 |false=>rfl
 |true=>exact absurd (DD.1 b) n
def DY{tab:Nat->List CT}(n:¬wJ h):(VC.ret (.lb false) []).den P tab env (fun d bs=>d=.bool (tu h)/\bs=[]) L :=
 ay (by rw[aBX n];rfl)
def an8{l:List Entry}(r:cm l=true):pU l=[]↔ ∀i,i<l.length->jt l i=false:=by
 unfold pU;rw[aC r];constructor
 ·intro h i b;cases s:jt l i with
  |false=>rfl
  |true=> have:(nth l i).name∈fA l (jt l):=BW.2 ⟨i,b,s,rfl⟩;rw[h]at this;simp at this
 ·intro h;rw[<-al1 l];exact yN h
def axP(h:Host)(x:h.entries.length<=1048576)(B:∀i,i<h.parts.length->(nth h.parts i).ak.length<=1048576):aH az 53 none [enc h] (.bool (tu h)) []:=by
 refine cu apg aIf ⟨mN h,trivial⟩ fun t=> ?_;have y:=t.1;simp only[enc,Fits,aZ,dI]at y;have F:h.shut.length<=9223372036854775807:=kS (show Fits (aj h.shut)from y.2.2.2.1);unfold apg;refine aF (ZK h.entries) ?_;refine aF (ax4 h.shut) ?_;apply ai<;>intro d<;>simp only[eS,aZ]at d
 ·refine DY fun e=> ?_;have j:=e.qF;have m:=e.len;have N:=e.log;have G:zf h.shut=true:=by unfold zf;rw[jC];exact e.srt
  rw[j,G,m]at d;simp at d;omega
 have r:cm h.entries=true:=by cases u:cm h.entries<;>simp[u]at d ⊢
 have s:zf h.shut=true:=by cases u:zf h.shut<;>simp[u]at d ⊢
 rw[r,s]at d;have d:h.parts.length=h.entries.length/\h.log.length<=24:=by simp at d;exact⟨by omega,by omega⟩
 obtain⟨v,n⟩:=d;have O:=(qG r).1;refine dU (Tk h.entries x) (hty:=Px _) ?_;refine dU (ax9 h.entries x) (hty:=ad4 _ _) ?_;refine cQ h.entries.length (fun i=>[.int .i64 i]) (fun i=>∀a,a<i->jt h.entries a=false/\partAt h a=true) rfl (by omega) ?_;intro i Q I _;simp only[cA];apply ai<;>intro f<;>simp only[eS,kQ]at f
 ·have f:i<h.entries.length:=by simp at f;exact f
  refine aM (fun _=> ?_) ?_
  ·simp only[eS,kQ];simp;omega
  refine aM (fun _=> ?_) ?_
  ·simp only[eS,aZ];simp;omega
  refine aF (ZJ (nth h.parts i)) ?_;refine aM (fun _=> ?_) ?_
  ·simp only[eS,aZ];simp;omega
  refine aF (.eB (axV (nth h.parts i) (B i (by omega)))) ?_;refine aM (fun _=> ?_) ?_
  ·simp only[eS,aZ];simp;omega
  refine aF (ax8 (GX (nth h.parts i)) (nth h.entries i).recipe) ?_;apply ai<;>intro b<;>simp only[eS,yl f]at b
  ·refine DY fun e=> ?_;have j:=e.qc i f;have m:=e.py i f;unfold partAt at m;simp only[aX,du]at m;simp[j,m]at b
  ·refine cK f ?_ fun a k=> ?_
   ·simp only[eS];rw[bC];rfl
   ·rcases dP a i with c|c
    ·exact I a c
    ·obtain rfl:a=i:=by omega
     unfold partAt;simp at b ⊢;exact⟨b.1.1,b.1.2,b.2⟩
 ·obtain rfl:i=h.entries.length:=by simp at f;omega
  refine cQ h.shut.length (fun i=>[.int .i64 i]) (fun i=>∀a,a<i->Ed h a=true) rfl (by omega) ?_;intro i H J _;simp only[cA];apply ai<;>intro b<;>simp only[eS,aZ]at b
  ·have b:i<h.shut.length:=by simp at b;exact b
   refine aM (fun _=> ?_) ?_
   ·simp only[eS,aZ];simp;omega
   refine aF (MK h.entries (nth h.shut i)) ?_;refine aF (Fv h.up (nth h.shut i)) ?_;apply ai<;>intro c<;>simp only[eS]at c
   ·refine DY fun e=> ?_;have j:=e.sht i b;unfold Ed at j;revert j c;cases decide (cV h.entries (nth h.shut i)<0)<;>cases hasB h.up (nth h.shut i)<;>simp
   ·refine cK b ?_ fun a k=> ?_
    ·simp only[eS];rw[bC];rfl
    ·rcases dP a i with l|l
     ·exact J a l
     ·obtain rfl:a=i:=by omega
      unfold Ed;revert c;cases decide (cV h.entries (nth h.shut a)<0)<;>cases hasB h.up (nth h.shut a)<;>simp
  ·obtain rfl:i=h.shut.length:=by simp at b;omega
   refine cQ h.log.length (fun i=>[.int .i64 i]) (fun i=>∀a,a<i->J8 h a=true) rfl (by omega) ?_;intro i L z _;simp only[cA];apply ai<;>intro c<;>simp only[eS,aZ]at c
   ·have c:i<h.log.length:=by simp at c;exact c
    refine aM (fun _=> ?_) ?_
    ·simp only[eS,aZ];simp;omega
    refine aF (axO (nth h.log i)) ?_;apply ai<;>intro l<;>simp only[eS]at l
    ·refine DY fun e=> ?_;have j:xe (nth h.log i)=true:=e.lgs i c;simp[j]at l
    ·refine cK c ?_ fun a k=> ?_
     ·simp only[eS];rw[bC];rfl
     ·rcases dP a i with A|A
      ·exact z a A
      ·obtain rfl:a=i:=by omega
       unfold J8;simpa using l
   ·obtain rfl:i=h.log.length:=by simp at c;omega
    refine aF (aya h r) ?_;refine ay ?_;simp only[eS];congr 1;rw[wQ,DD];constructor
    ·intro M;exact⟨r,v,n,by unfold zf at s;rw[jC]at s;exact s,fun a k=>(I a k).1,fun a k=>(I a k).2,J,z,M⟩
    ·intro e;exact e.zj
def ayh(h:Host)(U:h.entries.length<=1048576)(L:∀i,i<h.parts.length->(nth h.parts i).ak.length<=1048576)(x:h.up.length<=4294967296):aH az 60 none [enc h] (.bool (tu h)) []:=by
 refine cu aqb aI9 ⟨mN h,trivial⟩ fun t=> ?_;have F:=t.1;simp only[enc,Fits,aZ,dI]at F;have M:h.shut.length<=9223372036854775807:=kS (show Fits (aj h.shut)from F.2.2.2.1);unfold aqb;refine aF (I4 h.entries) ?_;refine aF (.eB (Tq h.entries)) ?_;refine wZ (r:=.bool (sM h.entries h.up)) (xs:=[aj h.entries,aj h.up]) ?_ (fun j=>ayL h.entries h.up ?_ x) trivial ?_
 ·simp only[eS,aZ]
 ·simp only[cP,fI,tZ,wU,Dg,A8]at j;simp only[eS,aZ]at j;cases r:cm h.entries with
  |true=>rfl
  |false=>simp[r]at j
 simp only[cA];apply ai<;>intro c<;>simp only[eS,aZ]at c
 ·refine DY fun e=> ?_;have m:=e.qF;have k:=e.len;have V:=e.log;have N:=e.zj;have O:=(an8 e.qF).2 e.qc;rw[m,N,k,O]at c;simp at c;omega
 have v:cm h.entries=true:=by cases r:cm h.entries<;>simp[r]at c ⊢
 have u:sM h.entries h.up=true:=by cases r:sM h.entries h.up<;>simp[r]at c ⊢
 rw[v,u]at c;have c:(pU h.entries).length=0/\h.parts.length=h.entries.length/\h.log.length<=24:=by simp at c;obtain⟨⟨q1,q2⟩,q3⟩:=c;exact⟨by simp[q1],by omega,by omega⟩
 obtain⟨y,z,s⟩:=c;have A:=(an8 v).1 (mO y);have W:=(qG v).1;refine cQ h.parts.length (fun i=>[.int .i64 i]) (fun i=>∀a,a<i->partAt h a=true) rfl (by omega) ?_;intro i X I _;simp only[cA];apply ai<;>intro f<;>simp only[eS,aZ]at f
 ·have f:i<h.parts.length:=by simp at f;exact f
  refine aM (fun _=> ?_) ?_
  ·simp only[eS,aZ];simp;omega
  refine aF (ZY (nth h.parts i)) ?_;refine aF (.eB (ayr (nth h.parts i) (L i (by omega)))) ?_;refine aM (fun _=> ?_) ?_
  ·simp only[eS,aZ];simp;omega
  refine aF (ayB (GX (nth h.parts i)) (nth h.entries i).recipe) ?_;apply ai<;>intro d<;>simp only[eS]at d
  ·refine DY fun e=> ?_;have k:=e.py i (by omega);unfold partAt at k;simp only[aX,du]at k;simp[k]at d
  ·refine cK f ?_ fun a l=> ?_
   ·simp only[eS];rw[bC];rfl
   ·rcases dP a i with b|b
    ·exact I a b
    ·obtain rfl:a=i:=by omega
     unfold partAt;simpa using d
 ·obtain rfl:i=h.parts.length:=by simp at f;omega
  refine cQ h.shut.length (fun i=>[.int .i64 i]) (fun i=>∀a,a<i->Ed h a=true/\xQ h.shut a=true) rfl (by omega) ?_;intro i Q J _;simp only[cA];apply ai<;>intro d<;>simp only[eS,aZ]at d
  ·have d:i<h.shut.length:=by simp at d;exact d
   refine aM (fun _=> ?_) ?_
   ·simp only[eS,aZ];simp;omega
   refine aF (qR h.entries (nth h.shut i)) ?_;refine aF (nM h.up (nth h.shut i)) ?_;refine aM (fun j=> ?_) ?_
   ·simp only[cP,fI,tZ,wU,Dg,A8]at j;simp only[eS]at j;simp only[eS,aZ];have S:0<i:=by have:=j.2;simp at this;omega
    rw[mz];simp;omega
   have B:(decide ((i:Int)>0)&& !dz (nth h.shut ((dL .sub .i64 (i:Int) 1).toNat)) (nth h.shut i))= !xQ h.shut i:=by
    unfold xQ;rcases rU i with rfl|S
    ·simp
    ·rw[mz,show((i:Int)-1).toNat=i-1 by omega];have c:decide ((i:Int)>0)=true:=by rw[du];omega
     have f:(i==0)=false:=by rw[Zw];omega
     rw[c,f];simp
   apply ai<;>intro b<;>simp only[eS,aZ,gZ,eO,B]at b
   ·refine DY fun e=> ?_;have m:=e.sht i d;have k:=e.srt i d;unfold Ed at m;rw[k]at b;revert m b;cases decide (cV h.entries (nth h.shut i)<0)<;>cases hasB h.up (nth h.shut i)<;>simp
   ·refine cK d ?_ fun a l=> ?_
    ·simp only[eS];rw[bC];rfl
    ·rcases dP a i with n|n
     ·exact J a n
     ·obtain rfl:a=i:=by omega
      unfold Ed;revert b;cases decide (cV h.entries (nth h.shut a)<0)<;>cases hasB h.up (nth h.shut a)<;>cases xQ h.shut a<;>simp
  ·obtain rfl:i=h.shut.length:=by simp at d;omega
   refine cQ h.log.length (fun i=>[.int .i64 i]) (fun i=>∀a,a<i->J8 h a=true) rfl (by omega) ?_;intro i T G _;simp only[cA];apply ai<;>intro b<;>simp only[eS,aZ]at b
   ·have b:i<h.log.length:=by simp at b;exact b
    refine aM (fun _=> ?_) ?_
    ·simp only[eS,aZ];simp;omega
    refine aF (ayg (nth h.log i)) ?_;apply ai<;>intro n<;>simp only[eS]at n
    ·refine DY fun e=> ?_;have m:xe (nth h.log i)=true:=e.lgs i b;simp[m]at n
    ·refine cK b ?_ fun a l=> ?_
     ·simp only[eS];rw[bC];rfl
     ·rcases dP a i with H|H
      ·exact G a H
      ·obtain rfl:a=i:=by omega
       unfold J8;simpa using n
   ·obtain rfl:i=h.log.length:=by simp at b;omega
    refine ay ?_;simp only[eS];have:tu h=true:=DD.2 ⟨v,z,s,fun a l=>(J a l).2,A,fun a l=>I a (by omega),fun a l=>(J a l).1,G,u⟩;rw[this]
end
section
open Go.RowKit Go
def nz(p:Part)(m:ByteArray):Part:=if cw (fq p) 1 then(gJ p (bK m)).1 else p
def cO(h:Host)(s:ByteArray):Nat:=(cV h.entries s).toNat
def xI(h:Host)(s:ByteArray):Host:={h with parts:=h.parts.set (cO h s) (nz (nth h.parts (cO h s)) mStart),up:=h.up++[s]}
def gy(h:Host)(down:List ByteArray):Nat->List Part×List ByteArray
 |0=>(h.parts,[])
 |j+1 =>
  let s:=nth h.up (h.up.length-1-j)
  if hasB down s then((gy h down j).1.set (cO h s) (nz (nth (gy h down j).1 (cO h s)) dY),(gy h down j).2)else((gy h down j).1,s::(gy h down j).2)
def mV(h:Host)(s:ByteArray):Host :=
 let q:=gy h (kA (rz h.entries s) s) h.up.length
 {h with parts:=q.1,up:=q.2}
def gW(h:Host)(s:ByteArray):Bool:=tu h&& !decide (cV h.entries s<0)&&decide (h.log.length<24)
def jm(k:Int)(s:ByteArray):Event:=⟨k,s,oo,[]⟩
def qB(h:Host)(e:Event):Host:={h with log:=h.log++[e]}
def nK(h:Host)(s:ByteArray):List ByteArray:=kA (mg h.entries s) s
def gY(h:Host)(all:List ByteArray):Nat->Host
 |0=>h
 |k+1=>let s:=nth (bR h.entries) k
  if hasB all s&& !hasB (gY h all k).up s then xI (gY h all k) s else gY h all k
def lO(h:Host)(s:ByteArray):Bool:=gW h s&& !hasB h.up s&&(nK h s).all fun x=> !hasB h.shut x
def gM(h:Host)(s:ByteArray):Host:=if lO h s then qB (gY h (nK h s) (bR h.entries).length) (jm 1 s)else h
def zg(h:Host)(s:ByteArray):Bool:=gW h s&&hasB h.up s
def Al(h:Host)(s:ByteArray):Host:=if zg h s then qB (mV h s) (jm 2 s)else h
def oI(h:Host)(s:ByteArray)(x:Call):Host×gH×Bool :=
 if gW h s=false\/gu x=false then(h,rep 7 0 0 0,false)
 else if hasB h.up s=false then(h,rep 2 0 0 0,false)
 else
  let q:=gJ (nth h.parts (cO h s)) x
  if q.2.code=1 then(h,q.2,false)
  else
   let g:={h with parts:=h.parts.set (cO h s) q.1}
   let f:=if q.2.code=3 then {mV g s with shut:=kA h.shut s} else g
   (qB f ⟨3,s,x,[]⟩,q.2,true)
def uw(h:Host)(s:ByteArray):Host×gH :=
 if gW h s=false then(h,rep 7 0 0 0)
 else if hasB h.shut s=false then(h,rep 6 0 0 0)
 else
  let i:=cO h s
  let q:=gJ (nth h.parts i) (bK jr)
  let p:=if q.2.code=0 then q.1 else(dZ (nth h.entries i).recipe).1
  (qB {h with parts:=h.parts.set i (nz p dY),shut:=h.shut.filter fun x=> !decide (x=s)} (jm 4 s),rep 0 (if q.2.code=0 then 1 else 0) 0 0)
def B6(h:Host)(s:ByteArray)(r:List ByteArray):List Entry:=h.entries.set (cO h s) {nth h.entries (cO h s)with recipe:=r}
def rF(h:Host)(s:ByteArray)(r:List ByteArray):Bool:=gW h s&&jH r&& !hasB h.shut s&&decide (gq (B6 h s r)=gq h.entries)&&decide ((pU (B6 h s r)).length=0)
def Kt(h:Host)(s:ByteArray)(r:List ByteArray):Part :=
 let i:=cO h s
 let p:=(dZ r).1
 let p:=if cw (fR (nth (nth h.entries i).recipe 0)) 2&&cw (fR (nth r 0)) 2 then {p with core:={p.core with cells:=(nth h.parts i).core.cells}} else p
 if hasB h.up s then nz p mStart else p
def rE(h:Host)(s:ByteArray)(r:List ByteArray):Host :=
 if rF h s r then qB {h with entries:=B6 h s r,parts:=h.parts.set (cO h s) (Kt h s r)} ⟨5,s,oo,r⟩else h
def xE(h:Host)(e:Event):Host×Bool :=
 if e.kind=1 then(gM h e.name,lO h e.name)
 else if e.kind=2 then(Al h e.name,zg h e.name)
 else if e.kind=3 then((oI h e.name e.call).1,(oI h e.name e.call).2.2)
 else if e.kind=4 then((uw h e.name).1,decide ((uw h e.name).2.code=0))
 else(rE h e.name e.recipe,rF h e.name e.recipe)
end
variable {M:Addr->Prop}{l:List (ByteArray×Int)}{g:Nat}{S:Value}{a b w w':World}
section
open Go.RowKit Go
variable [GC]
def GQ(l:List Cell):List (ByteArray×Int):=l.map fun c=>(c.key,c.val)
def qD(l:List wK):List (ByteArray×Int):=l.map fun c=>(c.name,c.count)
def uI(x:ByteArray×Int):List D:=[.str x.1,.int .i64 x.2]
def amM(l:List Cell):(GQ l).map uI=l.map aB.cells:=by simp[GQ,uI,mS,Re]
def amO(l:List wK):(qD l).map uI=l.map aB.cells:=by simp[qD,uI,zI,Re]
def Kh(l:List wK):(qD l).length=l.length:=by simp[qD]
def aEV{b:Type}[Inhabited α][Inhabited b](f:α->b){l:List α}{k:Nat}(h:k<l.length):nth (l.map f) k=f (nth l k):=by simp[nth,jZ,h]
def amN{l:List wK}{k:Nat}(h:k<l.length):nth (qD l) k=((nth l k).name,(nth l k).count):=aEV _ h
def pOk(x:ByteArray×Int):Prop:=x.1.size<=maxLen/\IntKind.i64.min<=x.2/\x.2<=IntKind.i64.max
def lF(K:Nat->Prop)(w:World)(g:Nat)(S:Value)(l:List (ByteArray×Int)):Prop :=
 ∃a cap,S=.slice a l.length cap/\l.length<=cap/\cap<=maxLen/\(a=none->cap=0)/\(∀x∈l,pOk x) /\
  ∀b o s,a=some ⟨b,o,s⟩->0<cap->s=none/\K b/\b≠g/\∃cells T,w.heap[b]? =some (.cells cells T (0,0))/\o+cap*2<=cells.size /\
   ∀i,i<l.length->cells[o+i*2]? =some (.string (nth l i).1)/\cells[o+i*2+1]? =some (.int .i64 (nth l i).2)
def lF.keep{K K':Nat->Prop}(h:lF K w g S l)(d:∀b,dV S b->w'.heap[b]? =w.heap[b]?)(f:∀b,K b->K' b):lF K' w' g S l:=by obtain⟨a,cap,rfl,i,j,k,m,n⟩:=h;refine⟨a,cap,rfl,i,j,k,m,fun b o s e c=> ?_⟩;obtain⟨q1,q2,q3,cells,T,q4,q5⟩:=n b o s e c;exact⟨q1,f _ q2,q3,cells,T,by rw[d b ⟨o,s,_,cap,by rw[e],c⟩];exact q4,q5⟩
def lF.out{K:Nat->Prop}(h:lF K w g S l){b:Nat}(hb:dV S b):K b/\b≠g/\b<w.heap.size:=by obtain⟨a,cap,rfl,i,j,k,m,d⟩:=h;obtain⟨o,s,len,c,e,f⟩:=hb;simp only[fE]at e;obtain⟨rfl,rfl,rfl⟩:=e;obtain⟨q1,q2,q3,cells,T,q4,q5⟩:=d b o s rfl f;exact⟨q2,q3,(rS.1 q4).1⟩
def lF.at{K:Nat->Prop}(h:lF K w g S l){i:Nat}(c:i<l.length) :
  ∃b o cap,S=.slice (some ⟨b,o,none⟩) l.length cap/\K b/\b≠g/\dV S b/\w.cell? ⟨b,o+i*2,none⟩=some (.string (nth l i).1)/\w.cell? ⟨b,o+i*2+1,none⟩=some (.int .i64 (nth l i).2)/\(∀x y,w.frozen? ⟨b,x,y⟩=false)/\b<w.heap.size:=by
 have k:=h;obtain⟨a,cap,rfl,m,n,f,r,j⟩:=h;rcases a with _|⟨b,o,s⟩
 ·have:=f rfl;omega
 ·have d:0<cap:=by omega
  obtain⟨rfl,q2,q3,cells,T,q4,q5,e⟩:=j b o s rfl d;refine⟨b,o,cap,rfl,q2,q3,⟨o,none,_,cap,rfl,d⟩,?_,?_,fun x y=> ?_,(rS.1 q4).1⟩
  ·simp only[World.cell?,q4];exact(e i c).1
  ·simp only[World.cell?,q4];exact(e i c).2
  ·unfold World.frozen?;rw[q4];simp
def lF.aD4{K:Nat->Prop}(h:lF K w g S l):∃a cap,S=.slice a l.length cap/\l.length<=cap/\cap<=maxLen:=by obtain⟨a,cap,rfl,b,c,_⟩:=h;exact⟨a,cap,rfl,b,c⟩
def lF.put{K:Nat->Prop}{b o cap:Nat}{s:Option Nat}(h:lF K w g (.slice (some ⟨b,o,s⟩) l.length cap) l){i:Nat}(d:i<l.length){v:Int}(n:IntKind.i64.min<=v/\v<=IntKind.i64.max) :
  lF K (w.setCell ⟨b,o+i*2+1,none⟩ (.int .i64 v)) g (.slice (some ⟨b,o,s⟩) l.length cap) (l.set i ((nth l i).1,v)):=by
 obtain⟨a,f,e,r,u,G,k,y⟩:=h;cases e;refine⟨_,cap,by rw[uX],by rw[uX];exact r,u,(fun e=>by cases e),fun x c=> ?_,fun H I J e A=> ?_⟩
 ·rcases sZ c with c|rfl
  ·exact k x c
  ·exact⟨(k _ (gK d)).1,n⟩
 ·cases e;obtain⟨q1,q2,q3,cells,T,q4,q5,B⟩:=y b o s rfl A;refine⟨q1,q2,q3,cells.setIfInBounds (o+i*2+1) (.int .i64 v),T,?_,by simpa using q5,fun j m=> ?_⟩
  ·unfold World.setCell;simp[Iu,q4]
  ·rw[uX]at m;obtain⟨F,z⟩:=B j m;rw[VE _ _ _ _ d];constructor
   ·rw[YP (by omega),F];split
    ·rename_i e;rw[e]
    ·rfl
   ·by_cases e:j=i
    ·subst e;have t:=(rS.1 z).1;rw[aC rfl,Array.getElem?_setIfInBounds_self_of_lt t]
    ·rw[aw e,YP (by omega),z]
def agF{K:Nat->Prop}{B:Nat}(d:R w M (.sl (l.map uI)) S)(z:QX B w S 2)(A:∀b,B<=b->b<w.heap.size->K b)(hg:∀b,B<=b->b<w.heap.size->b≠g):lF K w g S l:=by
 have j:=d;have n:∀r∈l.map uI,r.length=2:=fun r d=>by obtain⟨x,_,rfl⟩:=fJ.1 d;rfl
 obtain⟨a,len,cap,rfl,m,F,G,H,X⟩:=d;rw[di]at m;subst m;refine⟨a,cap,rfl,F,G,H,fun x I=> ?_,fun b o s e J=> ?_⟩
 ·have L:=LY _ _ j;have:∀(c:List (List D)),Ig c->∀r∈c,dI r:=by
   intro c;induction c with
   |nil=>intro _ r d;cases d
   |cons a t ih=>intro h r d;rcases fI.1 d with rfl|d;exact h.1;exact ih h.2 r d
  have:=this _ L.2 _ (fJ.2 ⟨x,I,rfl⟩);exact⟨this.1,this.2.1.1,this.2.1.2⟩
 ·subst e;obtain⟨q1,q2,cells,T,q3,q4⟩:=z b o s _ cap rfl J;have k:=(rS.1 q3).1;refine⟨q1,A b q2 k,hg b q2 k,cells,T,q3,q4,fun i u=> ?_⟩;have f:(l.map uI)[i]? =some (uI (nth l i)):=by rw[iw,bX u];simp[nth,u]
  obtain⟨N,v,_,O⟩:=Jw n j f (j:=0) rfl;obtain⟨Q,y,_,U⟩:=Jw n j f (j:=1) rfl;simp only[World.cell?,q3]at v y;have V:N=_:=O.1;have W:Q=_:=U.1;subst V W;exact⟨by simpa using v,by simpa using y⟩
def lF.rd{K:Nat->Prop}(h:lF K w g S l)(n:∀b o cap i,S=.slice (some ⟨b,o,none⟩) l.length cap->K b->i<l.length*2->¬M ⟨b,o+i,none⟩):R w M (.sl (l.map uI)) S:=by
 have B:∀r∈l.map uI,r.length=2:=fun r k=>by obtain⟨x,_,rfl⟩:=fJ.1 k;rfl
 obtain⟨a,cap,rfl,t,u,v,F,y⟩:=h;rcases a with _|⟨b,o,s⟩
 ·have:l=[]:=mO (by have:=v rfl;omega);subst this;exact⟨none,_,cap,rfl,rfl,t,u,v,fun b o s e=>by cases e⟩
 ·refine Jx B (by simp) t u (fun G=>(y b o s rfl (by omega)).1) fun i j r d m f=> ?_;have c:i<l.length:=by have:=(dh.1 m).1;simpa using this
  obtain⟨rfl,q2,q3,cells,T,q4,q5,z⟩:=y b o s rfl (by omega);have A:=F _ (gK c);have k:r=uI (nth l i):=by rw[iw,bX c]at m;cases m;simp[nth,c]
  subst k
  match j,f with
  |0,f=>cases f;exact⟨_,by simp only[World.cell?,q4];exact(z i c).1,n b o cap (i*2) rfl q2 (by omega),rfl,A.1⟩
  |1,f=>cases f;exact⟨_,by simp only[World.cell?,q4];exact(z i c).2,by have:=n b o cap (i*2+1) rfl q2 (by omega);rwa[<-wS]at this,rfl,A.2⟩
def aby{q:Addr}{v:Value}{b:Nat}(h:b≠q.block):(w.setCell q v).heap[b]? =w.heap[b]? :=by unfold World.setCell;simp only[Iu];rw[aw (fun e=>h e.symm)]
section
structure PB(K:Nat->Prop)(w:World)(g:Nat)(S2:Value)(p:Part):Prop where
 gi:qd w/\NG<=w.heap.size
 kb:∀b,K b->NG<=b/\b<w.heap.size
 kg:K g
 bx:∃S1,aA w g 87 #[.string p.core.kind,.bool p.core.on,.bool p.core.broken,S1,.int .i64 p.core.count,S2]/\lF K w g S1 (GQ p.core.cells)/\∀b,dV S1 b->¬dV S2 b
 ly:lF K w g S2 (qD p.ak)
 ks:p.core.kind.size<=maxLen
 ct:IntKind.i64.min<=p.core.count/\p.core.count<=IntKind.i64.max
structure dr(K:Nat->Prop)(w w':World):Prop where
 os:w'.os=w.os
 tape:w'.tape=w.tape
 output:w'.output=w.output
 size:w.heap.size<=w'.heap.size
 block:∀b,b<w.heap.size->¬K b->w'.heap[b]? =w.heap[b]?
def dr.refl(K:Nat->Prop)(w:World):dr K w w:=⟨rfl,rfl,rfl,bM _,fun _ _ _=>rfl⟩
def dr.Pt{K:Nat->Prop}{c:World}(h:dr K a b)(k:dr K b c):dr K a c :=
 ⟨k.os.trans h.os,k.tape.trans h.tape,k.output.trans h.output,dK h.size k.size,fun i d n=>(k.block i (dS d h.size) n).trans (h.block i d n)⟩
def dr.below{K:Nat->Prop}(h:Below a.heap.size a b):dr K a b:=⟨h.os,h.tape,h.output,h.size,fun i c _=>h.block i c⟩
def dr.Eg{K:Nat->Prop}{B:Nat}(h:dr K a b)(c:B<=a.heap.size)(d:∀b,K b->B<=b):Below B a b:=⟨h.os,h.tape,h.output,h.size,fun i e=>h.block i (dS e c) fun k=>by have:=d i k;omega⟩
section
variable {K K':Nat->Prop}{w w':World}{g:Nat}{S2:Value}{p:Part}
def PB.glt(h:PB K w g S2 p):g<w.heap.size:=(h.kb _ h.kg).2
def giK(h:qd w/\NG<=w.heap.size){q:Addr}{v:Value}(b:NG<=q.block):qd (w.setCell q v)/\NG<=(w.setCell q v).heap.size:=by refine⟨h.1.keep fun k c=> ?_,by simpa using h.2⟩;exact aby (by omega)
end
end
end
section
open Go.RowKit
section
variable {P:Program}{o:Oper}{a:Act}{C:World->Prop}{K:Act->Prop}
end
end
variable {T:TypeId}
section
open Go.RowKit Go
variable [GC]
def sI:(∀{α:Type} {l:List α} {i:Nat} {a:α},l.toArray.setIfInBounds i a=(l.set i a).toArray)/\(∀{α:Type} {x b:α} {xs:List α},(x::xs).set 0 b=b::xs)/\(∀{α:Type} {x:α} {n:Nat} {xs:List α} {b:α},(x::xs).set (n+1) b=x::xs.set n b):=⟨by intros;simp,by intros;rfl,by intros;rfl⟩
def rzs{b:Nat}(h:aA w b T #[.int .i64 0,.int .i64 0,.string ⟨#[]⟩,.int .i64 0,.int .i64 0]):w.cell? ⟨b,0,none⟩=some (.int .i64 0)/\w.cell? ⟨b,1,none⟩=some (.int .i64 0)/\w.cell? ⟨b,2,none⟩=some (.string ⟨#[]⟩)/\w.cell? ⟨b,3,none⟩=some (.int .i64 0)/\w.cell? ⟨b,4,none⟩=some (.int .i64 0)/\∀i,w.frozen? ⟨b,i,none⟩=false:=⟨by rw[h.cell];rfl,by rw[h.cell];rfl,by rw[h.cell];rfl,by rw[h.cell];rfl,by rw[h.cell];rfl,h.frozen⟩
def lJ(x:Call):Value:=.agg #[.string x.method,.string x.key,.int .i64 x.val,.string x.text]
def anl(r:gH):Value:=.agg #[.int .i64 r.code,.int .i64 r.val,.string r.text,.int .i64 r.want,.int .i64 r.had]
structure Ib(x:Call):Prop where
 method:x.method.size<=maxLen
 key:x.key.size<=maxLen
 val:IntKind.i64.min<=x.val/\x.val<=IntKind.i64.max
 text:x.text.size<4294967281
structure St(K:Nat->Prop)(w:World)(g:Nat)(S2:Value)(K':Nat->Prop)(p:Part)(wi:World):Prop where
 pb:PB K' wi g S2 p
 nb:NG<=w.heap.size
 sub:∀b,K' b->K b\/(w.heap.size<=b/\b<wi.heap.size)
 fr:dr K w wi
section
variable {K K':Nat->Prop}{w wi wj:World}{g:Nat}{S2:Value}{p q:Part}
def dr.jv{c:World}(h:dr K a b)(k:Below b.heap.size b c):dr K a c :=
 ⟨k.os.trans h.os,k.tape.trans h.tape,k.output.trans h.output,dK h.size k.size,fun i d n=>(k.block i (dS d h.size)).trans (h.block i d n)⟩
def dr.aHT(h:dr K a b){q:Addr}(v:Value)(c:K q.block\/a.heap.size<=q.block):dr K a (b.setCell q v) :=
 ⟨h.os,h.tape,h.output,by simpa using h.size,fun i d n=>(aby (fun e=>by rcases c with c|c;exact n (e▸c);omega)).trans (h.block i d n)⟩
end
def eW:Array Value:=#[.int .i64 0,.int .i64 0,.string ⟨#[]⟩,.int .i64 0,.int .i64 0]
def toList_inj{a b:ByteArray}(h:a.toList=b.toList):a=b:=by have:=Kw a b;rw[h]at this;simpa using this.symm
def aFY{id:Nat}{Q:Exit->Act->World->Prop}{a:Act}{l:List Oper}(n:Nat)(m:P.follows .mixedOrders=true)(B:Region.lexTailB .any l.toArray n=true)
  (h:∀d:World,d.heap=w.heap->Below w.heap.size w d->wpStill P l.toArray d (fun b=>wpList P l.toArray Q (l.drop n) b d) (l.take n) a):(Code.region id l.toArray true).wp P Q a w :=
 wp_region_still_tail n m B (h _ rfl ⟨rfl,rfl,rfl,bM _,fun _ _=>rfl⟩)
def aA.oM{K:Nat->Prop}{b:Nat}{cs:Array Value}(h:aA w b T cs)(f:dr K w w')(k:¬K b):aA w' b T cs:=(f.block b h.lt k).trans h
end
end Go.Proofs.YtoomhbopolalnabGreatDoor
