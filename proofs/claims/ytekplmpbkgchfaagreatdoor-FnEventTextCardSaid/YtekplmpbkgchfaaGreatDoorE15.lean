/- Contracts: the names of entries that something holds of; who misses, reaches, needs, is stuck; the links; the order of the start: the program's side. -/
import Derived.Test.YtekplmpbkgchfaaGreatDoorE14
import Derived.Test.YtekplmpbkgchfaaGreatDoorE11
import Derived.Test.YtekplmpbkgchfaaGreatDoorE13
import Derived.WalkKit
import Derived.BigQuiet
import Derived.Handy
import Derived.ArgAppend
import Derived.Deep.RegionLaw
import Derived.Maps.AppendAt
import Derived.RegionTactic
import Derived.Deep.DeepCutAuto
import Derived.Deep.CutBlock
import Derived.ChangeAlike
import Derived.OrdersHeld
import Derived.NoCompiler
import Derived.Deep.RegionHeld
set_option linter.all false
set_option maxRecDepth 100000
namespace Go.Proofs.YtekplmpbkgchfaaGreatDoor
section
open Go.RowKit Go
variable [GC]
def A9(l:List ByteArray)(s:ByteArray):D.sl (l.map aE.cells++[[.str s]])=ax (l++[s]):=by simp [ax,eB]
def akw{l:List Entry}{i j c:Nat}(h:wO l i j=some c):F9 l (nth l i).name (nth (nth l i).needs j)=(nth l c).name:=by unfold F9;rw [show Jr l (nth l i).name (nth (nth l i).needs j)=some c from h]
def akv{l:List Entry}{i j:Nat}(h:wO l i j=none):F9 l (nth l i).name (nth (nth l i).needs j)=aV:=by unfold F9;rw [show Jr l (nth l i).name (nth (nth l i).needs j)=none from h]
def aBG{l:List Entry}{i j c:Nat}(h:wO l i j=some c):qT l i (j+1)=qT l i j++[⟨(nth l i).name,(nth l c).name,(nth (nth l i).needs j).kY⟩]:=by rw [ajt];unfold zg;rw [h];rfl
def aBF{l:List Entry}{i j:Nat}(h:wO l i j=none):qT l i (j+1)=qT l i j:=by rw [ajt];unfold zg;rw [h];simp
def aBE{l:List Entry}(hr:cW l=true){i:Nat}(hi:i<l.length)(j:Nat)(hj:j<=(nth l i).needs.length):(xO l i++qT l i j).length<=100:=by have h1:=aaI hr i (by omega);have h2:=ajs l i j;have h3:=NC hr hi;have h4:=(q9 hr).1;rw [jw];omega
def aBD(a:List gY)(x:gY)(q:List gY):D.sl (a.map aE.cells++[[.str x.jS,.str x.to,.int .i64 x.kY]])=ax (a++[x]):=by simp [ax,uu]
def nx(l:List Entry)(o:List Nat)(i:Nat):Int:=match dG (lS l o) i with|some j=>j|none=> -1
def aCr(l:List Entry)(o:List Nat)(j:Nat):uO l (o++[j])=uO l o++[(nth l j).name]:=by simp [uO]
def Nq(l:List Entry)(o:List Nat):(uO l o).length=o.length:=by simp [uO]
abbrev jW(l:List ByteArray)(s:ByteArray):List ByteArray:=wP cU l s
def aCs(l:List ByteArray)(s t:ByteArray):D.sl ((l.map aE.cells++[[.str s]])++[[.str t]])=ax (l++[s]++[t]):=by simp [ax,eB]
def EY(l:List ByteArray)(s:ByteArray)(hl:l.length<=1048576):eA ay 59 none [ax l,.str s] (ax (jW l s)) [] [(0,1)]:=by
 refine iT an5 aGU ⟨lG l,trivial,trivial⟩ fun hfit=> ?_;unfold an5;refine eZ l.length (fun k=>[.bool (gq cU l s k).2,ax (gq cU l s k).1,.int .i64 k]) (fun _=>True) rfl trivial ?_;intro k hk _ _;simp only [cA];have hlen:=abb (lt:=cU) l s k;have FA:(gq cU l s k).1.length<=1048577:=by split at hlen<;>omega
 apply aq<;>intro h2<;>simp only [eS] at h2
 ·have h2:k<l.length:=by simp at h2;exact h2
  have SA:l.getD k default=nth l k:=rfl;refine fZ ?_;apply aq<;>intro h3<;>simp only [eS,gW,eB] at h3
  ·have h3:(gq cU l s k).2=false/\cU (nth l k) s=false:=by simpa using h3
   apply aq<;>intro h4<;>simp only [eS,gW,eB] at h4
   ·have h4: ¬nth l k=s:=by simpa using h4
    refine aX (fun _=> ?_) (aX (fun _=> ?_) ?_)
    ·simp [E.den];omega
    ·simp [E.den];omega
    refine dK h2 ?_ trivial;simp only [eS,gW,eB];rw [bW,aCs];simp only [gq,h3.1,SA,h3.2,h4,xk,xp];rfl
   ·have h4:nth l k=s:=by simpa using h4
    refine aX (fun _=> ?_) ?_
    ·simp [E.den];omega
    refine dK h2 ?_ trivial;simp only [eS,gW,eB];rw [bW,A9];have h5:=h3.2;rw [h4] at h5;simp only [gq,h3.1,SA,h4,h5,xk,xp,vS];rfl
  ·refine aX (fun _=> ?_) ?_
   ·simp [E.den];omega
   refine dK h2 ?_ trivial;simp only [eS,gW,eB];rw [bW,A9];cases hd:(gq cU l s k).2 with
   | true => simp only [gq,hd,SA,vS];rfl
   | false =>
    have h5:cU (nth l k) s=true:=by rw [hd] at h3;simpa using h3
    simp only [gq,hd,SA,h5,xk,xp,vS];rfl
 ·obtain rfl:k=l.length:=by simp at h2;omega
  apply aq<;>intro h3<;>simp only [eS] at h3
  ·have h3:(gq cU l s l.length).2=false:=by simpa using h3
   refine aX (fun _=> ?_) (az ?_)
   ·simp [E.den];omega
   ·simp only [eS];rw [A9];unfold jW wP;rw [h3];rfl
  ·have h3:(gq cU l s l.length).2=true:=by simpa using h3
   refine az ?_;simp only [eS];unfold jW wP;rw [h3];rfl
def EW(l:List Entry):eA ay 109 none [ax l] (ax (gf l)) [] [(0,3)]:=by
 refine iT anD aGu ⟨rp l,trivial⟩ fun hfit=> ?_;unfold anD;refine aF (Ig l) ?_;apply aq<;>intro h<;>simp only [eS] at h
 ·have:cW l=false:=by simpa using h
  exact az (by simp [E.den,gf,this,ax])
 have hr:cW l=true:=by simpa using h
 have h6:=(q9 hr).1;refine eZ l.length (fun i=>[ax (xO l i),.int .i64 i]) (fun _=>True) rfl trivial ?_;intro i hi _ _;simp only [cA];apply aq<;>intro h2<;>simp only [eS] at h2
 ·have h2:i<l.length:=by simp at h2;exact h2
  have h3n:=NC hr h2;refine fZ ?_;refine eZ (nth l i).needs.length (fun j=>[ax (xO l i++qT l i j),.int .i64 j]) (fun _=>True) ?_ trivial ?_
  ·simp only [eS];simp [qT]
  intro j hj _ _;simp only [cA];have xG:=aBE hr h2 j hj;apply aq<;>intro h3<;>simp only [eS,uZ,nW] at h3
  ·have h3:j<(nth l i).needs.length:=by simp at h3;exact h3
   refine fZ ?_;refine aF (afu l (nth l i).name (nth (nth l i).needs j)) ?_;cases hc:wO l i j with
   | none =>
    rw [akv hc];apply aq<;>intro h4
    ·simp only [eS] at h4;simp [aV] at h4
    refine dK h3 ?_ trivial;simp only [eS];rw [bW,aBF hc];rfl
   | some c =>
    rw [akw hc];have hcl:=TR hc;apply aq<;>intro h4
    ·refine aX (fun _=> ?_) ?_
     ·simp [E.den];simp at xG;omega
     refine dK h3 ?_ trivial;simp only [eS,uZ,nW,abp,E3];rw [bW,aBG hc, <-iG, <-aBD _ _ []];rfl
    ·simp only [eS] at h4;have:=akR hr hcl;unfold aV at this;simp [this] at h4
  ·obtain rfl:j=(nth l i).needs.length:=by simp at h3;omega
   refine Rj h2 ?_ trivial;simp only [eS];rw [bW,aju];rfl
 ·obtain rfl:i=l.length:=by simp at h2;omega
  exact az (by simp [E.den,gf,hr])
def Ji(l:List Entry)(p:Nat->Bool):(fB l p).length<=l.length:=ajK l p l.length
def aft(l:List Entry):eA ay 110 none [ax l] (ax (FW l)) [] [(0,1)]:=by
 refine iT anG aGx ⟨rp l,trivial⟩ fun hfit=> ?_;unfold anG;refine aF (Ig l) ?_;apply aq<;>intro h<;>simp only [eS] at h
 ·have:cW l=false:=by simpa using h
  exact az (by simp [E.den,FW,this,ax])
 have hr:cW l=true:=by simpa using h
 have h6:=(q9 hr).1;refine eZ l.length (fun i=>[ax (fB l (mF l i)),.int .i64 i]) (fun _=>True) ?_ trivial ?_
 ·simp only [eS];rw [show fB l (mF l 0)=[] by rw [<-ajM l];exact xP fun a _=>by simp [mF]];rfl
 intro i hi _ _;simp only [cA];apply aq<;>intro h2<;>simp only [eS] at h2
 ·have h2:i<l.length:=by simp at h2;exact h2
  have h3n:=NC hr h2;refine fZ ?_;refine eZ (nth l i).needs.length (fun j=>[ax (fB l (mG l i j)),.int .i64 j]) (fun _=>True) ?_ trivial ?_
  ·simp only [eS];rw [show fB l (mG l i 0)=fB l (mF l i) from xP fun a _=>by
    unfold mF mG;by_cases e:a=i
    ·subst e;simp [Jh,vU]
    ·by_cases e2:a<i<;>simp [e,e2]]
   rfl
  intro j hj _ _;simp only [cA];apply aq<;>intro h3<;>simp only [eS,uZ,nW] at h3
  ·have h3:j<(nth l i).needs.length:=by simp at h3;exact h3
   refine fZ ?_;refine aF (afu l (nth l i).name (nth (nth l i).needs j)) ?_;have hnl:=Ji l (mG l i j);cases hc:wO l i j with
   | none =>
    rw [akv hc];apply aq<;>intro h4
    ·refine fQ (EY (fB l (mG l i j)) (nth l i).name (by omega)) ?_;refine dK h3 ?_ trivial;simp only [eS];rw [bW];show [ax (wP cU (fB l (mG l i j)) (nth l i).name),_]=_;rw [ajN hr h2,show fB l (mG l i (j+1))=fB l (fun a=>mG l i j a||decide (a=i)) from xP fun a _=>by
      unfold mG;by_cases e:a=i
      ·subst e;simp [Jh,vU,hc]
      ·by_cases e2:a<i<;>simp [e,e2]]
     rfl
    ·simp only [eS] at h4;simp [aV] at h4
   | some c =>
    rw [akw hc];have hcl:=TR hc;apply aq<;>intro h4
    ·simp only [eS] at h4;have:=akR hr hcl;unfold aV at this;simp [this] at h4
    ·refine dK h3 ?_ trivial;simp only [eS];rw [bW,show fB l (mG l i (j+1))=fB l (mG l i j) from xP fun a _=>by
      unfold mG;by_cases e:a=i
      ·subst e;simp [Jh,vU,hc]
      ·simp [e]]
     rfl
  ·obtain rfl:j=(nth l i).needs.length:=by simp at h3;omega
   refine Rj h2 ?_ trivial;simp only [eS];rw [bW,show fB l (mG l i (nth l i).needs.length)=fB l (mF l (i+1)) from xP fun a _=>by
    unfold mF mG;by_cases e:a=i
    ·subst e;simp [pG]
    ·have:a<i+1↔a<i:=by omega
     by_cases e2:a<i<;>simp [e,e2,this]]
   rfl
 ·obtain rfl:i=l.length:=by simp at h2;omega
  refine az ?_;simp only [eS];unfold FW;rw [aA hr,xP fun a ha=>show mF l l.length a=pG l a by simp [mF,ha]]
def Nr{α:Type}[DecidableEq α]: ∀{a b:List α},a.Nodup->(∀x∈a,x∈b)->a.length<=b.length
 | [],b,_,_=>by simp
 | x::a,b,hn,hs=>by
  have hx:x∈b:=hs x (by simp);rw [PW] at hn;have:=Nr (a:=a) (b:=b.erase x) hn.2 fun y hy=>by have hne:y≠x:=fun e=>hn.1 (e▸hy);exact (List.mem_erase_of_ne hne).2 (hs y (by simp [hy]))
  rw [List.length_erase_of_mem hx] at this;have hp:0<b.length:=List.length_pos_of_mem hx;simp only [fw];omega
def aea{ls:List gY}{back:Bool}{a b:ByteArray}(h:kT (Edge ls back) a b):b∈ls.map fun x=>gU x back:=by
 have key: ∀{a b},Edge ls back a b->b∈ls.map fun x=>gU x back:=by rintro a b ⟨x,hx,_,rfl⟩;exact gD.2 ⟨x,hx,rfl⟩
 cases h with
 | edge e=>exact key e
 | snoc _ e=>exact key e
structure WI(ls:List gY)(back:Bool)(nm:ByteArray)(seen next:List ByteArray):Prop where
 xu:lH cU seen
 way: ∀x∈seen,kT (Edge ls back) nm x
 F2: ∀x∈next,x=nm\/x∈seen
 yL: ∀z,(z=nm\/z∈seen)->z∈next\/ ∀y,Edge ls back z y->y∈seen
 few:next.length<=seen.length+1
def WI.len{ls:List gY}{back:Bool}{nm:ByteArray}{seen next:List ByteArray}(h:WI ls back nm seen next):seen.length<=ls.length:=by have:=Nr (QU Bd h.xu) (b:=ls.map fun x=>gU x back) fun x hx=>aea (h.way x hx);simpa using this
def WI.done{ls:List gY}{back:Bool}{nm:ByteArray}{seen:List ByteArray}(h:WI ls back nm seen [])(x:ByteArray):x∈seen↔kT (Edge ls back) nm x:=by
 refine ⟨h.way x,fun hw=> ?_⟩;induction hw with
 | edge e =>
  rcases h.yL _ (.inl rfl) with h1|h1
  ·simp at h1
  ·exact h1 _ e
 | snoc _ e ih =>
  rcases h.yL _ (.inr ih) with h1|h1
  ·simp at h1
  ·exact h1 _ e
structure WJ(ls:List gY)(back:Bool)(nm t:ByteArray)(d:Nat)(seen next:List ByteArray)(j:Nat):Prop where
 xu:lH cU seen
 way: ∀x∈seen,kT (Edge ls back) nm x
 F2: ∀x∈next,x=nm\/x∈seen
 yL: ∀z,(z=nm\/z∈seen)->z∈next\/(z=t/\ ∀i,i<j->wK (nth ls i) back=t->gU (nth ls i) back∈seen)\/ ∀y,Edge ls back z y->y∈seen
 few:next.length<=seen.length
 src:t=nm\/kT (Edge ls back) nm t
 cnt:(ls.length-seen.length)+next.length<=d
 le:j<=ls.length
def WJ.len{ls:List gY}{back:Bool}{nm t:ByteArray}{d j:Nat}{seen next:List ByteArray}(h:WJ ls back nm t d seen next j):seen.length<=ls.length:=by have:=Nr (QU Bd h.xu) (b:=ls.map fun x=>gU x back) fun x hx=>aea (h.way x hx);simpa using this
def WI.start{ls:List gY}{back:Bool}{nm t:ByteArray}{seen next:List ByteArray}(h:WI ls back nm seen (t::next)):WJ ls back nm t (ls.length-seen.length+next.length) seen next 0 where
 xu:=h.xu
 way:=h.way
 F2:=fun x hx=>h.F2 x (by simp [hx])
 yL:=fun z hz=>by
  rcases h.yL z hz with h1|h1
  ·rcases fJ.1 h1 with rfl|h1
   ·exact .inr (.inl ⟨rfl,fun i hi=>absurd hi (by omega)⟩)
   ·exact .inl h1
  ·exact .inr (.inr h1)
 few:=by have:=h.few;simp only [fw] at this;omega
 src:=(h.F2 t (by simp)).imp id (h.way t)
 cnt:=bU _
 le:=fX _
def WJ.skip{ls:List gY}{back:Bool}{nm t:ByteArray}{d j:Nat}{seen next:List ByteArray}(h:WJ ls back nm t d seen next j)(hj:j<ls.length)(hs:wK (nth ls j) back=t->gU (nth ls j) back∈seen):WJ ls back nm t d seen next (j+1) :=
 {h with
  le:=hj
  yL:=fun z hz=>by
   rcases h.yL z hz with h1|⟨rfl,h1⟩|h1
   ·exact .inl h1
   ·refine .inr (.inl ⟨rfl,fun i hi=> ?_⟩);rcases dY i j with h2|h2
    ·exact h1 i h2
    ·obtain rfl:i=j:=by omega
     exact hs
   ·exact .inr (.inr h1)}
def WJ.add{ls:List gY}{back:Bool}{nm t:ByteArray}{d j:Nat}{seen next:List ByteArray}(h:WJ ls back nm t d seen next j)(hj:j<ls.length)(hf:wK (nth ls j) back=t)(hn:gU (nth ls j) back∉seen) :
  WJ ls back nm t d (jW seen (gU (nth ls j) back)) (next++[gU (nth ls j) back]) (j+1):=by
 have he:Edge ls back t (gU (nth ls j) back):=⟨nth ls j,iC hj,hf,rfl⟩;have hw:kT (Edge ls back) nm (gU (nth ls j) back):=by
  rcases h.src with e|hw
  ·rw [e] at he;exact .edge he
  ·exact .snoc hw he
 generalize hs:gU (nth ls j) back=s at *;have hl:(jW seen s).length=seen.length+1:=by
  have h1:=akA (lt:=cU) seen s;have h2:=Nr (a:=s::seen) (b:=jW seen s) (PW.2 ⟨hn,QU Bd h.xu⟩) fun x hx=>by
   rw [Ga];rcases fJ.1 hx with rfl|hx
   ·exact .inr rfl
   ·exact .inl hx
  simp only [fw] at h2;have h1:(jW seen s).length<=seen.length+1:=h1;omega
 have ahF:lH cU (jW seen s):=akz Bd h.xu s;have aiO: ∀x∈jW seen s,kT (Edge ls back) nm x:=fun x hx=>by
  rcases (Ga _ _ _).1 hx with hx|rfl
  ·exact h.way x hx
  ·exact hw
 have hle:(jW seen s).length<=ls.length:=by have:=Nr (QU Bd ahF) (b:=ls.map fun x=>gU x back) fun x hx=>aea (aiO x hx);simpa using this
 refine ⟨ahF,aiO,fun x hx=> ?_,fun z hz=> ?_,?_,h.src,?_,hj⟩
 ·rw [Ga];rcases jx.1 hx with hx|hx
  ·exact (h.F2 x hx).imp id .inl
  ·simp at hx;exact .inr (.inr hx)
 ·have hz':(z=nm\/z∈seen)\/z=s:=by
   rcases hz with hz|hz
   ·exact .inl (.inl hz)
   ·rcases (Ga _ _ _).1 hz with hz|hz
    ·exact .inl (.inr hz)
    ·exact .inr hz
  rcases hz' with hz'|rfl
  ·rcases h.yL z hz' with h1|⟨rfl,h1⟩|h1
   ·exact .inl (by simp [h1])
   ·refine .inr (.inl ⟨rfl,fun i hi hfi=> ?_⟩);rw [Ga];rcases dY i j with h2|h2
    ·exact .inl (h1 i h2 hfi)
    ·obtain rfl:i=j:=by omega
     exact .inr hs
   ·exact .inr (.inr fun y hy=>(Ga _ _ _).2 (.inl (h1 y hy)))
  ·exact .inl (by simp)
 ·have:=h.few;rw [jw,hl];simp;omega
 ·have:=h.cnt;rw [jw,hl];rw [hl] at hle;simp only [fw,zW];omega
def WJ.done{ls:List gY}{back:Bool}{nm t:ByteArray}{d:Nat}{seen next:List ByteArray}(h:WJ ls back nm t d seen next ls.length):WI ls back nm seen next where
 xu:=h.xu
 way:=h.way
 F2:=h.F2
 yL:=fun z hz=>by
  rcases h.yL z hz with h1|⟨rfl,h1⟩|h1
  ·exact .inl h1
  ·refine .inr ?_;rintro y ⟨x,hx,h2,rfl⟩;obtain ⟨i,hi,rfl⟩:=yE hx;have e:nth ls i=ls[i]:=by simp [nth,kK,hi]
   have:=h1 i hi (by rw [e];exact h2)
   rwa [e] at this
  ·exact .inr h1
 few:=by have:=h.few;omega
structure WSt where
 seen:List ByteArray
 next:List ByteArray
structure WSu where
 seen:List ByteArray
 next:List ByteArray
 j:Nat
def afS(s:ByteArray)(l:List ByteArray):qI (ax (s::l)) 1 (((s::l).length:Nat):Int)=ax l:=by simp [qI,ax];exact Cj (by simp)
def aw4{P:Program}{tab:Nat->List CT}{env:List D}{Q:D->List D->Prop}{L:List (List D->Prop)}{c:E}{a b:VC}
  (h:(c.den env).jZ=true) (ha:a.den P tab env Q L):(VC.ite c a b).den P tab env Q L:=⟨fun _=>ha,fun q=>by rw [h] at q;cases q⟩
def aw3{P:Program}{tab:Nat->List CT}{env:List D}{Q:D->List D->Prop}{L:List (List D->Prop)}{c:E}{a b:VC}
  (h:(c.den env).jZ=false) (hb:b.den P tab env Q L):(VC.ite c a b).den P tab env Q L:=⟨fun q=>by rw [h] at q;exact Bool.noConfusion q,fun _=>hb⟩
def Yi(ls:List gY)(nm:ByteArray)(S:List ByteArray)(hA:lH cU S)(hS: ∀x,x∈S↔kT (Edge ls false) nm x)(hl:ls.length<=1000):eA ay 108 none [ax ls,.str nm,.bool false] (ax S) [] [(0,1)]:=by
 refine iT Va amy ⟨zB ls,trivial,trivial,trivial⟩ fun hfit=> ?_;unfold Va;refine p7 WSt (fun s=>[ax s.seen,ax s.next]) (fun s=>WI ls false nm s.seen s.next) (fun s=>(ls.length-s.seen.length)+s.next.length) ⟨[],[nm]⟩ (fun s s' h=> ?_) ?_ ?_ ?_
 ·simp only [Ev] at h;have h1:=congrArg dL h.1;have h2:=congrArg dL h.2.1;rw [uw,uw] at h1 h2;omega
 ·simp only [eS];simp [ax,eB]
 ·exact ⟨HU,by simp,by simp,by simp,by simp⟩
 rintro ⟨seen,next⟩ hI _;simp only at hI;simp only [cA];have hsl:=hI.len;have ZQ:=hI.few;apply aq<;>intro h2<;>simp only [eS] at h2
 ·have h2:0<next.length:=by simp at h2;exact h2
  obtain ⟨t,next,rfl⟩: ∃t r,next=t::r:=by
   cases next with
   | nil=>simp at h2
   | cons t r=>exact ⟨t,r,rfl⟩
  simp only [fw] at ZQ;refine aX (fun _=> ?_) (aX (fun _=> ?_) ?_)
  ·simp only [eS];simp;(try omega)
  ·simp only [eS];simp;(try omega)
  have ht:nth (t::next) 0=t:=rfl;refine p7 WSu (fun s=>[ax s.seen,ax s.next,.int .i64 s.j]) (fun s=>WJ ls false nm t (ls.length-seen.length+next.length) s.seen s.next s.j) (fun s=>ls.length-s.j) ⟨seen,next,0⟩ (fun s s' h=> ?_) ?_ hI.start ?_
  ·simp at h;omega
  ·simp only [eS];rw [afS];rfl
  rintro ⟨sn,nx,j⟩ hJ _;simp only at hJ;simp only [cA];have rT:=hJ.len;have hfn:=hJ.few;have hjl:=hJ.le;apply aq<;>intro h3<;>simp only [eS] at h3
  ·have h3:j<ls.length:=by simp at h3;exact h3
   refine fZ ?_;refine aw3 rfl ?_;refine aF (mH sn (gU (nth ls j) false)) ?_ (ha:=by (simp only [gS,wR,uu,gU];try exact rfl));apply aq<;>intro h4<;>simp only [eS,wR,uu,gW,eB,Int.toNat_zero,ht] at h4
   ·have h4:wK (nth ls j) false=t/\hasB sn (gU (nth ls j) false)=false:=by simpa [wK] using h4
    have hns:gU (nth ls j) false∉sn:=fun hm=>by
     have:hasB sn (gU (nth ls j) false)=true:=by unfold hasB;rw [uf];exact ⟨_,hm,by simp⟩
     rw [this] at h4;simp at h4
    refine fQ (EY sn (gU (nth ls j) false) (by omega)) ?_ (ha:=by (simp only [gS,wR,uu,gU];try exact rfl));refine aX (fun _=> ?_) ?_
    ·simp [E.den];omega
    refine Ij ⟨jW sn (gU (nth ls j) false),nx++[gU (nth ls j) false],j+1⟩ ?_ (hJ.add h3 h4.1 hns) (by simp only;omega);simp only [eS,wR,uu];rw [bW,A9];rfl
   ·refine Ij ⟨sn,nx,j+1⟩ ?_ (hJ.skip h3 fun hf=> ?_) (by simp only;omega)
    ·simp only [eS];rw [bW];rfl
    ·have h5:hasB sn (gU (nth ls j) false)=true:=by have hf':=hf;simp only [wK,xk,xp,vS] at hf';simpa [hf'] using h4
     unfold hasB at h5;rw [uf] at h5;obtain ⟨x,hx,e⟩:=h5;rw [cC] at e;rw [<-e];exact hx
  ·obtain rfl:j=ls.length:=by simp at h3;omega
   refine ⟨⟨sn,nx⟩,rfl,hJ.done,?_⟩;have:=hJ.cnt;simp only [fw];omega
 ·obtain rfl:next=[]:=by cases next<;>simp at h2 ⊢
  refine az ?_;simp only [eS];rw [QT Bd hI.xu hA fun x=>(hI.done x).trans (hS x).symm]
def av0(ls:List gY)(nm:ByteArray)(S:List ByteArray)(hA:lH cU S)(hS: ∀x,x∈S↔kT (Edge ls true) nm x)(hl:ls.length<=1000):eA ay 108 none [ax ls,.str nm,.bool true] (ax S) [] [(0,1)]:=by
 refine iT Va amy ⟨zB ls,trivial,trivial,trivial⟩ fun hfit=> ?_;unfold Va;refine p7 WSt (fun s=>[ax s.seen,ax s.next]) (fun s=>WI ls true nm s.seen s.next) (fun s=>(ls.length-s.seen.length)+s.next.length) ⟨[],[nm]⟩ (fun s s' h=> ?_) ?_ ?_ ?_
 ·simp only [Ev] at h;have h1:=congrArg dL h.1;have h2:=congrArg dL h.2.1;rw [uw,uw] at h1 h2;omega
 ·simp only [eS];simp [ax,eB]
 ·exact ⟨HU,by simp,by simp,by simp,by simp⟩
 rintro ⟨seen,next⟩ hI _;simp only at hI;simp only [cA];have hsl:=hI.len;have ZQ:=hI.few;apply aq<;>intro h2<;>simp only [eS] at h2
 ·have h2:0<next.length:=by simp at h2;exact h2
  obtain ⟨t,next,rfl⟩: ∃t r,next=t::r:=by
   cases next with
   | nil=>simp at h2
   | cons t r=>exact ⟨t,r,rfl⟩
  simp only [fw] at ZQ;refine aX (fun _=> ?_) (aX (fun _=> ?_) ?_)
  ·simp only [eS];simp;(try omega)
  ·simp only [eS];simp;(try omega)
  have ht:nth (t::next) 0=t:=rfl;refine p7 WSu (fun s=>[ax s.seen,ax s.next,.int .i64 s.j]) (fun s=>WJ ls true nm t (ls.length-seen.length+next.length) s.seen s.next s.j) (fun s=>ls.length-s.j) ⟨seen,next,0⟩ (fun s s' h=> ?_) ?_ hI.start ?_
  ·simp at h;omega
  ·simp only [eS];rw [afS];rfl
  rintro ⟨sn,nx,j⟩ hJ _;simp only at hJ;simp only [cA];have rT:=hJ.len;have hfn:=hJ.few;have hjl:=hJ.le;apply aq<;>intro h3<;>simp only [eS] at h3
  ·have h3:j<ls.length:=by simp at h3;exact h3
   refine fZ ?_;refine aw4 rfl ?_;refine aF (mH sn (gU (nth ls j) true)) ?_ (ha:=by (simp only [gS,wR,uu,gU];try exact rfl));apply aq<;>intro h4<;>simp only [eS,wR,uu,gW,eB,Int.toNat_zero,ht] at h4
   ·have h4:wK (nth ls j) true=t/\hasB sn (gU (nth ls j) true)=false:=by simpa [wK] using h4
    have hns:gU (nth ls j) true∉sn:=fun hm=>by
     have:hasB sn (gU (nth ls j) true)=true:=by unfold hasB;rw [uf];exact ⟨_,hm,by simp⟩
     rw [this] at h4;simp at h4
    refine fQ (EY sn (gU (nth ls j) true) (by omega)) ?_ (ha:=by (simp only [gS,wR,uu,gU];try exact rfl));refine aX (fun _=> ?_) ?_
    ·simp [E.den];omega
    refine Ij ⟨jW sn (gU (nth ls j) true),nx++[gU (nth ls j) true],j+1⟩ ?_ (hJ.add h3 h4.1 hns) (by simp only;omega);simp only [eS,wR,uu];rw [bW,A9];rfl
   ·refine Ij ⟨sn,nx,j+1⟩ ?_ (hJ.skip h3 fun hf=> ?_) (by simp only;omega)
    ·simp only [eS];rw [bW];rfl
    ·have h5:hasB sn (gU (nth ls j) true)=true:=by have hf':=hf;simp only [wK,xk,xp,vS] at hf';simpa [hf'] using h4
     unfold hasB at h5;rw [uf] at h5;obtain ⟨x,hx,e⟩:=h5;rw [cC] at e;rw [<-e];exact hx
  ·obtain rfl:j=ls.length:=by simp at h3;omega
   refine ⟨⟨sn,nx⟩,rfl,hJ.done,?_⟩;have:=hJ.cnt;simp only [fw];omega
 ·obtain rfl:next=[]:=by cases next<;>simp at h2 ⊢
  refine az ?_;simp only [eS];rw [QT Bd hI.xu hA fun x=>(hI.done x).trans (hS x).symm]
def avJ(l:List Entry)(s:ByteArray):eA ay 60 none [ax l,.str s] (ax (xU l s)) [] [(0,1)]:=by refine iT anP aGF ⟨rp l,trivial,trivial⟩ fun hfit=> ?_;unfold anP;have:=aaH l;refine fQ (EW l) (hty:=zB _) ?_;refine fQ (Yi (gf l) s _ (Jt l s).1 (Jt l s).2 (by omega)) ?_;exact az rfl
def avD(l:List Entry)(s:ByteArray):eA ay 102 none [ax l,.str s] (ax (qd l s)) [] [(0,1)]:=by refine iT anH aGy ⟨rp l,trivial,trivial⟩ fun hfit=> ?_;unfold anH;have:=aaH l;refine fQ (EW l) (hty:=zB _) ?_;refine fQ (av0 (gf l) s _ (ajP l s).1 (ajP l s).2 (by omega)) ?_;exact az rfl
def ayk{l:List ByteArray}{s:ByteArray}:hasB l s=true↔s∈l:=by
 unfold hasB;rw [uf];constructor
 ·rintro ⟨x,hx,e⟩;rw [cC] at e;rw [<-e];exact hx
 ·intro h;exact ⟨s,h,by simp⟩
def akK{l:List Entry}(hr:cW l=true){i:Nat}(hi:i<l.length):xU l (nth l i).name=fB l (jt l i):=by unfold xU;rw [aA hr,agN hr hi]
def tf(l:List Entry)(i a:Nat):Bool:=pG l a||(decide (a<i)&&jt l a a)
def auN{l:List Entry}(hr:cW l=true){p q:Nat->Bool}:(fB l p).any (hasB (fB l q))=vU (fun j=>p j&&q j) l.length:=by
 rw [Eu,uf,HK];constructor
 ·rintro ⟨x,h1,h2⟩;obtain ⟨j,h3,h4,rfl⟩:=C5.1 h1;rw [Nn hr h3] at h2;exact ⟨j,h3,by rw [h4,h2];rfl⟩
 ·rintro ⟨j,h3,h4⟩;rw [aP] at h4;exact ⟨_,C5.2 ⟨j,h3,h4.1,rfl⟩,by rw [Nn hr h3];exact h4.2⟩
def auO{l:List ByteArray}{p:ByteArray->Bool}{k:Nat}(hk:k<l.length):(l.take (k+1)).any p=((l.take k).any p||p (nth l k)):=by rw [UF l hk,List.any_append];simp
def Q7(l:List Entry):eA ay 138 none [ax l] (ax (oG l)) [] [(0,1)]:=by
 refine iT anV aGK ⟨rp l,trivial⟩ fun hfit=> ?_;unfold anV;refine aF (Ig l) ?_;apply aq<;>intro h<;>simp only [eS] at h
 ·have:cW l=false:=by simpa using h
  exact az (by simp [E.den,oG,this,ax])
 have hr:cW l=true:=by simpa using h
 have h6:=(q9 hr).1;have AF:=aaH l;refine fQ (EW l) (hty:=zB _) ?_;refine fQ (aft l) ?_;refine eZ l.length (fun i=>[ax (fB l (tf l i)),.int .i64 i]) (fun _=>True) ?_ trivial ?_
 ·simp only [eS];unfold FW;rw [aA hr,xP fun a _=>show tf l 0 a=pG l a by simp [tf]];rfl
 intro i hi _ _;simp only [cA];apply aq<;>intro h2<;>simp only [eS] at h2
 ·have h2:i<l.length:=by simp at h2;exact h2
  have hnl:=Ji l (tf l i);refine fZ ?_;refine fQ (Yi (gf l) (nth l i).name _ (Jt l _).1 (Jt l _).2 (by omega)) ?_;refine aF (mH (xU l (nth l i).name) (nth l i).name) ?_;rw [akK hr h2,Nn hr h2];apply aq<;>intro h3<;>simp only [eS] at h3
  ·refine fQ (EY (fB l (tf l i)) (nth l i).name (by omega)) ?_;refine dK h2 ?_ trivial;simp only [eS];rw [bW];show [ax (wP cU (fB l (tf l i)) (nth l i).name),_]=_;rw [ajN hr h2,xP fun a _=>show (tf l i a||decide (a=i))=tf l (i+1) a by
    unfold tf;by_cases e:a=i
    ·subst e;simp [h3]
    ·have:a<i+1↔a<i:=by omega
     simp [e,this]]
   rfl
  ·refine dK h2 ?_ trivial;simp only [eS];rw [bW,xP fun a _=>show tf l i a=tf l (i+1) a by
    unfold tf;by_cases e:a=i
    ·subst e;simp [h3]
    ·have:a<i+1↔a<i:=by omega
     simp [this]]
   rfl
 ·obtain rfl:i=l.length:=by simp at h2;omega
  have hbd:fB l (tf l l.length)=fB l (mE l):=xP fun a ha=>by simp [tf,mE,ha]
  rw [hbd];refine eZ l.length (fun i=>[ax (uM l (kE l) i),.int .i64 i]) (fun _=>True) rfl trivial ?_;intro i hi _ _;simp only [cA];have hnl:=ajK l (kE l) i;apply aq<;>intro h3<;>simp only [eS] at h3
  ·have h3:i<l.length:=by simp at h3;exact h3
   refine fZ ?_;refine aF (mH (fB l (mE l)) (nth l i).name) ?_;refine fQ (Yi (gf l) (nth l i).name _ (Jt l _).1 (Jt l _).2 (by omega)) ?_;rw [akK hr h3,Nn hr h3];have hrl:=Ji l (jt l i);have hany:=auN hr (p:=jt l i) (q:=mE l);generalize hR:fB l (jt l i)=R at hany hrl;refine eZ R.length (fun j=>[.bool (mE l i||(R.take j).any (hasB (fB l (mE l)))),.int .i64 j]) (fun _=>True) ?_ trivial ?_
   ·simp only [eS];simp
   intro j hj _ _;simp only [cA];apply aq<;>intro h4<;>simp only [eS] at h4
   ·have h4:j<R.length:=by simp at h4;exact h4
    refine fZ ?_;refine aF (mH (fB l (mE l)) (nth R j)) ?_;refine dK h4 ?_ trivial;simp only [eS];rw [bW,auO h4, <-Bool.or_assoc];rfl
   ·obtain rfl:j=R.length:=by simp at h4;omega
    rw [vO,hany];have hst:(mE l i||vU (fun j=>jt l i j&&mE l j) l.length)=kE l i:=rfl;rw [hst];apply aq<;>intro h5<;>simp only [eS] at h5
    ·refine aX (fun _=> ?_) ?_
     ·simp [E.den];omega
     refine Rj h3 ?_ trivial;simp only [eS,uZ,nW];rw [bW,ajL,aA h5,A9];rfl
    ·refine Rj h3 ?_ trivial;simp only [eS];rw [bW,ajL,ak (by simp [h5])];rfl
  ·obtain rfl:i=l.length:=by simp at h3;omega
   refine az ?_;simp only [eS];unfold oG;rw [aA hr];rfl
def Gc(ls:List gY)(nm:ByteArray)(done:List ByteArray):Bool:=fz (fun k=> !decide ((nth ls k).jS=nm)||hasB done (nth ls k).to) ls.length
def afA(ls:List gY)(nm:ByteArray)(done:List ByteArray):aH ay 112 none [ax ls,.str nm,ax done] (.bool (Gc ls nm done)) []:=by
 refine cB aoD aHs ⟨zB ls,trivial,lG done,trivial⟩ fun hfit=> ?_;have hl:ls.length<=9223372036854775807:=qM hfit.1;unfold aoD;refine eZ ls.length (fun k=>[.int .i64 k]) (fun k=>fz (fun k=> !decide ((nth ls k).jS=nm)||hasB done (nth ls k).to) k=true) rfl rfl ?_;intro k hk hI _;simp only [cA];apply aq<;>intro h2<;>simp only [eS] at h2
 ·have h2:k<ls.length:=by simp at h2;exact h2
  refine fZ ?_;refine aF (mH done (nth ls k).to) ?_;apply aq<;>intro h3<;>simp only [eS,wR,uu] at h3
  ·have hb:(!decide ((nth ls k).jS=nm)||hasB done (nth ls k).to)=false:=by grind
   refine az ?_;simp only [eS];unfold Gc;rw [xq h2 hb]
  ·have hb:(!decide ((nth ls k).jS=nm)||hasB done (nth ls k).to)=true:=by grind
   refine dK h2 ?_ ?_
   ·simp only [eS];rw [bW];rfl
   ·show (fz _ k&&_)=true;rw [hI];exact hb
 ·obtain rfl:k=ls.length:=by simp at h2;omega
  refine az ?_;simp only [eS];unfold Gc;rw [hI]
def aaT{l:List Entry}(hr:cW l=true){o:List Nat}(ho: ∀x∈o,x<l.length){i:Nat}(hi:i<l.length):hasB (uO l o) (nth l i).name=o.contains i:=by
 rw [Eu,ayk,Xm,cC];unfold uO;rw [gD];constructor
 ·rintro ⟨j,h1,h2⟩
  rwa [<-zo hr (ho j h1) hi h2]
 ·intro h;exact ⟨i,h,rfl⟩
def aDl{l:List Entry}(hr:cW l=true){o:List Nat}(ho: ∀x∈o,x<l.length){i:Nat}(hi:i<l.length):Gc (gf l) (nth l i).name (uO l o)=fz (fun k=> !lE l i k||o.contains k) l.length:=by
 rw [Eu];unfold Gc;rw [mD,mD];have hE: ∀c,c<l.length->(lE l i c=true↔Edge (gf l) false (nth l i).name (nth l c).name):=fun c hc=>by
  rw [FU hr];constructor
  ·intro h;exact ⟨i,c,hi,hc,h,rfl,rfl⟩
  ·rintro ⟨a,b,h1,h2,h3,h4,h5⟩;rw [<-zo hr h1 hi h4, <-zo hr h2 hc h5];exact h3
 constructor
 ·intro h c hc;cases hn:lE l i c with
  | false=>rfl
  | true =>
   obtain ⟨x,hx,h1,h2⟩:=(hE c hc).1 hn;obtain ⟨k,hk,rfl⟩:=yE hx;have e:nth (gf l) k=(gf l)[k]:=by simp [nth,kK,hk]
   have:=h k hk;rw [e] at this;have h1':(gf l)[k].jS=(nth l i).name:=h1;have h2':(gf l)[k].to=(nth l c).name:=h2;rw [h1',h2',aaT hr ho hc] at this;simpa using this
 ·intro h k hk;cases hd:decide ((nth (gf l) k).jS=(nth l i).name) with
  | false=>rfl
  | true => rw [cC] at hd;obtain ⟨a,c,h1,h2,h3,h4,h5⟩:=(FU hr).1 ⟨_,iC hk,hd,rfl⟩;have ha:a=i:=zo hr h1 hi h4;subst ha;have Zg:(nth l c).name=(nth (gf l) k).to:=h5;have:=h c h2;rw [h3] at this;rw [<-Zg,aaT hr ho h2];simpa using this
structure auz where
 o:List Nat
 m:Bool
def avN(l:List Entry):eA ay 61 none [ax l] (ax (rZ l)) [] [(0,1)]:=by
 refine iT anU aGJ ⟨rp l,trivial⟩ fun hfit=> ?_;unfold anU;refine fQ (EW l) (hty:=zB _) ?_;refine fQ (aft l) ?_;refine aF (Ig l) ?_;refine p7 auz (fun s=>[ax (uO l s.o),.bool s.m]) (fun s=>s.o=gV l s.o.length/\(s.m=true->cW l=true)/\(s.m=false->cW l=true->dG (lS l s.o) l.length=none)/\(cW l=false->s.o=[])) (fun s=>if s.m then l.length+1-s.o.length else 0) ⟨[],cW l⟩ (fun s s' h=> ?_) rfl ⟨rfl,id,fun h1 h2=>by simp [h2] at h1,fun _=>rfl⟩ ?_
 ·simp only [Ev] at h;have h1:=congrArg dL h.1;rw [uw,uw,Nq,Nq] at h1;have h2:s.m=s'.m:=by simpa using h.2.1
  rw [h2,show s.o.length=s'.o.length by omega]
 rintro ⟨o,m⟩ ⟨hI,mM,hm2,IZ⟩ _;simp only at hI mM hm2 IZ;simp only [cA];apply aq<;>intro h<;>simp only [eS] at h
 ·have hr:=mM h;have h6:=(q9 hr).1;have hol:=aa3 l o.length;rw [<-hI] at hol;have ho: ∀x∈o,x<l.length:=fun x hx=>Da (k:=o.length) (by rw [<-hI];exact hx);refine eZ l.length (fun i=>[ax (uO l (match dG (lS l o) i with|some j=>o++[j]|none=>o)),.bool (dG (lS l o) i).isSome,.int .i64 i]) (fun _=>True) rfl trivial ?_;intro i hi _ _;simp only [cA];apply aq<;>intro h2<;>simp only [eS] at h2
  ·have h2:i<l.length:=by simp at h2;exact h2
   refine fZ ?_;generalize ho':(match dG (lS l o) i with|some j=>o++[j]|none=>o)=o';refine aF (mH (uO l o') (nth l i).name) ?_;refine aF (mH (FW l) (nth l i).name) ?_;refine aF (afA (gf l) (nth l i).name (uO l o')) ?_;have hms:hasB (FW l) (nth l i).name=pG l i:=by unfold FW;rw [aA hr,Nn hr h2]
   rw [hms];cases hf:dG (lS l o) i with
   | some j =>
    rw [hf] at ho';have hst:dG (lS l o) (i+1)=some j:=by rw [dG,hf]
    apply aq<;>intro h3
    ·simp only [eS] at h3;simp at h3
    ·refine dK h2 ?_ trivial;simp only [eS];rw [bW,hst, <-ho'];rfl
   | none =>
    rw [hf] at ho';have azo:o=o':=ho';subst azo;rw [aaT hr ho h2,aDl hr ho h2];have mc:(!o.contains i&& !pG l i&&fz (fun k=> !lE l i k||o.contains k) l.length)=lS l o i:=rfl;apply aq<;>intro h3<;>simp only [eS,XB,Kv,sS,mc] at h3
    ·have hst:dG (lS l o) (i+1)=some i:=by rw [dG,hf];simp [h3]
     refine aX (fun _=> ?_) ?_
     ·simp [E.den,Nq];omega
     refine dK h2 ?_ trivial;simp only [eS,uZ,nW];rw [bW,hst,A9];simp only [aCr];rfl
    ·have hst:dG (lS l o) (i+1)=none:=by rw [dG,hf];simp [h3]
     refine dK h2 ?_ trivial;simp only [eS];rw [bW,hst];rfl
  ·obtain rfl:i=l.length:=by simp at h2;omega
   cases hf:dG (lS l o) l.length with
   | none => refine ⟨⟨o,false⟩,rfl,⟨hI,fun h=>(by cases h),fun _ _=>hf,IZ⟩,?_⟩;simp only [h,vS,xk,xp];omega
   | some j =>
    have hlen:o.length<l.length:=by have h1:=aa3 l (o.length+1);simp only [gV] at h1;rw [<-hI,hf] at h1;simp at h1;omega
    refine ⟨⟨o++[j],true⟩,rfl,⟨?_,fun _=>hr,fun h=>(by cases h),fun h=>by rw [hr] at h;cases h⟩,?_⟩
    ·show o++[j]=gV l (o++[j]).length;rw [jw];show o++[j]=gV l (o.length+1);simp only [gV];rw [<-hI,hf]
    ·simp only [h,vS,jw,fw,zW];omega
 ·refine az ?_;simp only [eS];unfold rZ;cases hr:cW l with
  | false => rw [IZ hr];rfl
  | true => have:=aCN (l:=l) (k:=o.length) (by rw [<-hI];exact hm2 h hr);rw [aA rfl, <-this, <-hI]
def aCj{α:Type}[Inhabited α]{l l':List α}{k:Nat}(h:nth l k≠nth l' k):l≠l':=fun e=>h (by rw [e])
def aCk{α:Type}{l l':List α}(h:l.length≠l'.length):l≠l':=fun e=>h (by rw [e])
def avV(l l':List ByteArray):aH ay 153 none [ax l,ax l'] (.bool (decide (l=l'))) []:=by
 refine cB an6 aGV ⟨lG l,lG l',trivial⟩ fun hfit=> ?_;have hl:l.length<=9223372036854775807:=qM hfit.1;unfold an6;apply aq<;>intro h<;>simp only [eS] at h
 ·have h:l.length≠l'.length:=by grind
  exact az (by simp [E.den,aCk h])
 have h:l.length=l'.length:=by grind
 refine eZ l.length (fun k=>[.int .i64 k]) (fun k=> ∀i,i<k->nth l i=nth l' i) rfl (by omega) ?_;intro k hk hI _;simp only [cA];apply aq<;>intro h2<;>simp only [eS] at h2
 ·have h2:k<l.length:=by simp at h2;exact h2
  refine fZ ?_;refine fZ ?_;apply aq<;>intro h3<;>simp only [eS,gW,eB] at h3
  ·have h3:nth l k≠nth l' k:=by simpa using h3
   exact az (by simp [E.den,aCj h3])
  ·have h3:nth l k=nth l' k:=by simpa using h3
   refine dK h2 ?_ fun i hi=> ?_
   ·simp only [eS];rw [bW];rfl
   ·rcases dY i k with h'|h'
    ·exact hI i h'
    ·obtain rfl:i=k:=by omega
     exact h3
 ·obtain rfl:k=l.length:=by simp at h2;omega
  exact az (by simp [E.den,YX h hI])
def Bl(p:Part)(k:Nat):List ByteArray:=p.core.kind::(p.aw.take k).map (·.name)
def Ny(p:Part):List ByteArray:=p.core.kind::p.aw.map (·.name)
def aDo(p:Part){k:Nat}(h:k<p.aw.length):Bl p (k+1)=Bl p k++[(nth p.aw k).name]:=by unfold Bl;rw [UF _ h,uj];rfl
def aDn(p:Part)(k:Nat):(Bl p k).length<=k+1:=by unfold Bl;simp;omega
def aDm(p:Part):Bl p p.aw.length=Ny p:=by unfold Bl Ny;rw [vO]
def avK(p:Part)(h:p.aw.length<=1048576):eA ay 154 none [enc p] (ax (Ny p)) [] [(0,1)]:=by
 refine iT anR aGH ⟨lT p,trivial⟩ fun hfit=> ?_;unfold anR;refine eZ p.aw.length (fun k=>[ax (Bl p k),.int .i64 k]) (fun _=>True) ?_ trivial ?_
 ·simp only [eS,ko];simp [Bl,ax,eB]
 intro k hk _ _;simp only [cA];have hl:=aDn p k;apply aq<;>intro h2<;>simp only [eS,ko] at h2
 ·have h2:k<p.aw.length:=by simp at h2;exact h2
  refine fZ ?_;refine aX (fun _=> ?_) ?_
  ·simp [E.den];omega
  refine dK h2 ?_ trivial;simp only [eS,ko,Jw,Ae];rw [bW,A9, <-aDo p h2];rfl
 ·obtain rfl:k=p.aw.length:=by simp at h2;omega
  exact az (by rw [<-aDm];rfl)
def JA(l:List ByteArray)(k:Nat):Bool:=k==0||cU (nth l (k-1)) (nth l k)
def alI(l:List ByteArray):Bool:=fz (JA l) l.length
def Gr(l:List Entry)(up:List ByteArray)(j:Nat):Bool:=match tu l (nth up j) with
 | none=>false
 | some k=> !hasB (up.take j) (nth up j)&&fz (fun i=> !lE l k i||hasB (up.take j) (nth l i).name) l.length
def zC(l:List Entry)(up:List ByteArray):Bool:=fz (Gr l up) up.length
def akM{l:List Entry}(hr:cW l=true)(done:List ByteArray){i:Nat}(hi:i<l.length):Gc (gf l) (nth l i).name done=fz (fun k=> !lE l i k||hasB done (nth l k).name) l.length:=by
 rw [Eu];unfold Gc;rw [mD,mD];constructor
 ·intro h c hc;cases hn:lE l i c with
  | false=>rfl
  | true =>
   obtain ⟨x,hx,h1,h2⟩:=(FU hr).2 ⟨i,c,hi,hc,hn,rfl,rfl⟩;obtain ⟨k,hk,rfl⟩:=yE hx;have e:nth (gf l) k=(gf l)[k]:=by simp [nth,kK,hk]
   have:=h k hk;rw [e] at this;have h1':(gf l)[k].jS=(nth l i).name:=h1;have h2':(gf l)[k].to=(nth l c).name:=h2;rw [h1',h2'] at this;simpa using this
 ·intro h k hk;cases hd:decide ((nth (gf l) k).jS=(nth l i).name) with
  | false=>rfl
  | true => rw [cC] at hd;obtain ⟨a,c,h1,h2,h3,h4,h5⟩:=(FU hr).1 ⟨_,iC hk,hd,rfl⟩;have ha:a=i:=zo hr h1 hi h4;subst ha;have Zg:(nth l c).name=(nth (gf l) k).to:=h5;have:=h c h2;rw [h3] at this;rw [<-Zg];simpa using this
def av5(l:List Entry)(up:List ByteArray)(hr:cW l=true)(nJ:up.length<=4294967296):aH ay 151 none [ax l,ax up] (.bool (zC l up)) []:=by
 refine cB aoO aHD ⟨rp l,lG up,trivial⟩ fun hfit=> ?_;unfold aoO;refine fQ (EW l) (hty:=zB _) ?_;refine eZ up.length (fun j=>[ax (up.take j),.int .i64 j]) (fun j=> ∀i,i<j->Gr l up i=true) rfl (by omega) ?_;intro j hj hI _;simp only [cA];apply aq<;>intro h2<;>simp only [eS] at h2
 ·have h2:j<up.length:=by simp at h2;exact h2
  refine fZ ?_;refine aF (pZ l (nth up j)) ?_;refine aF (mH (up.take j) (nth up j)) ?_;refine aF (afA (gf l) (nth up j) (up.take j)) ?_;apply aq<;>intro h3<;>simp only [eS] at h3
  ·have hb:Gr l up j=false:=by
    unfold Gr;cases hfo:tu l (nth up j) with
    | none=>rfl
    | some k =>
     obtain ⟨hk,hkn⟩:=RD hfo;have hfi:dN l (nth up j)=(k:Int):=by unfold dN;rw [hfo]
     have mc:=akM hr (up.take j) hk;rw [hkn] at mc;rw [hfi,mc] at h3;have h0:decide ((k:Int)<0)=false:=by rw [mZ];omega
     rw [h0,PJ] at h3;show (!hasB (up.take j) (nth up j)&&fz (fun i=> !lE l k i||hasB (up.take j) (nth l i).name) l.length)=false;revert h3;cases hasB (up.take j) (nth up j)<;>cases fz (fun i=> !lE l k i||hasB (up.take j) (nth l i).name) l.length<;>simp
   exact az (by simp [E.den,zC,xq h2 hb])
  ·have hb:Gr l up j=true:=by
    unfold Gr;cases hfo:tu l (nth up j) with
    | none =>
     have hfi:dN l (nth up j)= -1:=by unfold dN;rw [hfo]
     rw [hfi] at h3;simp at h3
    | some k => obtain ⟨hk,hkn⟩:=RD hfo;have mc:=akM hr (up.take j) hk;rw [hkn] at mc;rw [mc] at h3;show (!hasB (up.take j) (nth up j)&&fz (fun i=> !lE l k i||hasB (up.take j) (nth l i).name) l.length)=true;revert h3;cases hasB (up.take j) (nth up j)<;>cases fz (fun i=> !lE l k i||hasB (up.take j) (nth l i).name) l.length<;>simp
   refine aX (fun _=> ?_) ?_
   ·simp [E.den];omega
   refine dK h2 ?_ fun i hi=> ?_
   ·simp only [eS,gW,eB];rw [bW,A9, <-UF _ h2];rfl
   ·rcases dY i j with h6|h6
    ·exact hI i h6
    ·obtain rfl:i=j:=by omega
     exact hb
 ·obtain rfl:j=up.length:=by simp at h2;omega
  have:zC l up=true:=by unfold zC;rw [mD];exact hI
  exact az (by simp [E.den,this])
def NF(h:Host)(i:Nat):Bool:= !decide (dN h.entries (nth h.shut i)<0)&& !hasB h.up (nth h.shut i)
def partAt(h:Host)(i:Nat):Bool:=di (nth h.parts i)&&decide (Ny (nth h.parts i)=(nth h.entries i).recipe)
def Tv(h:Host)(i:Nat):Bool:=gj (nth h.log i)
def CK(h:Host):Bool:=cW h.entries&&decide (h.parts.length=h.entries.length)&&decide (h.log.length<=24)&&alI h.shut&&fz (fun i=> !kE h.entries i) h.entries.length&&fz (partAt h) h.entries.length &&
 fz (NF h) h.shut.length&&fz (Tv h) h.log.length&&zC h.entries h.up
structure sP(h:Host):Prop where
 tK:cW h.entries=true
 len:h.parts.length=h.entries.length
 log:h.log.length<=24
 srt: ∀i,i<h.shut.length->JA h.shut i=true
 stk: ∀i,i<h.entries.length->kE h.entries i=false
 prt: ∀i,i<h.entries.length->partAt h i=true
 sht: ∀i,i<h.shut.length->NF h i=true
 lgs: ∀i,i<h.log.length->Tv h i=true
 zE:zC h.entries h.up=true
def CL{h:Host}:CK h=true↔sP h:=by
 unfold CK alI;simp only [aP,cC,mD,oP];constructor
 ·rintro ⟨⟨⟨⟨⟨⟨⟨⟨a,b⟩,c⟩,d⟩,e⟩,f⟩,g⟩,i⟩,j⟩;exact ⟨a,b,c,d,e,f,g,i,j⟩
 ·rintro ⟨a,b,c,d,e,f,g,i,j⟩;exact ⟨⟨⟨⟨⟨⟨⟨⟨a,b⟩,c⟩,d⟩,e⟩,f⟩,g⟩,i⟩,j⟩
def azs{h:Host}(hn: ¬sP h):CK h=false:=by
 cases hb:CK h with
 | false=>rfl
 | true=>exact absurd (CL.1 hb) hn
def Uc{P:Program}{tab:Nat->List CT}{env:List D}{L:List (List D->Prop)}{h:Host}(hn: ¬sP h):(VC.ret (.lb false) []).den P tab env (fun d bs=>d= .bool (CK h)/\bs=[]) L :=
 az (by rw [azs hn];rfl)
def alP{l:List Entry}(hr:cW l=true):oG l=[]↔ ∀i,i<l.length->kE l i=false:=by
 unfold oG;rw [aA hr];constructor
 ·intro h i hi;cases hs:kE l i with
  | false=>rfl
  | true => have:(nth l i).name∈fB l (kE l):=C5.2 ⟨i,hi,hs,rfl⟩;rw [h] at this;simp at this
 ·intro h;rw [<-ajM l];exact xP h
def avB(h:Host)(hl:h.entries.length<=1048576)(hp: ∀i,i<h.parts.length->(nth h.parts i).aw.length<=1048576)(nJ:h.up.length<=4294967296):aH ay 101 none [enc h] (.bool (CK h)) []:=by
 refine cB anu aGm ⟨vg h,trivial⟩ fun hfit=> ?_;have hf:=hfit.1;simp only [enc,Fits,bB,dW] at hf;have hsl:h.shut.length<=9223372036854775807:=qM (show Fits (ax h.shut) from hf.2.2.2.1);unfold anu;refine aF (Ig h.entries) ?_;refine aF (.fD (Q7 h.entries)) ?_;refine vX (r:= .bool (zC h.entries h.up)) (xs:=[ax h.entries,ax h.up]) ?_ (fun hg=>av5 h.entries h.up ?_ nJ) trivial ?_
 ·simp only [eS,bB]
 ·simp only [cK,fJ,sV,vT,ES,Cn] at hg;simp only [eS,bB] at hg;cases hq:cW h.entries with
  | true=>rfl
  | false=>simp [hq] at hg
 simp only [cA];apply aq<;>intro h1<;>simp only [eS,bB] at h1
 ·refine Uc fun e=> ?_;have e1:=e.tK;have e2:=e.len;have e3:=e.log;have e4:=e.zE;have e5:=(alP e.tK).2 e.stk;rw [e1,e4,e2,e5] at h1;simp at h1;omega
 have hr:cW h.entries=true:=by cases hq:cW h.entries<;>simp [hq] at h1 ⊢
 have qQ:zC h.entries h.up=true:=by cases hq:zC h.entries h.up<;>simp [hq] at h1 ⊢
 rw [hr,qQ] at h1;have h1:(oG h.entries).length=0/\h.parts.length=h.entries.length/\h.log.length<=24:=by simp at h1;obtain ⟨⟨q1,q2⟩,q3⟩:=h1;exact ⟨by simp [q1],by omega,by omega⟩
 obtain ⟨rT,hpl,azc⟩:=h1;have hst:=(alP hr).1 (oR rT);have h6:=(q9 hr).1;refine eZ h.parts.length (fun i=>[.int .i64 i]) (fun i=> ∀a,a<i->partAt h a=true) rfl (by omega) ?_;intro i hi hI _;simp only [cA];apply aq<;>intro h2<;>simp only [eS,bB] at h2
 ·have h2:i<h.parts.length:=by simp at h2;exact h2
  refine aX (fun _=> ?_) ?_
  ·simp only [eS,bB];simp;omega
  refine aF (Yd (nth h.parts i)) ?_;refine aF (.fD (avK (nth h.parts i) (hp i (by omega)))) ?_;refine aX (fun _=> ?_) ?_
  ·simp only [eS,bB];simp;omega
  refine aF (avV (Ny (nth h.parts i)) (nth h.entries i).recipe) ?_;apply aq<;>intro h3<;>simp only [eS] at h3
  ·refine Uc fun e=> ?_;have e2:=e.prt i (by omega);unfold partAt at e2;simp only [aP,cC] at e2;simp [e2] at h3
  ·refine dK h2 ?_ fun a ha=> ?_
   ·simp only [eS];rw [bW];rfl
   ·rcases dY a i with h4|h4
    ·exact hI a h4
    ·obtain rfl:a=i:=by omega
     unfold partAt;simpa using h3
 ·obtain rfl:i=h.parts.length:=by simp at h2;omega
  refine eZ h.shut.length (fun i=>[.int .i64 i]) (fun i=> ∀a,a<i->NF h a=true/\JA h.shut a=true) rfl (by omega) ?_;intro i hi2 hJ _;simp only [cA];apply aq<;>intro h3<;>simp only [eS,bB] at h3
  ·have h3:i<h.shut.length:=by simp at h3;exact h3
   refine aX (fun _=> ?_) ?_
   ·simp only [eS,bB];simp;omega
   refine aF (pZ h.entries (nth h.shut i)) ?_;refine aF (mH h.up (nth h.shut i)) ?_;refine aX (fun hg=> ?_) ?_
   ·simp only [cK,fJ,sV,vT,ES,Cn] at hg;simp only [eS] at hg;simp only [eS,bB];have h0:0<i:=by have:=hg.2;simp at this;omega
    rw [oV];simp;omega
   have hso:(decide ((i:Int)>0)&& !cU (nth h.shut ((dJ .sub .i64 (i:Int) 1).toNat)) (nth h.shut i))= !JA h.shut i:=by
    unfold JA;rcases vP i with rfl|h0
    ·simp
    ·rw [oV,show ((i:Int)-1).toNat=i-1 by omega];have h1:decide ((i:Int)>0)=true:=by rw [cC];omega
     have h2:(i==0)=false:=by rw [XQ];omega
     rw [h1,h2];simp
   apply aq<;>intro h4<;>simp only [eS,bB,gW,eB,hso] at h4
   ·refine Uc fun e=> ?_;have e1:=e.sht i h3;have e2:=e.srt i h3;unfold NF at e1;rw [e2] at h4;revert e1 h4;cases decide (dN h.entries (nth h.shut i)<0)<;>cases hasB h.up (nth h.shut i)<;>simp
   ·refine dK h3 ?_ fun a ha=> ?_
    ·simp only [eS];rw [bW];rfl
    ·rcases dY a i with h5|h5
     ·exact hJ a h5
     ·obtain rfl:a=i:=by omega
      unfold NF;revert h4;cases decide (dN h.entries (nth h.shut a)<0)<;>cases hasB h.up (nth h.shut a)<;>cases JA h.shut a<;>simp
  ·obtain rfl:i=h.shut.length:=by simp at h3;omega
   refine eZ h.log.length (fun i=>[.int .i64 i]) (fun i=> ∀a,a<i->Tv h a=true) rfl (by omega) ?_;intro i hi3 hK _;simp only [cA];apply aq<;>intro h4<;>simp only [eS,bB] at h4
   ·have h4:i<h.log.length:=by simp at h4;exact h4
    refine aX (fun _=> ?_) ?_
    ·simp only [eS,bB];simp;omega
    refine aF (Ya (nth h.log i)) ?_;apply aq<;>intro h5<;>simp only [eS] at h5
    ·refine Uc fun e=> ?_;have e1:gj (nth h.log i)=true:=e.lgs i h4;simp [e1] at h5
    ·refine dK h4 ?_ fun a ha=> ?_
     ·simp only [eS];rw [bW];rfl
     ·rcases dY a i with h7|h7
      ·exact hK a h7
      ·obtain rfl:a=i:=by omega
       unfold Tv;simpa using h5
   ·obtain rfl:i=h.log.length:=by simp at h4;omega
    refine az ?_;simp only [eS];have:CK h=true:=CL.2 ⟨hr,hpl,azc,fun a ha=>(hJ a ha).2,hst,fun a ha=>hI a (by omega),fun a ha=>(hJ a ha).1,hK,qQ⟩;rw [this]
end
section
open Go.RowKit Go
def rl(p:Part)(m:ByteArray):Part:=if cG (gb p) 1 then (ig p (cw m)).1 else p
def cL(h:Host)(s:ByteArray):Nat:=(dN h.entries s).toNat
def Bm(h:Host)(s:ByteArray):Host:={h with parts:=h.parts.set (cL h s) (rl (nth h.parts (cL h s)) mStart),up:=h.up++[s]}
def gm(h:Host)(down:List ByteArray):Nat->List Part×List ByteArray
 | 0=>(h.parts,[])
 | j+1 =>
  let s:=nth h.up (h.up.length-1-j)
  if hasB down s then ((gm h down j).1.set (cL h s) (rl (nth (gm h down j).1 (cL h s)) cM),(gm h down j).2) else ((gm h down j).1,s::(gm h down j).2)
def lN(h:Host)(s:ByteArray):Host :=
 let q:=gm h (jW (qd h.entries s) s) h.up.length
 {h with parts:=q.1,up:=q.2}
def iP(h:Host)(s:ByteArray):Bool:=CK h&& !decide (dN h.entries s<0)&&decide (h.log.length<24)
def nZ(k:Int)(s:ByteArray):Event:=⟨k,s,gB,[]⟩
def tI(h:Host)(e:Event):Host:={h with log:=h.log++[e]}
def z8(h:Host)(s:ByteArray):List ByteArray:=jW (xU h.entries s) s
def mg(h:Host)(all:List ByteArray):Nat->Host
 | 0=>h
 | k+1=>let s:=nth (rZ h.entries) k
  if hasB all s&& !hasB (mg h all k).up s then Bm (mg h all k) s else mg h all k
def vc(h:Host)(s:ByteArray):Bool:=iP h s&& !hasB h.up s&&(z8 h s).all fun x=> !hasB h.shut x
def zu(h:Host)(s:ByteArray):Host:=if vc h s then tI (mg h (z8 h s) (rZ h.entries).length) (nZ 1 s) else h
def xY(h:Host)(s:ByteArray):Bool:=iP h s&&hasB h.up s
def zw(h:Host)(s:ByteArray):Host:=if xY h s then tI (lN h s) (nZ 2 s) else h
def ni(h:Host)(s:ByteArray)(x:Call):Host×gJ×Bool :=
 if iP h s=false\/bZ x=false then (h,rep 7 0 0 0,false)
 else if hasB h.up s=false then (h,rep 2 0 0 0,false)
 else
  let q:=ig (nth h.parts (cL h s)) x
  if q.2.code=1 then (h,q.2,false)
  else
   let g:={h with parts:=h.parts.set (cL h s) q.1}
   let f:=if q.2.code=3 then {lN g s with shut:=jW h.shut s} else g
   (tI f ⟨3,s,x,[]⟩,q.2,true)
def tC(h:Host)(s:ByteArray):Host×gJ :=
 if iP h s=false then (h,rep 7 0 0 0)
 else if hasB h.shut s=false then (h,rep 6 0 0 0)
 else
  let i:=cL h s
  let q:=ig (nth h.parts i) (cw js)
  let p:=if q.2.code=0 then q.1 else (du (nth h.entries i).recipe).1
  (tI {h with parts:=h.parts.set i (rl p cM),shut:=h.shut.filter fun x=> !decide (x=s)} (nZ 4 s),rep 0 (if q.2.code=0 then 1 else 0) 0 0)
def A8(h:Host)(s:ByteArray)(r:List ByteArray):List Entry:=h.entries.set (cL h s) {nth h.entries (cL h s) with recipe:=r}
def ql(h:Host)(s:ByteArray)(r:List ByteArray):Bool:=iP h s&&gO r&& !hasB h.shut s&&decide (gf (A8 h s r)=gf h.entries)&&decide ((oG (A8 h s r)).length=0)
def JC(h:Host)(s:ByteArray)(r:List ByteArray):Part :=
 let i:=cL h s
 let p:=(du r).1
 let p:=if cG (eI (nth (nth h.entries i).recipe 0)) 2&&cG (eI (nth r 0)) 2 then {p with core:={p.core with cells:=(nth h.parts i).core.cells}} else p
 if hasB h.up s then rl p mStart else p
def qk(h:Host)(s:ByteArray)(r:List ByteArray):Host :=
 if ql h s r then tI {h with entries:=A8 h s r,parts:=h.parts.set (cL h s) (JC h s r)} ⟨5,s,gB,r⟩ else h
def wN(h:Host)(e:Event):Host×Bool :=
 if e.kind=1 then (zu h e.name,vc h e.name)
 else if e.kind=2 then (zw h e.name,xY h e.name)
 else if e.kind=3 then ((ni h e.name e.call).1,(ni h e.name e.call).2.2)
 else if e.kind=4 then ((tC h e.name).1,decide ((tC h e.name).2.code=0))
 else (qk h e.name e.recipe,ql h e.name e.recipe)
end
section
open Go.RowKit Go
variable [GC]
def F8(l:List Cell):List (ByteArray×Int):=l.map fun c=>(c.key,c.val)
def pH(l:List vF):List (ByteArray×Int):=l.map fun c=>(c.name,c.count)
def tL(x:ByteArray×Int):List D:=[.str x.1,.int .i64 x.2]
def akr(l:List Cell):(F8 l).map tL=l.map aE.cells:=by simp [F8,tL,lY,PK]
def akt(l:List vF):(pH l).map tL=l.map aE.cells:=by simp [pH,tL,Ae,PK]
def Jp(l:List vF):(pH l).length=l.length:=by simp [pH]
def aCw{α β:Type}[Inhabited α][Inhabited β](f:α->β){l:List α}{k:Nat}(h:k<l.length):nth (l.map f) k=f (nth l k):=by simp [nth,kK,h]
def aks{l:List vF}{k:Nat}(h:k<l.length):nth (pH l) k=((nth l k).name,(nth l k).count):=aCw _ h
def pOk(x:ByteArray×Int):Prop:=x.1.size<=maxLen/\IntKind.i64.min<=x.2/\x.2<=IntKind.i64.max
def kI(K:Nat->Prop)(w:World)(g:Nat)(S:Value)(l:List (ByteArray×Int)):Prop :=
 ∃a cap,S= .slice a l.length cap/\l.length<=cap/\cap<=maxLen/\(a=none->cap=0)/\(∀x∈l,pOk x) /\
  ∀b o s,a=some ⟨b,o,s⟩->0<cap->s=none/\K b/\b≠g/\ ∃cells T,w.heap[b]? =some (.cells cells T (0,0))/\o+cap*2<=cells.size /\
   ∀i,i<l.length->cells[o+i*2]? =some (.string (nth l i).1)/\cells[o+i*2+1]? =some (.int .i64 (nth l i).2)
def kI.keep{K K':Nat->Prop}{w w':World}{g:Nat}{S:Value}{l:List (ByteArray×Int)}(h:kI K w g S l)(hw: ∀b,eX S b->w'.heap[b]? =w.heap[b]?)(hK: ∀b,K b->K' b):kI K' w' g S l:=by obtain ⟨a,cap,rfl,h1,h2,h3,h4,h5⟩:=h;refine ⟨a,cap,rfl,h1,h2,h3,h4,fun b o s e hc=> ?_⟩;obtain ⟨q1,q2,q3,cells,T,q4,q5⟩:=h5 b o s e hc;exact ⟨q1,hK _ q2,q3,cells,T,by rw [hw b ⟨o,s,_,cap,by rw [e],hc⟩];exact q4,q5⟩
def kI.out{K:Nat->Prop}{w:World}{g:Nat}{S:Value}{l:List (ByteArray×Int)}(h:kI K w g S l){b:Nat}(hb:eX S b):K b/\b≠g/\b<w.heap.size:=by obtain ⟨a,cap,rfl,h1,h2,h3,h4,h5⟩:=h;obtain ⟨o,s,len,cap',e,hc⟩:=hb;simp only [gF] at e;obtain ⟨rfl,rfl,rfl⟩:=e;obtain ⟨q1,q2,q3,cells,T,q4,q5⟩:=h5 b o s rfl hc;exact ⟨q2,q3,(rD.1 q4).1⟩
def kI.at{K:Nat->Prop}{w:World}{g:Nat}{S:Value}{l:List (ByteArray×Int)}(h:kI K w g S l){i:Nat}(hi:i<l.length) :
  ∃b o cap,S= .slice (some ⟨b,o,none⟩) l.length cap/\K b/\b≠g/\eX S b/\w.cell? ⟨b,o+i*2,none⟩=some (.string (nth l i).1)/\w.cell? ⟨b,o+i*2+1,none⟩=some (.int .i64 (nth l i).2)/\(∀x y,w.frozen? ⟨b,x,y⟩=false)/\b<w.heap.size:=by
 have h0:=h;obtain ⟨a,cap,rfl,h1,h2,h3,h4,h5⟩:=h;rcases a with _|⟨b,o,s⟩
 ·have:=h3 rfl;omega
 ·have hc:0<cap:=by omega
  obtain ⟨rfl,q2,q3,cells,T,q4,q5,q6⟩:=h5 b o s rfl hc;refine ⟨b,o,cap,rfl,q2,q3,⟨o,none,_,cap,rfl,hc⟩,?_,?_,fun x y=> ?_,(rD.1 q4).1⟩
  ·simp only [World.cell?,q4];exact (q6 i hi).1
  ·simp only [World.cell?,q4];exact (q6 i hi).2
  ·unfold World.frozen?;rw [q4];simp
def kI.aBA{K:Nat->Prop}{w:World}{g:Nat}{S:Value}{l:List (ByteArray×Int)}(h:kI K w g S l): ∃a cap,S= .slice a l.length cap/\l.length<=cap/\cap<=maxLen:=by obtain ⟨a,cap,rfl,h1,h2,_⟩:=h;exact ⟨a,cap,rfl,h1,h2⟩
def kI.put{K:Nat->Prop}{w:World}{g:Nat}{l:List (ByteArray×Int)}{b o cap:Nat}{s:Option Nat}(h:kI K w g (.slice (some ⟨b,o,s⟩) l.length cap) l){i:Nat}(hi:i<l.length){v:Int}(hv:IntKind.i64.min<=v/\v<=IntKind.i64.max) :
  kI K (w.setCell ⟨b,o+i*2+1,none⟩ (.int .i64 v)) g (.slice (some ⟨b,o,s⟩) l.length cap) (l.set i ((nth l i).1,v)):=by
 obtain ⟨a,cap',e,h1,h2,h3,h4,h5⟩:=h;cases e;refine ⟨_,cap,by rw [uh],by rw [uh];exact h1,h2,(fun e=>by cases e),fun x hx=> ?_,fun b' o' s' e hc=> ?_⟩
 ·rcases sU hx with hx|rfl
  ·exact h4 x hx
  ·exact ⟨(h4 _ (iC hi)).1,hv⟩
 ·cases e;obtain ⟨q1,q2,q3,cells,T,q4,q5,q6⟩:=h5 b o s rfl hc;refine ⟨q1,q2,q3,cells.setIfInBounds (o+i*2+1) (.int .i64 v),T,?_,by simpa using q5,fun j hj=> ?_⟩
  ·unfold World.setCell;simp [G9,q4]
  ·rw [uh] at hj;obtain ⟨z1,z2⟩:=q6 j hj;rw [TG _ _ _ _ hi];constructor
   ·rw [aeR (by omega),z1];split
    ·rename_i e;rw [e]
    ·rfl
   ·by_cases e:j=i
    ·subst e;have hlt:=(rD.1 z2).1;rw [aA rfl,Array.getElem?_setIfInBounds_self_of_lt hlt]
    ·rw [ak e,aeR (by omega),z2]
def aeE{K:Nat->Prop}{w:World}{M:Addr->Prop}{g B:Nat}{S:Value}{l:List (ByteArray×Int)}(hr:R w M (.sl (l.map tL)) S)(hl:Pz B w S 2)(hK: ∀b,B<=b->b<w.heap.size->K b)(hg: ∀b,B<=b->b<w.heap.size->b≠g):kI K w g S l:=by
 have hr0:=hr;have hn: ∀r∈l.map tL,r.length=2:=fun r hr=>by obtain ⟨x,_,rfl⟩:=gD.1 hr;rfl
 obtain ⟨a,len,cap,rfl,h1,h2,h3,h4,h5⟩:=hr;rw [cV] at h1;subst h1;refine ⟨a,cap,rfl,h2,h3,h4,fun x hx=> ?_,fun b o s e hc=> ?_⟩
 ·have hf:=Kl _ _ hr0;have: ∀(rows:List (List D)),Kf rows-> ∀r∈rows,dW r:=by
   intro rows;induction rows with
   | nil=>intro _ r hr;cases hr
   | cons a t ih=>intro h r hr;rcases fJ.1 hr with rfl|hr;exact h.1;exact ih h.2 r hr
  have:=this _ hf.2 _ (gD.2 ⟨x,hx,rfl⟩);exact ⟨this.1,this.2.1.1,this.2.1.2⟩
 ·subst e;obtain ⟨q1,q2,cells,T,q3,q4⟩:=hl b o s _ cap rfl hc;have hlt:=(rD.1 q3).1;refine ⟨q1,hK b q2 hlt,hg b q2 hlt,cells,T,q3,q4,fun i hi=> ?_⟩;have hrow:(l.map tL)[i]? =some (tL (nth l i)):=by rw [iI,cO hi];simp [nth,hi]
  obtain ⟨u0,c1,_,c2⟩:=IE hn hr0 hrow (j:=0) rfl;obtain ⟨u1,d1,_,d2⟩:=IE hn hr0 hrow (j:=1) rfl;simp only [World.cell?,q3] at c1 d1;have c3:u0=_:=c2.1;have d3:u1=_:=d2.1;subst c3 d3;exact ⟨by simpa using c1,by simpa using d1⟩
def kI.rd{K:Nat->Prop}{w:World}{M:Addr->Prop}{g:Nat}{S:Value}{l:List (ByteArray×Int)}(h:kI K w g S l)(hM: ∀b o cap i,S= .slice (some ⟨b,o,none⟩) l.length cap->K b->i<l.length*2-> ¬M ⟨b,o+i,none⟩):R w M (.sl (l.map tL)) S:=by
 have hn: ∀r∈l.map tL,r.length=2:=fun r hr=>by obtain ⟨x,_,rfl⟩:=gD.1 hr;rfl
 obtain ⟨a,cap,rfl,h1,h2,h3,h4,h5⟩:=h;rcases a with _|⟨b,o,s⟩
 ·have:l=[]:=oR (by have:=h3 rfl;omega);subst this;exact ⟨none,_,cap,rfl,rfl,h1,h2,h3,fun b o s e=>by cases e⟩
 ·refine Ma hn (by simp) h1 h2 (fun hl=>(h5 b o s rfl (by omega)).1) fun i j r d hi hj=> ?_;have hil:i<l.length:=by have:=(dQ.1 hi).1;simpa using this
  obtain ⟨rfl,q2,q3,cells,T,q4,q5,q6⟩:=h5 b o s rfl (by omega);have hx:=h4 _ (iC hil);have hr:r=tL (nth l i):=by rw [iI,cO hil] at hi;cases hi;simp [nth,hil]
  subst hr
  match j,hj with
  | 0,hj=>cases hj;exact ⟨_,by simp only [World.cell?,q4];exact (q6 i hil).1,hM b o cap (i*2) rfl q2 (by omega),rfl,hx.1⟩
  | 1,hj=>cases hj;exact ⟨_,by simp only [World.cell?,q4];exact (q6 i hil).2,by have:=hM b o cap (i*2+1) rfl q2 (by omega);rwa [<-zX] at this,rfl,hx.2⟩
def ZK{w:World}{q:Addr}{v:Value}{b:Nat}(h:b≠q.block):(w.setCell q v).heap[b]? =w.heap[b]? :=by unfold World.setCell;simp only [G9];rw [ak (fun e=>h e.symm)]
section
structure PB(K:Nat->Prop)(w:World)(g:Nat)(S2:Value)(p:Part):Prop where
 gi:mT w/\NG<=w.heap.size
 kb: ∀b,K b->NG<=b/\b<w.heap.size
 kg:K g
 bx: ∃S1,aC w g 58 #[.string p.core.kind,.bool p.core.on,.bool p.core.broken,S1,.int .i64 p.core.count,S2]/\kI K w g S1 (F8 p.core.cells)/\ ∀b,eX S1 b-> ¬eX S2 b
 ly:kI K w g S2 (pH p.aw)
 ks:p.core.kind.size<=maxLen
 ct:IntKind.i64.min<=p.core.count/\p.core.count<=IntKind.i64.max
structure dF(K:Nat->Prop)(w w':World):Prop where
 os:w'.os=w.os
 tape:w'.tape=w.tape
 output:w'.output=w.output
 size:w.heap.size<=w'.heap.size
 block: ∀b,b<w.heap.size-> ¬K b->w'.heap[b]? =w.heap[b]?
def dF.refl(K:Nat->Prop)(w:World):dF K w w:=⟨rfl,rfl,rfl,bU _,fun _ _ _=>rfl⟩
def dF.Dv{K:Nat->Prop}{a b c:World}(h:dF K a b)(k:dF K b c):dF K a c :=
 ⟨k.os.trans h.os,k.tape.trans h.tape,k.output.trans h.output,dq h.size k.size,fun i hi hn=>(k.block i (dm hi h.size) hn).trans (h.block i hi hn)⟩
def dF.below{K:Nat->Prop}{a b:World}(h:Below a.heap.size a b):dF K a b:=⟨h.os,h.tape,h.output,h.size,fun i hi _=>h.block i hi⟩
def dF.Br{K:Nat->Prop}{a b:World}{B:Nat}(h:dF K a b)(hB:B<=a.heap.size)(hK: ∀b,K b->B<=b):Below B a b:=⟨h.os,h.tape,h.output,h.size,fun i hi=>h.block i (dm hi hB) fun hk=>by have:=hK i hk;omega⟩
section
variable {K K':Nat->Prop}{w w':World}{g:Nat}{S2:Value}{p:Part}
def PB.glt(h:PB K w g S2 p):g<w.heap.size:=(h.kb _ h.kg).2
def giK(h:mT w/\NG<=w.heap.size){q:Addr}{v:Value}(hq:NG<=q.block):mT (w.setCell q v)/\NG<=(w.setCell q v).heap.size:=by refine ⟨h.1.keep fun k hk=> ?_,by simpa using h.2⟩;exact ZK (by omega)
end
end
end
section
open Go.RowKit
section
variable {P:Program}{o:Oper}{a:Act}{C:World->Prop}{K:Act->Prop}
end
end
section
open Go.RowKit Go
variable [GC]
def sI:(∀{α:Type} {l:List α} {i:Nat} {a:α},l.toArray.setIfInBounds i a=(l.set i a).toArray)/\(∀{α:Type} {x b:α} {xs:List α},(x::xs).set 0 b=b::xs)/\(∀{α:Type} {x:α} {n:Nat} {xs:List α} {b:α},(x::xs).set (n+1) b=x::xs.set n b):=⟨by intros;simp,by intros;rfl,by intros;rfl⟩
def rzs{w:World}{b:Nat}{T:TypeId}(h:aC w b T #[.int .i64 0,.int .i64 0,.string ⟨#[]⟩,.int .i64 0,.int .i64 0]):w.cell? ⟨b,0,none⟩=some (.int .i64 0)/\w.cell? ⟨b,1,none⟩=some (.int .i64 0)/\w.cell? ⟨b,2,none⟩=some (.string ⟨#[]⟩)/\w.cell? ⟨b,3,none⟩=some (.int .i64 0)/\w.cell? ⟨b,4,none⟩=some (.int .i64 0)/\ ∀i,w.frozen? ⟨b,i,none⟩=false:=⟨by rw [h.cell];rfl,by rw [h.cell];rfl,by rw [h.cell];rfl,by rw [h.cell];rfl,by rw [h.cell];rfl,h.frozen⟩
def oZ(x:Call):Value:= .agg #[.string x.method,.string x.key,.int .i64 x.val,.string x.text]
def akZ(r:gJ):Value:= .agg #[.int .i64 r.code,.int .i64 r.val,.string r.text,.int .i64 r.want,.int .i64 r.had]
structure GX(x:Call):Prop where
 method:x.method.size<=maxLen
 key:x.key.size<=maxLen
 val:IntKind.i64.min<=x.val/\x.val<=IntKind.i64.max
 text:x.text.size<4294967281
structure St(K:Nat->Prop)(w:World)(g:Nat)(S2:Value)(K':Nat->Prop)(p:Part)(wi:World):Prop where
 pb:PB K' wi g S2 p
 nb:NG<=w.heap.size
 sub: ∀b,K' b->K b\/(w.heap.size<=b/\b<wi.heap.size)
 fr:dF K w wi
section
variable {K K':Nat->Prop}{w wi wj:World}{g:Nat}{S2:Value}{p q:Part}
def dF.fj{a b c:World}(h:dF K a b)(k:Below b.heap.size b c):dF K a c :=
 ⟨k.os.trans h.os,k.tape.trans h.tape,k.output.trans h.output,dq h.size k.size,fun i hi hn=>(k.block i (dm hi h.size)).trans (h.block i hi hn)⟩
def dF.aFp{a b:World}(h:dF K a b){q:Addr}(v:Value)(hq:K q.block\/a.heap.size<=q.block):dF K a (b.setCell q v) :=
 ⟨h.os,h.tape,h.output,by simpa using h.size,fun i hi hn=>(ZK (fun e=>by rcases hq with hq|hq;exact hn (e▸hq);omega)).trans (h.block i hi hn)⟩
end
def bP:Array Value:= #[.int .i64 0,.int .i64 0,.string ⟨#[]⟩,.int .i64 0,.int .i64 0]
def toList_inj{a b:ByteArray}(h:a.toList=b.toList):a=b:=by have:=Gq a b;rw [h] at this;simpa using this.symm
def aC.kr{K:Nat->Prop}{w w':World}{b:Nat}{T:TypeId}{cs:Array Value}(h:aC w b T cs)(hf:dF K w w')(hk: ¬K b):aC w' b T cs:=(hf.block b h.lt hk).trans h
def eC(r:gJ):Array Value:= #[.int .i64 r.code,.int .i64 r.val,.string r.text,.int .i64 r.want,.int .i64 r.had]
def TQ{m:ByteArray}(h:m.size<=maxLen):GX (cw m):=⟨h,show aV.size<=maxLen by unfold maxLen;decide,show IntKind.i64.min<=(0:Int)/\(0:Int)<=IntKind.i64.max by decide,show aV.size<4294967281 by decide⟩
def dF.one{K:Nat->Prop}{a b c:World}{g:Nat}(h:dF K a b)(ho:bN b c g)(hg:K g\/a.heap.size<=g):dF K a c :=
 ⟨ho.os.trans h.os,ho.tape.trans h.tape,ho.output.trans h.output,by rw [ho.size];exact h.size,fun i hi hn=>(ho.block i (fun e=>by rcases hg with hg|hg;exact hn (e▸hg);omega)).trans (h.block i hi hn)⟩
def jL(r:gJ): ∀u∈(eC r).toList,u.oneCell'=true:=by intro u hu;simp [eC] at hu;rcases hu with rfl|rfl|rfl|rfl|rfl<;>rfl
def RH:n9 ay 58 0=some 0:=by kernel_rfl
def CA:n9 ay 58 1=some 5:=by kernel_rfl
def Cz:n9 ay 25 0=some 0:=by kernel_rfl
def Y7:n9 ay 25 2=some 2:=by kernel_rfl
def axK:n9 ay 97 0=some 0:=by kernel_rfl
def IG:n9 ay 97 1=some 1:=by kernel_rfl
def Fh:n9 ay 111 0=some 0:=by kernel_rfl
def agX:n9 ay 111 1=some 1:=by kernel_rfl
def Fe:xz ay 56=some 2:=by kernel_rfl
def jI:(ay.info? 111).bind (·.zero)=some (.agg bP):=by kernel_rfl
def cu:(ay.info? 111).map (·.size)=some 5:=by kernel_rfl
def wJ:(ay.info? 25).map (·.size)=some 4:=by kernel_rfl
def aat:(ay.info? 3).map (·.size)=some 1:=by kernel_rfl
def ae8(v:Int):tg ay 111 [(1,.int .i64 v)]=some (eC (rep 0 v 0 0)):=by kernel_rfl
def XV(v:Int):tg ay 111 [(0,.int .i64 v)]=some (eC (rep v 0 0 0)):=by kernel_rfl
end
section
open Go
section
variable {P:Program}{ops:Array Oper}{Q:Exit->Act->World->Prop}{md:Region.Mode}{S:World->Prop}{s:Nat}
def qF(P:Program)(md:Region.Mode)(ops:Array Oper)(Q:Exit->Act->World->Prop)(S:World->Prop)(s:Nat):Nat->Array Bool->Act->World->Prop
 | 0,L,a,w=>Region.ready md ops L=[]/\Q .normal a w
 | n+1,L,a,w=>(Region.ready md ops L=[]->Q .normal a w) /\
  ∀i∈Region.ready md ops L,wpOp P ops Q i (fun a' w'=>(i≠s->S w')/\qF P md ops Q S s n (L.setIfInBounds i true) a' w') a w
def aeZ: ∀(n:Nat) (L:Array Bool) (a:Act) (w:World),qF P md ops Q S s n L a w->wpAny P md ops Q n L a w
 | 0,_,_,_,h=>h
 | n+1,_,_,_,h=>⟨h.1,fun i hi=>wpOp_mono (fun a' w' h'=>aeZ n _ a' w' h'.2) (h.2 i hi)⟩
def GY(md:Region.Mode)(ops:Array Oper)(L:Array Bool):Prop :=
 ∀k ok,ops[k]? =some ok->L.getD k false=true-> ∀e∈ok.after,Region.binds md e=true->L.getD e.on false=true
def GY.put{L:Array Bool}(h:GY md ops L){i:Nat}(hi:i∈Region.ready md ops L):GY md ops (L.setIfInBounds i true):=fun k ok hk hl e he hb=>by
 by_cases hki:i=k
 ·subst hki;obtain ⟨_,o,ho,hall⟩:=mem_ready.1 hi;rw [hk] at ho;cases ho;exact getD_set_true (hall e he hb)
 ·rw [getD_set_ne false hki] at hl;exact getD_set_true (h k ok hk hl e he hb)
def E4(md:Region.Mode)(ops:Array Oper)(L:Array Bool):Bool :=
 (List.range ops.size).all fun k=> !(L.getD k false)||((ops[k]?).map fun o=>o.after.all fun e=> !Region.binds md e||L.getD e.on false).getD true
def aww{L:Array Bool}(h:E4 md ops L=true):GY md ops L:=fun k ok hk hl e he hb=>by have h1:=fO.1 h k (pW.2 (rD.1 hk).1);simp only [hl,hk,Bool.not_true,PJ,jP,mX] at h1;have h2:=PI.1 h1 e he;simpa [hb] using h2
def preB(md:Region.Mode)(ops:Array Oper):Nat->Nat->Nat->Bool
 | 0,_,_=>false
 | n+1,i,s=>match ops[s]? with
  | none=>false
  | some o=>o.after.any fun e=>Region.binds md e&&(e.on==i||preB md ops n i e.on)
def aCZ{L:Array Bool}(hc:GY md ops L){i:Nat}: ∀(n s:Nat),preB md ops n i s=true ->
  (∀o,ops[s]? =some o-> ∀e∈o.after,Region.binds md e=true->L.getD e.on false=true)->L.getD i false=true:=by
 intro n;induction n with
 | zero=>intro s h;cases h
 | succ n ih =>
  intro s h hs;simp only [preB] at h;cases ho:ops[s]? with
  | none=>rw [ho] at h;cases h
  | some o =>
   rw [ho] at h;obtain ⟨e,he,hb⟩:=Array.any_eq_true'.1 h;simp only [aP,gK,um] at hb;have hl:=hs o ho e he hb.1;rcases hb.2 with h2|h2
   ·rw [<-h2];exact hl
   ·exact ih e.on h2 (fun o' ho'=>hc e.on o' ho' hl)
def auM{i:Nat}{oi:Oper}{v:Value}(hi:ops[i]? =some oi)(hsel: ∀(j:Nat) (o:Oper) cs b,ops[j]? =some o->o.op≠ .select cs b)
  (hQ: ∀c a w,Q (.panic c) (a.put oi.dst v) w->Q (.panic c) a w) (his:i≠s) (m:Nat) (hp:preB md ops m i s=true) :
  ∀(n:Nat) (L:Array Bool) (a:Act) (w:World),
   (∀j oj,ops[j]? =some oj->j≠i->L.getD j true=false->(∀e∈oj.after,Region.binds md e=true->e.on≠i)->oi.apart ops oj=true) ->
   i∈Region.ready md ops L->YieldsIf P ops S oi v a->S w->GY md ops L ->
   qF P md ops Q S s n (L.setIfInBounds i true) (a.put oi.dst v) w->qF P md ops Q S s (n+1) L a w:=by
 intro n;induction n with
 | zero =>
  intro L a w _ hr hy hS _ H;refine ⟨fun h=>(by rw [h] at hr;cases hr),fun j hj=> ?_⟩;by_cases hji:j=i
  ·subst hji;exact hy.wpOp hi hS ⟨fun _=>hS,H⟩
  ·have:=ready_mono hj hji;rw [H.1] at this;cases this
 | succ n ih =>
  intro L a w hfree hr hy hS hc H;refine ⟨fun h=>(by rw [h] at hr;cases hr),fun j hj=> ?_⟩;by_cases hji:j=i
  ·subst hji;exact hy.wpOp hi hS ⟨fun _=>hS,H⟩
  ·have hun:=(mem_ready.1 hr).1;have hni:L.getD i false≠true:=fun h1=>by
    rcases dY i L.size with h'|h'
    ·simp [h'] at hun h1;rw [hun] at h1;cases h1
    ·simp [yC h'] at h1
   have hjs:j≠s:=fun e=>by subst e;obtain ⟨_,oj,hoj,hall⟩:=mem_ready.1 hj;exact hni (aCZ hc m j hp (fun o ho=>by rw [hoj] at ho;cases ho;exact hall))
   have h1:=H.2 j (ready_mono hj hji);obtain ⟨hjun,oj,hoj,hall⟩:=mem_ready.1 hj;have hnot: ∀e∈oj.after,Region.binds md e=true->e.on≠i:=fun e he hb heq=>hni (by rw [<-heq];exact hall e he hb);have h2:=wpOp_putIf hoj (hfree j oj hoj hji hjun hnot) (fun cs b=>hsel i oi cs b hi) (fun cs b=>hsel j oj cs b hoj) hQ hy h1;refine wpOp_mono (fun a' w' h3=>⟨h3.2.1,ih (L.setIfInBounds j true) a' w' (fun k ok hk hki aiB hno=> ?_) (ready_mono hr (zY hji)) h3.1 (h3.2.1 hjs) (hc.put hj) ?_⟩) h2
   ·refine hfree k ok hk hki ?_ hno;by_cases hjk:j=k
    ·subst hjk;exact hjun
    ·rw [getD_set_ne true hjk] at aiB;exact aiB
   ·rw [Array.setIfInBounds_comm _ _ hji];exact h3.2.2
def aeY{i:Nat}{oi:Oper}{v:Value}{n:Nat}{L:Array Bool}{a:Act}{w:World}(hi:ops.toList[i]? =some oi)
  (hs:Region.noSelect ops=true) (hf:Region.free md ops L i=true) (hr:(Region.ready md ops L).contains i=true)
  (hp:(preB md ops 30 i s&& !(i==s)&&E4 md ops L)=true)
  (hQ: ∀c a w,Q (.panic c) (a.put oi.dst v) w->Q (.panic c) a w) (hy:YieldsIf P ops S oi v a) (hS:S w)
  (h:qF P md ops Q S s n (L.setIfInBounds i true) (a.put oi.dst v) w):qF P md ops Q S s (n+1) L a w:=by
 simp only [aP,oP,XQ] at hp;exact auM (by rw [<-yD];exact hi) (Region.noSelect_spec hs) hQ hp.1.2 30 hp.1.1 n L a w (Region.free_spec (by rw [<-yD];exact hi) hf) (by simpa using hr) hy hS (aww hp.2) h
def Kr(P:Program)(md:Region.Mode)(ops:Array Oper)(Q:Exit->Act->World->Prop)(S:World->Prop)(s n:Nat)(L:Array Bool)(a:Act)(w:World)(i:Nat)(o:Oper):Prop :=
 ∀K':Act->World->Prop,(∀a' w',(i≠s->S w')->((i≠s->S w')->qF P md ops Q S s n (L.setIfInBounds i true) a' w')->K' a' w') ->
  if Region.wanted o (yielded ops a.tmps)=true then Oper.wp P o a w K' Q else K' (a.put o.dst undef) w
def Kr.op{i:Nat}{o:Oper}{n:Nat}{L:Array Bool}{a:Act}{w:World}(ho:ops[i]? =some o)
  (h:Kr P md ops Q S s n L a w i o):wpOp P ops Q i (fun a' w'=>(i≠s->S w')/\qF P md ops Q S s n (L.setIfInBounds i true) a' w') a w:=by
 have:=h (fun a' w'=>(i≠s->S w')/\qF P md ops Q S s n (L.setIfInBounds i true) a' w') (fun a' w' h1 h2=>⟨h1,h2 h1⟩);unfold wpOp;rw [ho];show if Region.wanted o (yielded ops a.tmps)=true then _ else _;split
 ·rename_i hw;rw [aA hw] at this;exact .inl this
 ·rename_i hw;rw [ak hw] at this;exact this
def HL{i:Nat}{o:Oper}{n:Nat}{L:Array Bool}{a:Act}{w:World}(ho:ops.toList[i]? =some o)(hr:Region.ready md ops L=[i])
  (h:Kr P md ops Q S s n L a w i o):qF P md ops Q S s (n+1) L a w :=
 ⟨fun e=>(by rw [hr] at e;cases e),fun j hj=>by have hj':=hj;rw [hr] at hj';cases nV.1 hj';exact h.op (by rw [<-yD];exact ho)⟩
def auL{L:Array Bool}{a:Act}{w:World}(hr:Region.ready md ops L=[])(h:Q .normal a w): ∀n,qF P md ops Q S s n L a w
 | 0=>⟨hr,h⟩
 | _+1=>⟨fun _=>h,by rw [hr];simp⟩
def aIj{id:Nat}{a:Act}{w:World}(S:World->Prop)(s:Nat)(hm:P.follows .mixedOrders=true)(hS:S w.drew)
  (h:S w.drew->qF P .any ops Q S s ops.size (Array.replicate ops.size false) a w.drew):(Code.region id ops true).wp P Q a w :=
 wp_region_any hm (aeZ _ _ _ _ (h hS))
end
end
end Go.Proofs.YtekplmpbkgchfaaGreatDoor
