/- Regions whose order is left open: in whatever order their edges allow they do what they do in the order of the text (the induction). No program in sight. -/
import Derived.Test.YtekplmpbkgchfaaGreatDoorE4
import Derived.Deep.LoopGhost
set_option linter.all false
namespace Go.Proofs.YtekplmpbkgchfaaGreatDoor
section
open Go.RowKit
variable [GC]
def vZ(o:Oper):List Nat:=(o.after.toList.filter (Region.binds .any ·)).map (·.on)
def QW:List Oper->List (List Nat)->List (List Nat)
 | [],acc=>acc
 | o::r,acc=>QW r (acc++[(vZ o).flatMap fun m=>m::acc.getD m []])
def E9(l:List Oper)(B:List (List Nat)):Bool :=
 (List.range l.length).all fun j=>match l[j]? with
  | some o=>(vZ o).all (fun m=>Nat.blt m j)&&(B.getD j []).all fun i=>(vZ o).contains i||(vZ o).any fun m=>(B.getD m []).contains i
  | none=>true
def infos(ops:Array Oper):List Oper->List bf->SS->List (List Nat×List Nat)
 | o::r,e::es,ss=>(readsOf ops ss.σ.get o,e.wr.map (·.1))::infos ops r es (ss.step e)
 | _,_,_=>[]
def E8(a b:List Nat):Bool:=a.all fun x=> !b.contains x
def akm(B:List (List Nat))(I:List (List Nat×List Nat)):Bool :=
 (List.range I.length).all fun j=>(List.range j).all fun i=>(B.getD j []).contains i ||
  (E8 (I.getD i ([],[])).2 (I.getD j ([],[])).1&&E8 (I.getD i ([],[])).1 (I.getD j ([],[])).2&&E8 (I.getD i ([],[])).2 (I.getD j ([],[])).2)
def Rl(ops:Array Oper)(es:List bf)(ss:SS):Bool :=
 E9 ops.toList (QW ops.toList [])&&akm (QW ops.toList []) (infos ops ops.toList es ss)
def jF(S:Nat->Prop)[DecidablePred S]:Nat->List bf->(Nat->ST)->Nat->ST
 | _,[],σ=>σ
 | k,e::r,σ=>jF S (k+1) r (if S k then dS σ e.wr else σ)
def GR(e:bf):List Nat:=e.wr.map (·.1)
def JI: ∀{wr:List (Nat×ST)} {σ:Nat->ST} {x:Nat},x∉wr.map (·.1)->dS σ wr x=σ x
 | [],_,_,_=>rfl
 | (l,s)::r,σ,x,h=>by simp only [kU,fJ,not_or] at h;show dS (bF σ l s) r x=_;rw [JI h.2,iS _ _ h.1]
def ab0: ∀{wr:List (Nat×ST)} {σ bH:Nat->ST} {x:Nat},x∈wr.map (·.1)->dS σ wr x=dS bH wr x
 | [],_,_,_,h=>by simp at h
 | (l,s)::r,σ,bH,x,h=>by
  show dS (bF σ l s) r x=dS (bF bH l s) r x;by_cases hr:x∈r.map (·.1)
  ·exact ab0 hr
  ·rw [JI hr,JI hr];simp only [kU,fJ] at h;have:x=l:=h.resolve_right hr;subst this;rw [eF,eF]
def KW{S T:Nat->Prop}[DecidablePred S][DecidablePred T]{x:Nat}: ∀{es:List bf} {k:Nat} {σ bH:Nat->ST},(∀i e,es[i]? =some e->x∈GR e->(S (k+i)↔T (k+i)))->σ x=bH x->jF S k es σ x=jF T k es bH x
 | [],k,σ,bH,_,h=>h
 | e::r,k,σ,bH,h,hx=>by
  unfold jF;refine KW (fun i e' he hw=>by have:=h (i+1) e' (by simpa using he) hw;rwa [show k+(i+1)=k+1+i by omega] at this) ?_;by_cases hw:x∈GR e
  ·have h0:=h 0 e rfl hw;rw [EA] at h0;by_cases hs:S k
   ·rw [aA hs,aA (h0.1 hs)];exact ab0 hw
   ·rw [ak hs,ak (fun t=>hs (h0.2 t))];exact hx
  ·have e1:(if S k then dS σ e.wr else σ) x=σ x:=by split<;>first|exact JI hw|rfl
   have e2:(if T k then dS bH e.wr else bH) x=bH x:=by split<;>first|exact JI hw|rfl
   rw [e1,e2,hx]
def QR{S:Nat->Prop}[DecidablePred S]: ∀{es:List bf} {k:Nat} {σ:Nat->ST},(∀i,k<=i-> ¬S i)->jF S k es σ=σ
 | [],_,_,_=>rfl
 | e::r,k,σ,h=>by unfold jF;rw [ak (h k (bU _))];exact QR fun i hi=>h i (by omega)
def ae0{S:Nat->Prop}[DecidablePred S]{x:Nat}: ∀{es:List bf} {k j:Nat} {σ:Nat->ST} {e:bf},es[j]? =some e->S (k+j)->x∈GR e->(∀i e',es[i]? =some e'->j<i->x∈GR e'-> ¬S (k+i))-> ∀τ,jF S k es σ x=dS τ e.wr x
 | [],k,j,σ,e,h,_,_,_,_=>by simp at h
 | e0::r,k,0,σ,e,h,hS,hx,hl,τ=>by
  simp at h;subst h;unfold jF;rw [aA (by simpa using hS)];have:jF S (k+1) r (dS σ e0.wr) x=jF (fun _=>False) (k+1) r (dS σ e0.wr) x:=KW (fun i e' he hw=>by have:=hl (i+1) e' (by simpa using he) (by omega) hw;rw [show k+(i+1)=k+1+i by omega] at this;exact ⟨fun h=>this h,fun h=>h.elim⟩) rfl
  rw [this,QR (fun _ _ h=>h)];exact ab0 hx
 | e0::r,k,j+1,σ,e,h,hS,hx,hl,τ=>by
  unfold jF;exact ae0 (k:=k+1) (j:=j) (by simpa using h) (by rwa [show k+1+j=k+(j+1) by omega]) hx (fun i e' he hi hw=>by
   have:=hl (i+1) e' (by simpa using he) (by omega) hw
   rwa [show k+(i+1)=k+1+i by omega] at this) τ
def Yy{a b:List Nat}(h:E8 a b=true){x:Nat}(ha:x∈a)(hb:x∈b):False:=by have:=fO.1 h x ha;simp at this;exact this hb
section
variable {P:Program}{c:SC}{cx:Cx}{ops:Array Oper}
def akQ{S0:Nat}: ∀{l:List Oper} {ss:SS} {es:List bf} {s:SS} {k:Nat},nM cx ops l ss=some (es,s)->cq cx.tb.tab s.Γ c.env->zU P c.env ss.Γ.length es->es.length=l.length/\s.σ.get=jF (fun _=>True) k es ss.σ.get/\(infos ops l es ss).length=l.length /\
  ∀j o,l[j]? =some o-> ∃GV e,es[j]? =some e/\cq cx.tb.tab GV c.env/\xS cx ops GV (ss.nt+rm*j) o (jF (fun i=>i<k+j) k es ss.σ.get)=some e/\(∀q∈e.rq,kS P c.env GV.length q) /\
   (infos ops l es ss)[j]? =some (readsOf ops (jF (fun i=>i<k+j) k es ss.σ.get) o,GR e)
 | [],ss,es,s,k,h,aB,hr=>by simp [nM] at h;obtain ⟨rfl,rfl⟩:=h;exact ⟨rfl,rfl,rfl,fun j o ho=>by simp at ho⟩
 | o::r,ss,es,s,k,h,aB,hr=>by
  simp only [nM] at h;split at h
  ·simp at h
  ·rename_i e he;split at h
   ·simp at h
   ·rename_i es' s' hrec;simp only [bg,oU] at h;obtain ⟨rfl,rfl⟩:=h;obtain ⟨Δ,h1,h2,_⟩:=Ge hrec;have FL:cq cx.tb.tab ss.Γ c.env:=by rw [h1] at aB;simp only [SS.step,iG] at aB;exact aB.RF
    obtain ⟨i1,i2,i3,i4⟩:=akQ (S0:=S0) (k:=k+1) hrec aB (by simpa [SS.step] using hr.2);refine ⟨by simp [i1],?_,by simp [infos,i3],fun j o' ho=> ?_⟩
    ·rw [i2,NI];show _=jF (fun _=>True) (k+1) es' (if True then dS ss.σ.get e.wr else ss.σ.get);rw [aA trivial]
    ·cases j with
     | zero =>
      simp at ho;subst ho;have h0:jF (fun i=>i<k+0) k (e::es') ss.σ.get=ss.σ.get:=QR fun i hi=>by omega
      refine ⟨ss.Γ,e,rfl,FL,by rw [h0];exact he,hr.1,by rw [h0];rfl⟩
     | succ j =>
      simp at ho;obtain ⟨GV,ej,j1,j2,j3,j4,j5⟩:=i4 j o' ho;have h0:jF (fun i=>i<k+(j+1)) k (e::es') ss.σ.get=jF (fun i=>i<k+1+j) (k+1) es' (ss.step e).σ.get:=by
       rw [NI];show jF (fun i=>i<k+(j+1)) (k+1) es' (if k<k+(j+1) then dS ss.σ.get e.wr else ss.σ.get)=_;rw [aA (by omega)];have:(fun i=>i<k+(j+1))=fun i=>i<k+1+j:=by funext i;apply propext;omega
       congr 1
      refine ⟨GV,ej,by simpa using j1,j2,?_,j4,?_⟩
      ·rw [h0];have:ss.nt+rm*(j+1)=(ss.step e).nt+rm*j:=by simp only [SS.step,Nat.mul_add];omega
       rw [this];exact j3
      ·rw [h0];simpa [infos] using j5
def abj{j:Nat}{listed:Array Bool}(hsz:listed.size=ops.size):j∈Region.ready .any ops listed↔listed.getD j true=false/\ ∃o,ops[j]? =some o/\ ∀m∈vZ o,listed.getD m false=true:=by
 unfold Region.ready vZ;simp only [Ci,pW,aP,oP];constructor
 ·rintro ⟨h1,h2,h3⟩;refine ⟨h2,ops[j],by simp [h1],fun m hm=> ?_⟩;simp only [G8 h1,jP,mX,PI] at h3;simp only [gD,Ci] at hm;obtain ⟨e,⟨he,hb⟩,rfl⟩:=hm;have:=h3 e (by simpa using he);rw [hb] at this;simpa using this
 ·rintro ⟨h1,o,h2,h3⟩;have hlt:j<ops.size:=(rD.1 h2).1;refine ⟨hlt,h1,?_⟩;simp only [h2,jP,mX,PI];intro e he;cases hb:Region.binds .any e with
  | false=>simp
  | true => have:=h3 e.on (by simp only [gD,Ci];exact ⟨e,⟨by simpa using he,hb⟩,rfl⟩);simp [this]
def left(listed:Array Bool):Nat->Nat
 | 0=>0
 | n+1=>left listed n+if listed.getD n true=false then 1 else 0
def ajq{listed:Array Bool}: ∀{n:Nat},left listed n=0-> ∀j,j<n->listed.getD j true=true
 | 0,_,j,hj=>absurd hj (by omega)
 | n+1,h,j,hj=>by
  simp only [left] at h;by_cases e:j=n
  ·subst e;cases hb:listed.getD j true with
   | true=>rfl
   | false=>rw [hb] at h;simp at h
  ·exact ajq (n:=n) (by omega) j (by omega)
def Zb{listed:Array Bool}{i j:Nat}{d:Bool}(hi:i<listed.size):(listed.setIfInBounds i true).getD j d=if j=i then true else listed.getD j d:=by
 simp only [rC,Et];by_cases h:j=i
 ·subst h;simp [hi]
 ·simp [h,zY h]
def ajp{listed:Array Bool}{i:Nat}(hi:i<listed.size)(hf:listed.getD i true=false): ∀{n:Nat},left (listed.setIfInBounds i true) n+(if i<n then 1 else 0)=left listed n
 | 0=>rfl
 | n+1=>by
  have ih:=ajp hi hf (n:=n);simp only [left,Zb hi];by_cases e:n=i
  ·subst e;simp only [hf,vS];simp at ih;simp [ih]
  ·have hh:(if i<n then 1 else 0)=(if i<n+1 then 1 else 0:Nat):=by
    by_cases h:i<n
    ·rw [aA h,aA (show i<n+1 by omega)]
    ·rw [ak h,ak (show ¬i<n+1 by omega)]
   simp only [ak e];rw [<-hh];omega
def dn(listed:Array Bool):Nat->Prop:=fun i=>listed.getD i false=true
instance (listed:Array Bool):DecidablePred (dn listed):=fun i=>inferInstanceAs (Decidable (_=_))
def alT(nt:Nat)(listed:Array Bool):Nat->Prop:=fun x=>x<nt\/ ∃j,dn listed j/\lW (nt+rm*j) x
def XU{l:List Oper}{B:List (List Nat)}(hE:E9 l B=true){S:Nat->Prop}(hc: ∀j o,S j->l[j]? =some o-> ∀m∈vZ o,S m): ∀(n j:Nat),j<n->S j-> ∀i∈B.getD j [],j<l.length->S i
 | 0,j,h,_,_,_,_=>absurd h (by omega)
 | n+1,j,hj,hS,i,hi,hl=>by
  unfold E9 at hE;have h1:=fO.1 hE j (by simpa using hl);have hlo:l[j]? =some l[j]:=cO hl;rw [hlo] at h1;simp only [aP,fO,gK,uf] at h1;have hd: ∀m∈vZ l[j],S m/\m<j:=fun m hm=>⟨hc j _ hS hlo m hm,ia (h1.1 m hm)⟩;rcases h1.2 i hi with h|⟨m,hm,MK⟩
  ·exact (hd i (by simpa using h)).1
  ·exact XU (by unfold E9;exact hE) hc n m (by have:=(hd m hm).2;omega) (hd m hm).1 i (by simpa using MK) (by have:=(hd m hm).2;omega)
def auU{l:List Oper}{B:List (List Nat)}(hE:E9 l B=true){S:Nat->Prop}(hc: ∀j o,S j->l[j]? =some o-> ∀m∈vZ o,S m){j:Nat}{o:Oper}(ho:l[j]? =some o)(hr: ∀m∈vZ o,S m): ∀i∈B.getD j [],S i:=by
 intro i hi;have hl:j<l.length:=(dQ.1 ho).1;have hE':=hE;unfold E9 at hE;have h1:=fO.1 hE j (by simpa using hl);rw [ho] at h1;simp only [aP,fO,gK,uf] at h1;rcases h1.2 i hi with h|⟨m,hm,MK⟩
 ·exact hr i (by simpa using h)
 ·have ZZ:m<j:=ia (h1.1 m hm);exact XU hE' hc (m+1) m (by omega) (hr m hm) i (by simpa using MK) (by omega)
def aDv(aJ:dz P cx.tb cx.tb=true)(hnt:c.nt=cx.nt)(hm:P.follows .mixedOrders=true){Q:Exit->Act->World->Prop}{id:Nat}{ss s:SS}{es:List bf}(h:nM cx ops ops.toList ss=some (es,s))(hok:Rl ops es ss=true)(aB:cq cx.tb.tab s.Γ c.env)(hr:zU P c.env ss.Γ.length es)
  {bm:Nat->Nat} {tm:Nat->Value} {a:Act} {w:World} (hQ: ∀dD tm' a' w',aS c (below s.nt) s.σ.get dD tm' a' w'->Q .normal a' w') (hs:aS c (below ss.nt) ss.σ.get bm tm a w):(Code.region id ops true).wp P Q a w:=by
 unfold Rl at hok;simp only [aP] at hok;obtain ⟨hE,Zu⟩:=hok;generalize hB:QW ops.toList []=B at hE Zu;obtain ⟨hlen,hall,rO,hat⟩:=akQ (S0:=0) (k:=0) h aB hr;obtain ⟨_,_,SD,_⟩:=Ge h;have Z9: ∀i j,i<j->j<ops.size->i∉B.getD j []-> ∀a b,(infos ops ops.toList es ss)[i]? =some a->(infos ops ops.toList es ss)[j]? =some b->E8 a.2 b.1=true/\E8 a.1 b.2=true/\E8 a.2 b.2=true:=by
  intro i j hij hj hn x y hx hy;unfold akm at Zu;have h1:=fO.1 Zu j (by simpa [rO] using hj);have h2:=fO.1 h1 i (by simpa using hij);simp only [gK,aP,List.getD,hx,hy,mX] at h2;rcases h2 with h2|h2
  ·exact absurd (by simpa [List.getD] using h2) hn
  ·exact ⟨h2.1.1,h2.1.2,h2.2⟩
 refine wp_region_any hm ?_;have key: ∀(fuel:Nat) (listed:Array Bool) (bm:Nat->Nat) (tm:Nat->Value) (a:Act) (w:World),listed.size=ops.size->(∀j o,dn listed j->ops[j]? =some o-> ∀m∈vZ o,dn listed m)->left listed ops.size<=fuel ->
   aS c (alT ss.nt listed) (jF (dn listed) 0 es ss.σ.get) bm tm a w->wpAny P .any ops Q fuel listed a w:=by
  have hdone: ∀(listed:Array Bool) (bm:Nat->Nat) (tm:Nat->Value) (a:Act) (w:World),listed.size=ops.size->(∀j,j<ops.size->listed.getD j true=true)->aS c (alT ss.nt listed) (jF (dn listed) 0 es ss.σ.get) bm tm a w->Q .normal a w:=by
   intro listed bm tm a w hsz hl hS;have hd: ∀j,dn listed j↔j<ops.size:=fun j=>by
    unfold dn;constructor
    ·intro h;rcases dY j ops.size with h'|h'
     ·exact h'
     ·simp [rC,yC (show listed.size<=j by omega)] at h
    ·intro h;have:=hl j h;simp only [rC,G8 (show j<listed.size by omega),mX] at this ⊢;exact this
   refine hQ bm tm a w ?_;have he:jF (dn listed) 0 es ss.σ.get=s.σ.get:=by rw [hall];funext x;refine KW (fun i e hi _=> ?_) rfl;have:i<es.length:=(dQ.1 hi).1;rw [hlen,xj] at this;rw [qE];exact ⟨fun _=>trivial,fun _=>(hd i).2 this⟩
   rw [<-he];refine hS.mono fun x hx=> ?_;unfold below;rw [SD,xj];rcases hx with hx|⟨j,hj,hx⟩
   ·omega
   ·have:=(hd j).1 hj;have:=hx.2;simp only [rm] at *;omega
  have azD: ∀(listed:Array Bool),listed.size=ops.size->Region.ready .any ops listed=[]-> ∀j,j<ops.size->listed.getD j true=true:=by
   intro listed hsz hnil j;induction j using Nat.strongRecOn with
   | _ j ih =>
    intro hj;cases hb:listed.getD j true with
    | true=>rfl
    | false =>
     exfalso;have hlo:ops[j]? =some ops[j]:=G8 hj;have:j∈Region.ready .any ops listed:=(abj hsz).2 ⟨hb,ops[j],hlo,fun m hm=>by
      unfold E9 at hE;have h1:=fO.1 hE j (by simpa using hj);have aza:ops.toList[j]? =some ops[j]:=by simp [hlo]
      rw [aza] at h1;simp only [aP,fO] at h1;have ZZ:m<j:=ia (h1.1 m hm);have:=ih m ZZ (by omega);simp only [rC,G8 (show m<listed.size by omega),mX] at this ⊢;exact this⟩
     rw [hnil] at this;simp at this
  intro fuel;induction fuel with
  | zero =>
   intro listed bm tm a w hsz hcl hlf hS;have hl:=ajq (Nat.le_zero.1 hlf);refine ⟨?_,hdone listed bm tm a w hsz hl hS⟩;cases hr:Region.ready .any ops listed with
   | nil=>rfl
   | cons j _ =>
    have hj:j∈Region.ready .any ops listed:=by rw [hr];simp
    obtain ⟨h1,o,h2,_⟩:=(abj hsz).1 hj;have:=hl j (rD.1 h2).1;rw [h1] at this;cases this
  | succ fuel ih =>
   intro listed bm tm a w hsz hcl hlf hS;refine ⟨fun hnil=>hdone listed bm tm a w hsz (azD listed hsz hnil) hS,fun j hj=> ?_⟩;obtain ⟨hf,o,ho,ahT⟩:=(abj hsz).1 hj;have ah8:j<ops.size:=(rD.1 ho).1;have Z1: ¬dn listed j:=fun h=>by unfold dn at h;simp only [rC,G8 (show j<listed.size by omega),mX] at h hf;rw [h] at hf;cases hf
   have ho':ops.toList[j]? =some o:=by simp [ho]
   obtain ⟨GV,e,he,aAe,ZO,AP,ZU⟩:=hat j o ho';have ahO: ∀i o,dn listed i->ops.toList[i]? =some o-> ∀m∈vZ o,dn listed m:=fun i o hi IW=>hcl i o hi (by simpa using IW);have aym: ∀i∈B.getD j [],dn listed i:=auU hE ahO ho' ahT;have aii: ∀i,dn listed i->i<ops.size->j∉B.getD i []:=fun i hi hlt hin=>Z1 (XU hE ahO (i+1) i (by omega) hi j hin (by simpa using hlt));have ZP: ∀i e',es[i]? =some e'->i<ops.size:=fun i e' hi=>by
    have:i<es.length:=(dQ.1 hi).1
    rwa [hlen,xj] at this
   have ah5: ∀i e',es[i]? =some e'-> ∃rd,(infos ops ops.toList es ss)[i]? =some (rd,GR e'):=fun i e' hi=>by have hlt:=ZP i e' hi;obtain ⟨_,e2,h2,_,_,_,h5⟩:=hat i ops[i] (by simp [hlt]);rw [h2] at hi;simp at hi;subst hi;exact ⟨_,h5⟩
   have hal:Alike ops o (jF (fun i=>i<0+j) 0 es ss.σ.get) (jF (dn listed) 0 es ss.σ.get):=asH fun x hx=>by
    refine KW (fun i e' hi hw=> ?_) rfl;have hlt:=ZP i e' hi;obtain ⟨rd,FE⟩:=ah5 i e' hi;simp only [qE];constructor
    ·intro hd;rcases Hf i j with h|h|h
     ·exact h
     ·subst h;exact absurd hd Z1
     ·obtain ⟨_,q,_⟩:=Z9 j i h hlt (aii i hd hlt) _ _ ZU FE;exact absurd hw (fun hw=>Yy q hx hw)
    ·intro hd;by_cases hb:i∈B.getD j []
     ·exact aym i hb
     ·obtain ⟨q,_,_⟩:=Z9 i j hd ah8 hb _ _ FE ZU;exact (Yy q hw hx).elim
   have ayE:xS cx ops GV (ss.nt+rm*j) o (jF (dn listed) 0 es ss.σ.get)=some e:=by rw [aCH hal];exact ZO
   have hjl:j<listed.size:=by omega
   refine WD aJ hnt hS aAe (g:=ss.nt+rm*j) ?_ ho ayE AP fun dD tm' a' w' RT=> ?_
   ·rintro x SZ (h|⟨i,hi,h⟩)
    ·have:=SZ.1;omega
    ·have:i=j:=by have q1:=SZ.1;have q2:=SZ.2;have q3:=h.1;have q4:=h.2;simp only [rm] at *;omega
     subst this;exact Z1 hi
   ·refine ih (listed.setIfInBounds j true) dD tm' a' w' (by simpa using hsz) ?_ ?_ ?_
    ·intro i o' hi IW m hmd;unfold dn at *;rw [Zb hjl] at hi ⊢;split at hi
     ·rename_i e';subst e';rw [ho] at IW;simp at IW;subst IW;have:=ahT m hmd;split
      ·rfl
      ·exact this
     ·have:=hcl i o' hi IW m hmd;split
      ·rfl
      ·exact this
    ·have:=ajp hjl hf (n:=ops.size);rw [aA ah8] at this;omega
    ·have cT: ∀i,dn (listed.setIfInBounds j true) i↔(i=j\/dn listed i):=fun i=>by
      unfold dn;rw [Zb hjl];split
      ·rename_i e';exact ⟨fun _=> .inl e',fun _=>rfl⟩
      ·rename_i e';exact ⟨.inr,fun h=>h.resolve_left e'⟩
     have hst:jF (dn (listed.setIfInBounds j true)) 0 es ss.σ.get=dS (jF (dn listed) 0 es ss.σ.get) e.wr:=by
      funext x;by_cases hx:x∈GR e
      ·refine ae0 (j:=j) he (by rw [qE];exact (cT j).2 (.inl rfl)) hx (fun i e' hi hji hw hd=> ?_) _;rw [qE] at hd;have hlt:=ZP i e' hi;obtain ⟨rd,FE⟩:=ah5 i e' hi;have hd':=((cT i).1 hd).resolve_left (by omega);obtain ⟨_,_,q⟩:=Z9 j i hji hlt (aii i hd' hlt) _ _ ZU FE;exact Yy q hx hw
      ·rw [JI hx];refine KW (fun i e' hi hw=> ?_) rfl;rw [qE];constructor
       ·intro h;refine ((cT i).1 h).resolve_left ?_;rintro rfl;rw [he] at hi;simp at hi;subst hi;exact hx hw
       ·exact fun h=>(cT i).2 (.inr h)
     rw [hst];refine RT.mono fun x hx=> ?_;rcases hx with (hx|⟨i,hi,hx⟩)|hx
     ·exact .inl hx
     ·exact .inr ⟨i,(cT i).2 (.inr hi),hx⟩
     ·exact .inr ⟨j,(cT j).2 (.inl rfl),hx⟩
 have h0: ∀j,¬dn (Array.replicate ops.size false) j:=fun j h=>by unfold dn at h;simp only [rC,Array.getElem?_replicate] at h;split at h<;>simp at h
 refine key ops.size (Array.replicate ops.size false) bm tm a _ (by simp) (fun j o hj=>absurd hj (h0 j)) ?_ ?_
 ·have: ∀n,left (Array.replicate ops.size false) n<=n:=fun n=>by
   induction n with
   | zero=>exact bU _
   | succ n ih=>simp only [left];split<;>omega
  exact this _
 ·have e0:jF (dn (Array.replicate ops.size false)) 0 es ss.σ.get=ss.σ.get:=QR fun i _=>h0 i;rw [e0];refine aS.mono (F:=below ss.nt) ?_ fun x hx=> .inl hx;exact hs.grow ((dP _ _).drew)
end
def E.fF(n:Nat):E->Bool
 | .var i=>Nat.blt i n
 | .lb _| .li _ _| .ls _| .iB _| .Es| .yc| .fn0 _=>true
 | .ar _ _ x y| .ic _ x y| .sc _ x y| .iD x y| .jD x y| .bc x y| .ae x y| .an x y| .or x y| .row _ x y| .at x y| .cat x y| .aR x y| .app x y| .put x y| .dE x y| .few x y| .Bo _ x y| .RG x y=>x.fF n&&y.fF n
 | .no x| .conv _ x| .len x| .HZ x| .cell x _| .sub x _ _| .proj x _| .aj x| .mem x| .rep _ _ x=>x.fF n
 | .ite x y z| .cut x y z| .inc x y z| .bF x y z _=>x.fF n&&y.fF n&&z.fF n
def ael{env more:List D}{n:Nat}(hn:n<=env.length): ∀(e:E),e.fF n=true->e.den (env++more)=e.den env:=by
 intro e;induction e<;>intro h<;>simp only [E.fF,aP] at h<;>simp only [E.den]
 case var i => have:i<env.length:=dm (ia h) hn;simp [List.getD,mW this]
 all_goals simp_all
def uB(n:Nat)(gs:Gd):Bool:=gs.all fun x=>x.1.fF n
def nN(n:Nat):ST->Bool
 | .v gs _ e=>uB n gs&&e.fF n
 | .ptr gs _ _=>uB n gs
 | .ro gs e _=>uB n gs&&e.fF n
 | .gp gs _ x i=>uB n gs&&x.fF n&&i.fF n
 | .mp gs _ _ i _=>uB n gs&&i.fF n
 | .iv gs _ _ _ i _ l=>uB n gs&&i.fF n&&l.fF n
 | .ip gs _ _ _ i _ j _ _=>uB n gs&&i.fF n&&j.fF n
 | .box cs=>cs.all fun x=>x.2.fF n
 | .live m=>(match m.body with|some (e,_)=>e.fF n|none=>true)
 | _=>true
def Jc(n:Nat):K->Bool
 | .own g=>Nat.blt g n
 | .ag ks=>ks.all fun k=>match k with| .own g=>Nat.blt g n|_=>true
 | _=>true
def qj(n:Nat):ST->Bool
 | .v _ k _=>Jc n k
 | .ptr _ id _=>Nat.blt id n
 | .mp _ g _ _ _=>Nat.blt g n
 | .iv _ g gv _ _ _ _=>Nat.blt g n&&Nat.blt gv n
 | .ip _ g gv _ _ _ _ _ _=>Nat.blt g n&&Nat.blt gv n
 | .live m=>(match m.body with|some (_,some (gv,_))=>Nat.blt gv n|_=>true)
 | .box cs=>cs.all fun x=>Jc n x.1
 | _=>true
inductive Slot where
 | t (t:Nat)|b (id j:Nat)|m (g:Nat)
 deriving DecidableEq
def zr(σ:Nat->ST):Slot->Option (K×E)
 | .t t=>match σ (3*t) with| .v [] k e=>some (k,e)|_=>none
 | .b id j=>match σ (3*id+1) with| .box cs=>cs[j]? |_=>none
 | .m g=>match σ (3*g+2) with| .live ⟨_,some (e,_)⟩=>some (.d,e)|_=>none
structure Head where
 slots:List Slot
 ks:List K
 dR:List VT
 hd:SS
def FQ(tab:Nat->List CT)(σ:Nat->ST)(ty:VT):K->K->Bool
 | .d,_=>true
 | .own _,.full=>(match ty with| .one (.c (.sl _))=>true|_=>false)
 | .own _,.own g=>(match ty with| .one (.c (.sl el))=>decide (σ (3*g+2)= .live ⟨(tab el).length,none⟩)|_=>false)
 | _,_=>false
def Bp(tab:Nat->List CT)(Γ:List VT)(σ:Nat->ST):List Slot->List K->List VT->Option (List (K×E))
 | [],[],[]=>some []
 | s::ss,k::ks,ty::dR=>match zr σ s,Bp tab Γ σ ss ks dR with
  | some (k',e'),some r=>bif decide (e'.inf tab Γ=some ty)&&FQ tab σ ty k k' then some ((k',e')::r) else none
  | _,_=>none
 | _,_,_=>none
def ru:List K->List (K×E)->List Nat
 | .own _::ks,(.own g,_)::r=>g::ru ks r
 | _::ks,_::r=>ru ks r
 | _,_=>[]
def FZ:List Nat->Bool
 | []=>true
 | x::r=> !r.contains x&&FZ r
def A6(nt:Nat):Nat->List K->Bool
 | _,[]=>true
 | i,.d::r=>A6 nt (i+1) r
 | i,.own g::r=>Nat.beq g (nt+i)&&A6 nt (i+1) r
 | _,_::_=>false
def zn(n nt:Nat)(σ:Nat->ST)(l:Nat)(h:ST):Bool:=decide (σ l=h)&&nN n h&&qj nt h
def Rk(k:Nat):Option (Nat×List Nat)->Option (Nat×List Nat)->Bool
 | none,none=>true
 | some (gv,ms),some (_,ms')=>Nat.beq gv k&&decide (ms=ms')
 | _,_=>false
def mOk(n nt:Nat)(H:Head)(σ:Nat->ST)(l:Nat)(m:LV):Bool :=
 match m.body,σ l with
 | some (.var v,dp),.live ⟨n',some (_,v7)⟩=>Nat.ble n v&&decide (H.slots[v-n]? =some (.m (l/3)))&&Nat.beq n' m.n&&Rk (nt+(v-n)) dp v7
 | _,_=>false
def Ah(tab:Nat->List CT)(n nt:Nat)(H:Head)(σ:Nat->ST)(used:List Nat)(l:Nat)(h:ST):Bool :=
 match h with
 | .un=>true
 | .v [] k (.var v)=>(Nat.ble n v&&Nat.beq (l%3) 0&&decide (H.slots[v-n]? =some (.t (l/3)))&&decide (H.ks[v-n]? =some k))||zn n nt σ l h
 | .box cs=>Nat.beq (l%3) 1&&Nat.blt (l/3) nt&&(((match σ l with| .box cs'=>Nat.beq cs'.length cs.length|_=>false)&&cs.zipIdx.all fun x=>match x.1.2 with
   | .var v=>Nat.ble n v&&decide (H.slots[v-n]? =some (.b (l/3) x.2))&&decide (H.ks[v-n]? =some x.1.1)
   | _=>false)||zn n nt σ l h)
 | .live m=>Nat.beq (l%3) 2&&((m.body.isNone&&Nat.ble nt (l/3)&&decide (H.ks[l/3-nt]? =some (.own (l/3)))&&(match H.dR[l/3-nt]? with|some (.one (.c (.sl el)))=>Nat.beq m.n (tab el).length|_=>false))
   || (Nat.blt (l/3) nt&& !used.contains (l/3)&&(zn n nt σ l h||mOk n nt H σ l m)))
 | _=>zn n nt σ l h
def back(tab:Nat->List CT)(n nt:Nat)(H:Head)(s:SS):Option (List E) :=
 match Bp tab s.Γ s.σ.get H.slots H.ks H.dR with
 | some vs=>bif FZ (ru H.ks vs)&&A6 nt 0 H.ks&&Nat.beq H.hd.nt (nt+H.slots.length)&&Nat.ble nt s.nt&&Nat.blt 0 nt&&H.hd.σ.all (fun x=>Ah tab n nt H s.σ.get (ru H.ks vs) x.1 (H.hd.σ.get x.1)) then some (vs.map (·.2)) else none
 | none=>none
def Jv:Code->Bool
 | .ret=>true
 | .seq a b=>Nu a&&Jv b
 | .cond _ a b=>Jv a&&Jv b
 | _=>false
where Nu:Code->Bool
 | .region _ _ _| .skip=>true
 | .seq a b=>Nu a&&Nu b
 | .cond _ a b=>(Nu a||Jv a)&&(Nu b||Jv b)
 | .ret=>true
 | _=>false
def opsOf:Code->List Oper
 | .region _ ops _=>ops.toList
 | .seq a b=>bif Jv (.seq a b) then [] else opsOf a++opsOf b
 | .cond _ a b=>opsOf a++opsOf b
 | .block _ c| .loop c=>opsOf c
 | _=>[]
def C4(x:Nat):List Nat->Bool
 | []=>false
 | y::r=>Nat.beq x y||C4 x r
def auR(l:List Oper):List Nat:=l.filterMap (·.dst)
def rootOf(l:List Oper)(sZ:List Nat)(σ:Nat->ST):Nat->Nat->Option Nat
 | 0,_=>none
 | f+1,t=>bif C4 t sZ then
   match l.find? (fun o=>decide (o.dst=some t)) with
   | some o=>match o.op with
    | .fieldAddr _ (.tmp u) _| .move (.tmp u)| .assign (.tmp u)| .nilCheck (.tmp u)=>rootOf l sZ σ f u
    | _=>none
   | none=>none
  else match σ (3*t) with
   | .ptr _ id _=>some id
   | _=>none
def afd(l:List Oper)(sZ:List Nat)(σ:Nat->ST):List Oper->List Nat
 | []=>[]
 | o::r =>
  let more:=afd l sZ σ r
  let one (t:Nat):=match rootOf l sZ σ 20 t with|some id=>bif C4 id more then more else id::more|none=>more
  match o.op with
  | .store _ (.tmp t) _=>one t
  | .call c=>match c.callee,c.args.toList with
   | .value (.func _),.tmp t::_=>one t
   | _,_=>more
  | _=>more
def dedup:List Nat->List Nat
 | []=>[]
 | x::r=>bif C4 x r then dedup r else x::dedup r
def abH(σ:Nat->ST):List Nat->List Slot
 | []=>[]
 | t::r=>match σ (3*t) with
  | .v [] _ _=> .t t::abH σ r
  | _=>abH σ r
def abG(σ:Nat->ST):List Nat->List Slot
 | []=>[]
 | id::r=>match σ (3*id+1) with
  | .box cs=>(List.range cs.length).map (.b id)++abG σ r
  | _=>abG σ r
def R7(nt:Nat):Nat->List (K×E)->List K
 | _,[]=>[]
 | i,(.d,_)::r=> .d::R7 nt (i+1) r
 | i,(.ag _,_)::r=> .d::R7 nt (i+1) r
 | i,(_,_)::r=> .own (nt+i)::R7 nt (i+1) r
def ahX(tab:Nat->List CT)(Γ:List VT):List (K×E)->List VT
 | []=>[]
 | (_,e)::r=>(e.inf tab Γ).getD (.aL [])::ahX tab Γ r
def ZG(n:Nat)(slots:List Slot)(ks:List K)(σ:Nat->ST):List Nat->Sg
 | []=>[]
 | id::r=>match σ (3*id+1) with
  | .box cs=>(3*id+1,.box ((List.range cs.length).map fun j=>match slots.idxOf? (.b id j) with
    | some i=>(ks.getD i .d,.var (n+i))
    | none=>(.d,.Es)))::ZG n slots ks σ r
  | _=>ZG n slots ks σ r
def ahW(n:Nat)(slots:List Slot)(ks:List K):List Nat->Sg
 | []=>[]
 | t::r=>(3*t,match slots.idxOf? (.t t) with|some i=> .v [] (ks.getD i .d) (.var (n+i))|none=> .un)::ahW n slots ks r
def ZI(tab:Nat->List CT):List K->List VT->Sg
 | .own g::ks,.one (.c (.sl el))::dR=>(3*g+2,.live ⟨(tab el).length,none⟩)::ZI tab ks dR
 | _::ks,_::dR=>ZI tab ks dR
 | _,_=>[]
def alL(l:List Oper)(sZ:List Nat)(σ:Nat->ST):List Oper->Bool
 | []=>false
 | o::r=>(match o.op with| .store _ (.tmp t) _=>(rootOf l sZ σ 20 t).isNone|_=>false)||alL l sZ σ r
def aCf(σ:Sg):List Nat:=dedup ((σ.filter fun x=>Nat.beq (x.1%3) 2&&(match σ.get x.1 with| .live ⟨_,some _⟩=>true|_=>false)).map fun x=>x.1/3)
def ZJ(n nt:Nat)(slots:List Slot)(σ:Nat->ST):List Nat->Sg
 | []=>[]
 | g::r=>match slots.idxOf? (.m g),σ (3*g+2) with
  | some i,.live ⟨k,some (_,dp)⟩=>(3*g+2,.live ⟨k,some (.var (n+i),dp.map fun x=>(nt+i,x.2))⟩)::ZJ n nt slots σ r
  | _,_=>ZJ n nt slots σ r
def ZH:List (K×E)->Sg
 | []=>[]
 | (.own g,_)::r=>(3*g+2,.un)::ZH r
 | _::r=>ZH r
def ajF(tab:Nat->List CT)(c:Code)(ss:SS):Head :=
 let l:=opsOf c
 let sZ:=dedup (auR l)
 let bs:=dedup (afd l sZ ss.σ.get l)
 let ms:=bif alL l sZ ss.σ.get l then aCf ss.σ else []
 let slots:=abH ss.σ.get sZ++abG ss.σ.get bs++ms.map .m
 let vs:=slots.filterMap (zr ss.σ.get)
 let ks:=R7 ss.nt 0 vs
 let dR:=ahX tab ss.Γ vs
 let n:=ss.Γ.length
 {slots,ks,dR,hd:={Γ:=ss.Γ++dR,nt:=ss.nt+slots.length,lv:=ss.lv+1,σ:=ahW n slots ks sZ++ZG n slots ks ss.σ.get bs++ZJ n ss.nt slots ss.σ.get ms++ZI tab ks dR++ZH vs++ss.σ}}
def uR:Nat->Nat->List VT->Sg
 | _,_,[]=>[]
 | k,j,_::r=>(3*k,.v [] .d (.var j))::uR (k+1) (j+1) r
def vtP:VT->VT
 | .aL [.c .fn]=> .one (.c .fn)
 | vt=>vt
def Aa(tb:TB):List Nat->Option (List VT)
 | []=>some []
 | T::r=>match tb.get T,Aa tb r with
  | some i,some l=>some (vtP i.vt::l)
  | _,_=>none
def M8(tb:TB)(params:List Nat)(bx:Option (List CT)):Option SS :=
 match bx,params with
 | none,ps=>match Aa tb ps with
  | some Γ=>some {Γ,nt:=0,lv:=0,σ:=uR 0 0 Γ}
  | none=>none
 | some cs,_::ps=>match Aa tb ps with
  | some Γ=>some {Γ:=Γ++cs.map (fun t=> .one (.c t)),nt:=1,lv:=0,σ:=(0,.ptr [] 0 0)::(1,.box (vars Γ.length cs))::uR 1 0 Γ}
  | none=>none
 | some _,[]=>none
structure Fx where
 cx:Cx
 res:List ResultVar
 bx:Bool
 rt:List (Nat×Nat):=[]
def kZ(σ:Nat->ST):Nat->ST:=fun l=>match σ l with| .live m=> .live ⟨m.n,none⟩|st=>st
def K2(σ:Nat->ST)(g:Nat):Option E:=match σ (3*g+2) with| .live ⟨_,some (b,_)⟩=>some b|_=>none
def Je(σ:Nat->ST):KK->Option E
 | .own g=>K2 σ g
 | _=>none
def Mb(tab:Nat->List CT)(Γ:List VT)(σ:Nat->ST):K->E->E
 | .own g,e=>(K2 σ g).getD e
 | .ag ks,e=>bif (ks.any fun kk=>(Je σ kk).isSome)&&(match e.inf tab Γ with|some (.one (.agg us))=>Nat.beq us.length ks.length|_=>false) then mk ((List.range ks.length).map fun j=>(Je σ (ks.getD j .d)).getD (.cell e j)) else e
 | _,e=>e
def Ub(tb:TB)(ss:SS):ResultVar->Option (K×E)
 | .tmp t=>match ss.σ.get (3*t) with| .v [] k e=>some (k,Mb tb.tab ss.Γ ss.σ.get k e)|_=>none
 | .cell t T=>match ss.σ.get (3*t),tb.get T with
  | .ptr [] id 0,some ti=>match ss.σ.get (3*id+1),ti.vt with
   | .box cs,.one (.agg ts)=>bif Nat.beq ts.length cs.length then some (zm (cs.map (·.1)),pack tb.tab ss.Γ (cs.map fun x=>Mb tb.tab ss.Γ ss.σ.get x.1 x.2)) else none
   | .box [(k,e)],.one (.c _)=>some (k,e)
   | _,_=>none
  | _,_=>none
def NE(tb:TB)(ss:SS):List ResultVar->Option (List (K×E))
 | []=>some []
 | r::rs=>match Ub tb ss r,NE tb ss rs with
  | some e,some es=>some (e::es)
  | _,_=>none
def Ii(tab:Nat->List CT)(Γ:List VT):List (K×E)->Option (List KK)
 | []=>some []
 | (k,e)::r=>match e.inf tab Γ,Ii tab Γ r with
  | some (.one (.c _)),some l=>some (k.kk::l)
  | some (.one (.agg ts)),some l=>some ((List.range ts.length).map (fun j=>(k.nth j).kk)++l)
  | _,_=>none
def Uh(σ:Nat->ST)(l:List KK):List (Nat×Nat)->Option (List Nat)
 | []=>some []
 | (p,m)::r=>match l[p]?,Uh σ l r with
  | some .full,some q=>some q
  | some (.own g),some q=>if σ (3*g+2)= .live ⟨m,none⟩/\C4 g q=false then some (g::q) else none
  | _,_=>none
def Ug(tab:Nat->List CT)(Γ:List VT)(σ:Nat->ST)(es:List (K×E)):List (Nat×Nat)->Bool
 | []=>true
 | rt=>match Ii tab Γ es with|some l=>(Uh σ l rt).isSome|none=>false
def NR:List E->E->E
 | [],acc=>acc
 | e::r,acc=>NR r (.aR acc e)
def Ns:List E->E
 | [e]=>e
 | es=>NR es .yc
def Gf(fx:Fx)(ss:SS):VC :=
 match NE fx.cx.tb ss fx.res with
 | some es =>
  bif Ug fx.cx.tb.tab ss.Γ (kZ ss.σ.get) es fx.rt then
   bif fx.bx then match ss.σ.get 1 with
    | .box cs=> .ret (Ns (es.map (·.2))) (cs.map (·.2))
    | _=> .fail 1
   else .ret (Ns (es.map (·.2))) []
  else .fail 10
 | none=> .fail 0
def Nh(id:Nat):List (Nat×(SS->VC))->Option (SS->VC)
 | []=>none
 | (i,k)::r=>bif Nat.beq i id then some k else Nh id r
def PG(tab:Nat->List CT)(n nt lv:Nat)(H:Head)(s:SS):VC :=
 match back tab n nt H s with
 | some es=>bif Nat.blt lv s.lv then .again (s.lv-lv-1) es else .fail 2
 | none=> .fail 3
def Dm(n:Nat):Rq->Bool
 | .cond gs c=>uB n gs&&c.fF n
 | .cF _ bx args _ _ _=>(match bx with|none=>true|some l=>l.all (·.fF n))&&args.all (·.fF n)
 | .call gs _ bx args _ _=>uB n gs&&(match bx with|none=>true|some l=>l.all (·.fF n))&&args.all (·.fF n)
 | .new _ args _=>args.all (·.fF n)
 | .oZ gs e args _=>uB n gs&&e.fF n&&args.all (·.fF n)
 | .rK _ _ ix=>(match ix with|none=>true|some (gs,e,_)=>uB n gs&&e.fF n)
def IA:Nat->List bf->Bool
 | _,[]=>true
 | n,e::r=>e.rq.all (Dm n)&&IA (n+(kN e.rq).length) r
def aa0(es:List bf):Bool:=es.all fun e=>Nat.ble e.rq.length 1
def Jb:List bf->Bool
 | []=>true
 | e::r=>(match e.rq with|[]=>true|_=>false)&&Jb r
def YZ(j d:Nat)(v:Bool)(o:Oper):Option Oper :=
 match o.guard with
 | some (i,b)=>bif Nat.beq i j then (bif b==v then some {o with guard:=none} else none) else some o
 | none=>match o.op with
  | .pick (.tmp t) x y=>bif Nat.beq t d then some {o with op:= .move (bif v then x else y)} else some o
  | _=>some o
def YY(cx:Cx)(ops:Array Oper)(j d:Nat)(v:Bool)(Γ:List VT)(g:Nat)(o:Oper)(σ:Nat->ST):Option bf :=
 match YZ j d v o with
 | some o'=>xS cx ops Γ g o' σ
 | none=>bif Io cx.nt o.dst then some ⟨wv o.dst .un,[]⟩ else none
def SE(σ:Nat->ST)(d:Nat)(c:E):Bool:=match σ (3*d) with
 | .v [] _ e=>decide (e=c)
 | _=>false
def Dp(cx:Cx)(ops:Array Oper)(j d:Nat)(v:Bool)(c:E):List Oper->SS->Option (List bf×SS)
 | [],ss=>some ([],ss)
 | o::r,ss=>bif SE ss.σ.get d c then match YY cx ops j d v ss.Γ ss.nt o ss.σ.get with
   | none=>none
   | some e=>match Dp cx ops j d v c r (ss.step e) with
    | none=>none
    | some (es,s)=>some (e::es,s)
  else none
def zt:List Oper->List Oper×List Oper
 | []=>([],[])
 | o::r=>match o.guard with
  | none=>(o::(zt r).1,(zt r).2)
  | some _=>([],o::r)
def Jm(ss:SS)(es:List bf):Bool:=(Jb es||ss.σ.all fun x=>nN ss.Γ.length (ss.σ.get x.1))&&IA ss.Γ.length es&&aa0 es
def RI(cx:Cx)(ops:Array Oper)(j d:Nat)(c:E)(l:List Oper)(s:SS)(n:Nat)(k:SS->VC)(v:Bool):VC :=
 match Dp cx ops j d v c l s with
 | some (es,s')=>bif Jm s es then Dn es (k s') else .fail n
 | none=> .fail n
def abk(cx:Cx)(ops:Array Oper)(ss:SS)(n:Nat)(k:SS->VC):VC :=
 match (zt ops.toList).2 with
 | []=> .fail n
 | o::r=>match o.guard with
  | none=> .fail n
  | some (j,_)=>match (ops[j]?).bind (·.dst) with
   | none=> .fail n
   | some d=>match nM cx ops (zt ops.toList).1 ss with
    | none=> .fail n
    | some (es,s)=>match s.σ.get (3*d) with
     | .v [] _ c=>bif Jm ss es&&iO .bool (c.inf cx.tb.tab s.Γ)&&c.fF s.Γ.length then Dn es (.ite c (RI cx ops j d c (o::r) s n k true) (RI cx ops j d c (o::r) s n k false)) else .fail n
     | _=> .fail n
def sx(fx:Fx):Code->SS->List (Nat×(SS->VC))->(SS->VC)->VC
 | .skip,ss,_,k=>k ss
 | .region id ops draw,ss,_,k=>match nM fx.cx ops ops.toList ss with
  | some (es,s)=>bif (!draw||Rl ops es ss)&&(Jb es||ss.σ.all fun x=>nN ss.Γ.length (ss.σ.get x.1))&&IA ss.Γ.length es&&aa0 es then Dn es (k s) else .fail (1000+id)
  | none=>bif draw then .fail (2000+id) else abk fx.cx ops ss (2000+id) k
 | .seq a b,ss,ex,k=>sx fx a ss ex fun s=>sx fx b s ex k
 | .cond x a b,ss,ex,k=>match gX [] (aY fx.cx.tb ss.σ.get 0 x) with
  | some (_,e)=>bif iO .bool (e.inf fx.cx.tb.tab ss.Γ) then .ite e (sx fx a ss ex k) (sx fx b ss ex k) else .fail 4
  | none=> .fail 5
 | .block id c,ss,ex,k=>sx fx c ss ((id,k)::ex) k
 | .exit id,ss,ex,_=>match Nh id ex with
  | some k=>k ss
  | none=> .fail 6
 | .loop c,ss,ex,_ =>
  let H:=ajF fx.cx.tb.tab c ss
  match back fx.cx.tb.tab ss.Γ.length ss.nt H ss with
  | some es=>bif Nat.beq H.hd.lv (ss.lv+1)&&decide (H.hd.Γ=ss.Γ++H.dR)&&Nat.beq H.slots.length H.dR.length then .loop H.dR es (sx fx c H.hd ex (PG fx.cx.tb.tab ss.Γ.length ss.nt ss.lv H)) else .fail 7
  | none=> .fail 8
 | .ret,ss,_,_=>Gf fx ss
 | _,_,_,_=> .fail 9
def fM(tab:Nat->List CT):List VT->List D->Prop
 | [],[]=>True
 | t::ts,d::ds=>bA tab t d/\fM tab ts ds
 | _,_=>False
def VC.den(P:Program)(tab:Nat->List CT):VC->List D->(D->List D->Prop)->List (List D->Prop)->Prop
 | .fail _,_,_,_=>False
 | .ret e bs,env,Q,_=>Q (e.den env) (bs.map (·.den env))
 | .rq (.cond gs c) k,env,Q,L=>(cK env gs->c.den env= .bool true)/\k.den P tab env Q L
 | .rq (.call gs f bx args vt nb) k,env,Q,L=> ∃d cs,bA tab vt d/\br tab nb cs/\(cK env gs->aH P f (bx.map (·.map (·.den env))) (args.map (·.den env)) d cs)/\k.den P tab (env++d::cs) Q L
 | .rq (.cF f bx args vt nb rt) k,env,Q,L=> ∃d cs,bA tab vt d/\br tab nb cs/\eA P f (bx.map (·.map (·.den env))) (args.map (·.den env)) d cs rt/\k.den P tab (env++d::cs) Q L
 | .rq (.new f args nb) k,env,Q,L=> ∃cs,br tab nb cs/\Pw P f (args.map (·.den env)) cs/\k.den P tab (env++cs) Q L
 | .rq (.oZ gs e args vt) k,env,Q,L=> ∃d,bA tab vt d/\(cK env gs->aem P (e.den env) (args.map (·.den env)) d)/\k.den P tab (env++[d]) Q L
 | .rq (.rK g vt ix) k,env,Q,L=> ∃d,bA tab vt d/\Kg g d/\WS env ix/\k.den P tab (env++[d]) Q L
 | .ite c a b,env,Q,L=>((c.den env).jZ=true->a.den P tab env Q L)/\((c.den env).jZ=false->b.den P tab env Q L)
 | .loop dR inits body,env,Q,L=> ∃(I:List D->Prop) (μ:List D->Nat),I (inits.map (·.den env)) /\
   ∀xs,fM tab dR xs->dW xs->I xs->body.den P tab (env++xs) Q ((fun ys=>I ys/\μ ys<μ xs)::L)
 | .again d es,env,_,L=>match L[d]? with
  | some p=>p (es.map (·.den env))
  | none=>False
end
end Go.Proofs.YtekplmpbkgchfaaGreatDoor
