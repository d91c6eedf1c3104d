/- Regions whose order is left open: in whatever order their edges allow they do what they do in the order of the text (the induction). No program in sight. -/
import Derived.Test.YtimickglpboilaaGreatDoorG5
import Derived.Deep.LoopGhost
set_option linter.unusedVariables false
set_option linter.unusedSimpArgs false
set_option linter.unusedSectionVars false
namespace Go.Proofs.YtimickglpboilaaGreatDoor
section
open Go.RowKit
variable [GC]
def ou(o:Oper):List Nat:=(o.after.toList.filter (Region.binds .any ·)).map (·.on)
def Cl:List Oper->List (List Nat)->List (List Nat)
 | [],acc=>acc
 | o::r,acc=>Cl r (acc++[(ou o).flatMap fun m=>m::acc.getD m []])
def uZ(l:List Oper)(B:List (List Nat)):Bool :=
 (List.range l.length).all fun j=>match l[j]? with
  | some o=>(ou o).all (fun m=>Nat.blt m j)&&(B.getD j []).all fun i=>(ou o).contains i||(ou o).any fun m=>(B.getD m []).contains i
  | none=>true
def infos(ops:Array Oper):List Oper->List aT->SS->List (List Nat×List Nat)
 | o::r,e::es,ss=>(readsOf ops ss.σ.get o,e.wr.map (·.1))::infos ops r es (ss.step e)
 | _,_,_=>[]
def uX(a b:List Nat):Bool:=a.all fun x=> !b.contains x
def Pa(B:List (List Nat))(I:List (List Nat×List Nat)):Bool :=
 (List.range I.length).all fun j=>(List.range j).all fun i=>(B.getD j []).contains i ||
  (uX (I.getD i ([],[])).2 (I.getD j ([],[])).1&&uX (I.getD i ([],[])).1 (I.getD j ([],[])).2&&uX (I.getD i ([],[])).2 (I.getD j ([],[])).2)
def CE(ops:Array Oper)(es:List aT)(ss:SS):Bool :=
 uZ ops.toList (Cl ops.toList [])&&Pa (Cl ops.toList []) (infos ops ops.toList es ss)
def gz(S:Nat->Prop)[DecidablePred S]:Nat->List aT->(Nat->ST)->Nat->ST
 | _,[],σ=>σ
 | k,e::r,σ=>gz S (k+1) r (if S k then cY σ e.wr else σ)
def wS(e:aT):List Nat:=e.wr.map (·.1)
theorem zt: ∀{wr:List (Nat×ST)} {σ:Nat->ST} {x:Nat},x∉wr.map (·.1)->cY σ wr x=σ x
 | [],_,_,_=>rfl
 | (l,s)::r,σ,x,h=>by
  simp only [List.map_cons,List.mem_cons,not_or] at h
  show cY (aV σ l s) r x=_
  rw [zt h.2,dW _ _ h.1]
theorem I9: ∀{wr:List (Nat×ST)} {σ bo:Nat->ST} {x:Nat},x∈wr.map (·.1)->cY σ wr x=cY bo wr x
 | [],_,_,_,h=>by simp at h
 | (l,s)::r,σ,bo,x,h=>by
  show cY (aV σ l s) r x=cY (aV bo l s) r x
  by_cases hr:x∈r.map (·.1)
  ·exact I9 hr
  ·rw [zt hr,zt hr]
   simp only [List.map_cons,List.mem_cons] at h
   have:x=l:=h.resolve_right hr
   subst this;rw [cm,cm]
theorem zK{S T:Nat->Prop}[DecidablePred S][DecidablePred T]{x:Nat}: ∀{es:List aT} {k:Nat} {σ bo:Nat->ST},(∀i e,es[i]? =some e->x∈wS e->(S (k+i)↔T (k+i)))->σ x=bo x->gz S k es σ x=gz T k es bo x
 | [],k,σ,bo,_,h=>h
 | e::r,k,σ,bo,h,hx=>by
  unfold gz
  refine zK (fun i e' he hw=>by have:=h (i+1) e' (by simpa using he) hw;rwa [show k+(i+1)=k+1+i by omega] at this) ?_
  by_cases hw:x∈wS e
  ·have h0:=h 0 e rfl hw
   rw [Nat.add_zero] at h0
   by_cases hs:S k
   ·rw [if_pos hs,if_pos (h0.1 hs)];exact I9 hw
   ·rw [if_neg hs,if_neg (fun t=>hs (h0.2 t))];exact hx
  ·have e1:(if S k then cY σ e.wr else σ) x=σ x:=by split<;>first|exact zt hw|rfl
   have e2:(if T k then cY bo e.wr else bo) x=bo x:=by split<;>first|exact zt hw|rfl
   rw [e1,e2,hx]
theorem Ci{S:Nat->Prop}[DecidablePred S]: ∀{es:List aT} {k:Nat} {σ:Nat->ST},(∀i,k<=i-> ¬S i)->gz S k es σ=σ
 | [],_,_,_=>rfl
 | e::r,k,σ,h=>by unfold gz;rw [if_neg (h k (Nat.le_refl _))];exact Ci fun i hi=>h i (by omega)
theorem JU{S:Nat->Prop}[DecidablePred S]{x:Nat}: ∀{es:List aT} {k j:Nat} {σ:Nat->ST} {e:aT},es[j]? =some e->S (k+j)->x∈wS e->(∀i e',es[i]? =some e'->j<i->x∈wS e'-> ¬S (k+i))-> ∀τ,gz S k es σ x=cY τ e.wr x
 | [],k,j,σ,e,h,_,_,_,_=>by simp at h
 | e0::r,k,0,σ,e,h,hS,hx,hl,τ=>by
  simp at h;subst h
  unfold gz
  rw [if_pos (by simpa using hS)]
  have:gz S (k+1) r (cY σ e0.wr) x=gz (fun _=>False) (k+1) r (cY σ e0.wr) x:=zK (fun i e' he hw=>by
   have:=hl (i+1) e' (by simpa using he) (by omega) hw
   rw [show k+(i+1)=k+1+i by omega] at this
   exact ⟨fun h=>this h,fun h=>h.elim⟩) rfl
  rw [this,Ci (fun _ _ h=>h)]
  exact I9 hx
 | e0::r,k,j+1,σ,e,h,hS,hx,hl,τ=>by
  unfold gz
  exact JU (k:=k+1) (j:=j) (by simpa using h) (by rwa [show k+1+j=k+(j+1) by omega]) hx (fun i e' he hi hw=>by
   have:=hl (i+1) e' (by simpa using he) (by omega) hw
   rwa [show k+(i+1)=k+1+i by omega] at this) τ
theorem Fm{a b:List Nat}(h:uX a b=true){x:Nat}(ha:x∈a)(hb:x∈b):False:=by
 have:=List.all_eq_true.1 h x ha
 simp at this
 exact this hb
section
variable {P:Program}{c:SC}{cx:Cx}{ops:Array Oper}
theorem Ps{S0:Nat}: ∀{l:List Oper} {ss:SS} {es:List aT} {s:SS} {k:Nat},jo cx ops l ss=some (es,s)->bL cx.tb.tab s.Γ c.env->qN P c.env ss.Γ.length es->es.length=l.length/\s.σ.get=gz (fun _=>True) k es ss.σ.get/\(infos ops l es ss).length=l.length /\
  ∀j o,l[j]? =some o-> ∃wT e,es[j]? =some e/\bL cx.tb.tab wT c.env/\pK cx ops wT (ss.nt+jX*j) o (gz (fun i=>i<k+j) k es ss.σ.get)=some e/\(∀q∈e.rq,gU P c.env wT.length q) /\
   (infos ops l es ss)[j]? =some (readsOf ops (gz (fun i=>i<k+j) k es ss.σ.get) o,wS e)
 | [],ss,es,s,k,h,aB,hr=>by
  simp [jo] at h;obtain ⟨rfl,rfl⟩:=h
  exact ⟨rfl,rfl,rfl,fun j o ho=>by simp at ho⟩
 | o::r,ss,es,s,k,h,aB,hr=>by
  simp only [jo] at h
  split at h
  ·simp at h
  ·rename_i e he
   split at h
   ·simp at h
   ·rename_i es' s' hrec
    simp only [Option.some.injEq,Prod.mk.injEq] at h
    obtain ⟨rfl,rfl⟩:=h
    obtain ⟨Δ,h1,h2,_⟩:=wB hrec
    have vS:bL cx.tb.tab ss.Γ c.env:=by
     rw [h1] at aB
     simp only [SS.step,List.append_assoc] at aB
     exact aB.CU
    obtain ⟨i1,i2,i3,i4⟩:=Ps (S0:=S0) (k:=k+1) hrec aB (by simpa [SS.step] using hr.2)
    refine ⟨by simp [i1],?_,by simp [infos,i3],fun j o' ho=> ?_⟩
    ·rw [i2,BH]
     show _=gz (fun _=>True) (k+1) es' (if True then cY ss.σ.get e.wr else ss.σ.get)
     rw [if_pos trivial]
    ·cases j with
     | zero =>
      simp at ho;subst ho
      have h0:gz (fun i=>i<k+0) k (e::es') ss.σ.get=ss.σ.get:=Ci fun i hi=>by omega
      refine ⟨ss.Γ,e,rfl,vS,by rw [h0];exact he,hr.1,by rw [h0];rfl⟩
     | succ j =>
      simp at ho
      obtain ⟨wT,ej,j1,j2,j3,j4,j5⟩:=i4 j o' ho
      have h0:gz (fun i=>i<k+(j+1)) k (e::es') ss.σ.get=gz (fun i=>i<k+1+j) (k+1) es' (ss.step e).σ.get:=by
       rw [BH]
       show gz (fun i=>i<k+(j+1)) (k+1) es' (if k<k+(j+1) then cY ss.σ.get e.wr else ss.σ.get)=_
       rw [if_pos (by omega)]
       have:(fun i=>i<k+(j+1))=fun i=>i<k+1+j:=by funext i;apply propext;omega
       congr 1
      refine ⟨wT,ej,by simpa using j1,j2,?_,j4,?_⟩
      ·rw [h0]
       have:ss.nt+jX*(j+1)=(ss.step e).nt+jX*j:=by simp only [SS.step,Nat.mul_add];omega
       rw [this];exact j3
      ·rw [h0];simpa [infos] using j5
theorem Il{j:Nat}{listed:Array Bool}(hsz:listed.size=ops.size):j∈Region.ready .any ops listed↔listed.getD j true=false/\ ∃o,ops[j]? =some o/\ ∀m∈ou o,listed.getD m false=true:=by
 unfold Region.ready ou
 simp only [List.mem_filter,List.mem_range,Bool.and_eq_true,Bool.not_eq_true']
 constructor
 ·rintro ⟨h1,h2,h3⟩
  refine ⟨h2,ops[j],by simp [h1],fun m hm=> ?_⟩
  simp only [Array.getElem?_eq_getElem h1,Option.map_some,Option.getD_some,Array.all_eq_true_iff_forall_mem] at h3
  simp only [List.mem_map,List.mem_filter] at hm
  obtain ⟨e,⟨he,hb⟩,rfl⟩:=hm
  have:=h3 e (by simpa using he)
  rw [hb] at this
  simpa using this
 ·rintro ⟨h1,o,h2,h3⟩
  have hlt:j<ops.size:=(Array.getElem?_eq_some_iff.1 h2).1
  refine ⟨hlt,h1,?_⟩
  simp only [h2,Option.map_some,Option.getD_some,Array.all_eq_true_iff_forall_mem]
  intro e he
  cases hb:Region.binds .any e with
  | false=>simp
  | true =>
   have:=h3 e.on (by simp only [List.mem_map,List.mem_filter];exact ⟨e,⟨by simpa using he,hb⟩,rfl⟩)
   simp [this]
def left(listed:Array Bool):Nat->Nat
 | 0=>0
 | n+1=>left listed n+if listed.getD n true=false then 1 else 0
theorem Od{listed:Array Bool}: ∀{n:Nat},left listed n=0-> ∀j,j<n->listed.getD j true=true
 | 0,_,j,hj=>absurd hj (by omega)
 | n+1,h,j,hj=>by
  simp only [left] at h
  by_cases e:j=n
  ·subst e
   cases hb:listed.getD j true with
   | true=>rfl
   | false=>rw [hb] at h;simp at h
  ·exact Od (n:=n) (by omega) j (by omega)
theorem FX{listed:Array Bool}{i j:Nat}{d:Bool}(hi:i<listed.size):(listed.setIfInBounds i true).getD j d=if j=i then true else listed.getD j d:=by
 simp only [Array.getD_eq_getD_getElem?,Array.getElem?_setIfInBounds]
 by_cases h:j=i
 ·subst h;simp [hi]
 ·simp [h,Ne.symm h]
theorem Oc{listed:Array Bool}{i:Nat}(hi:i<listed.size)(hf:listed.getD i true=false): ∀{n:Nat},left (listed.setIfInBounds i true) n+(if i<n then 1 else 0)=left listed n
 | 0=>rfl
 | n+1=>by
  have ih:=Oc hi hf (n:=n)
  simp only [left,FX hi]
  by_cases e:n=i
  ·subst e
   simp only [hf,if_true]
   simp at ih
   simp [ih]
  ·have hh:(if i<n then 1 else 0)=(if i<n+1 then 1 else 0:Nat):=by
    by_cases h:i<n
    ·rw [if_pos h,if_pos (show i<n+1 by omega)]
    ·rw [if_neg h,if_neg (show ¬i<n+1 by omega)]
   simp only [if_neg e]
   rw [<-hh]
   omega
def dn(listed:Array Bool):Nat->Prop:=fun i=>listed.getD i false=true
instance (listed:Array Bool):DecidablePred (dn listed):=fun i=>inferInstanceAs (Decidable (_=_))
def QA(nt:Nat)(listed:Array Bool):Nat->Prop:=fun x=>x<nt\/ ∃j,dn listed j/\ef (nt+jX*j) x
theorem EW{l:List Oper}{B:List (List Nat)}(hE:uZ l B=true){S:Nat->Prop}(hc: ∀j o,S j->l[j]? =some o-> ∀m∈ou o,S m): ∀(n j:Nat),j<n->S j-> ∀i∈B.getD j [],j<l.length->S i
 | 0,j,h,_,_,_,_=>absurd h (by omega)
 | n+1,j,hj,hS,i,hi,hl=>by
  unfold uZ at hE
  have h1:=List.all_eq_true.1 hE j (by simpa using hl)
  have hlo:l[j]? =some l[j]:=List.getElem?_eq_getElem hl
  rw [hlo] at h1
  simp only [Bool.and_eq_true,List.all_eq_true,Bool.or_eq_true,List.any_eq_true] at h1
  have hd: ∀m∈ou l[j],S m/\m<j:=fun m hm=>⟨hc j _ hS hlo m hm,Nat.le_of_ble_eq_true (h1.1 m hm)⟩
  rcases h1.2 i hi with h|⟨m,hm,Gz⟩
  ·exact (hd i (by simpa using h)).1
  ·exact EW (by unfold uZ;exact hE) hc n m (by have:=(hd m hm).2;omega) (hd m hm).1 i (by simpa using Gz) (by have:=(hd m hm).2;omega)
theorem UQ{l:List Oper}{B:List (List Nat)}(hE:uZ l B=true){S:Nat->Prop}(hc: ∀j o,S j->l[j]? =some o-> ∀m∈ou o,S m){j:Nat}{o:Oper}(ho:l[j]? =some o)(hr: ∀m∈ou o,S m): ∀i∈B.getD j [],S i:=by
 intro i hi
 have hl:j<l.length:=(List.getElem?_eq_some_iff.1 ho).1
 have hE':=hE
 unfold uZ at hE
 have h1:=List.all_eq_true.1 hE j (by simpa using hl)
 rw [ho] at h1
 simp only [Bool.and_eq_true,List.all_eq_true,Bool.or_eq_true,List.any_eq_true] at h1
 rcases h1.2 i hi with h|⟨m,hm,Gz⟩
 ·exact hr i (by simpa using h)
 ·have M8:m<j:=Nat.le_of_ble_eq_true (h1.1 m hm)
  exact EW hE' hc (m+1) m (by omega) (hr m hm) i (by simpa using Gz) (by omega)
theorem acb(aH:cD P cx.tb cx.tb=true)(hnt:c.nt=cx.nt)(hm:P.follows .mixedOrders=true){Q:Exit->Act->World->Prop}{id:Nat}{ss s:SS}{es:List aT}(h:jo cx ops ops.toList ss=some (es,s))(hok:CE ops es ss=true)(aB:bL cx.tb.tab s.Γ c.env)(hr:qN P c.env ss.Γ.length es)
  {bm:Nat->Nat} {tm:Nat->Value} {a:Act} {w:World} (hQ: ∀cG tm' a' w',aL c (below s.nt) s.σ.get cG tm' a' w'->Q .normal a' w') (hs:aL c (below ss.nt) ss.σ.get bm tm a w):(Code.region id ops true).wp P Q a w:=by
 unfold CE at hok
 simp only [Bool.and_eq_true] at hok
 obtain ⟨hE,Gb⟩:=hok
 generalize hB:Cl ops.toList []=B at hE Gb
 obtain ⟨hlen,hall,mL,hat⟩:=Ps (S0:=0) (k:=0) h aB hr
 obtain ⟨_,_,Dn,_⟩:=wB h
 have GJ: ∀i j,i<j->j<ops.size->i∉B.getD j []-> ∀a b,(infos ops ops.toList es ss)[i]? =some a->(infos ops ops.toList es ss)[j]? =some b->uX a.2 b.1=true/\uX a.1 b.2=true/\uX a.2 b.2=true:=by
  intro i j hij hj hn x y hx hy
  unfold Pa at Gb
  have h1:=List.all_eq_true.1 Gb j (by simpa [mL] using hj)
  have h2:=List.all_eq_true.1 h1 i (by simpa using hij)
  simp only [Bool.or_eq_true,Bool.and_eq_true,List.getD,hx,hy,Option.getD_some] at h2
  rcases h2 with h2|h2
  ·exact absurd (by simpa [List.getD] using h2) hn
  ·exact ⟨h2.1.1,h2.1.2,h2.2⟩
 refine wp_region_any hm ?_
 have key: ∀(fuel:Nat) (listed:Array Bool) (bm:Nat->Nat) (tm:Nat->Value) (a:Act) (w:World),listed.size=ops.size->(∀j o,dn listed j->ops[j]? =some o-> ∀m∈ou o,dn listed m)->left listed ops.size<=fuel ->
   aL c (QA ss.nt listed) (gz (dn listed) 0 es ss.σ.get) bm tm a w->wpAny P .any ops Q fuel listed a w:=by
  have hdone: ∀(listed:Array Bool) (bm:Nat->Nat) (tm:Nat->Value) (a:Act) (w:World),listed.size=ops.size->(∀j,j<ops.size->listed.getD j true=true)->aL c (QA ss.nt listed) (gz (dn listed) 0 es ss.σ.get) bm tm a w->Q .normal a w:=by
   intro listed bm tm a w hsz hl hS
   have hd: ∀j,dn listed j↔j<ops.size:=fun j=>by
    unfold dn
    constructor
    ·intro h
     rcases Nat.lt_or_ge j ops.size with h'|h'
     ·exact h'
     ·simp [Array.getD_eq_getD_getElem?,Array.getElem?_eq_none (show listed.size<=j by omega)] at h
    ·intro h
     have:=hl j h
     simp only [Array.getD_eq_getD_getElem?,Array.getElem?_eq_getElem (show j<listed.size by omega),Option.getD_some] at this ⊢
     exact this
   refine hQ bm tm a w ?_
   have he:gz (dn listed) 0 es ss.σ.get=s.σ.get:=by
    rw [hall]
    funext x
    refine zK (fun i e hi _=> ?_) rfl
    have:i<es.length:=(List.getElem?_eq_some_iff.1 hi).1
    rw [hlen,Array.length_toList] at this
    rw [Nat.zero_add]
    exact ⟨fun _=>trivial,fun _=>(hd i).2 this⟩
   rw [<-he]
   refine hS.mono fun x hx=> ?_
   unfold below
   rw [Dn,Array.length_toList]
   rcases hx with hx|⟨j,hj,hx⟩
   ·omega
   ·have:=(hd j).1 hj;have:=hx.2;simp only [jX] at *;omega
  have YQ: ∀(listed:Array Bool),listed.size=ops.size->Region.ready .any ops listed=[]-> ∀j,j<ops.size->listed.getD j true=true:=by
   intro listed hsz hnil j
   induction j using Nat.strongRecOn with
   | _ j ih =>
    intro hj
    cases hb:listed.getD j true with
    | true=>rfl
    | false =>
     exfalso
     have hlo:ops[j]? =some ops[j]:=Array.getElem?_eq_getElem hj
     have:j∈Region.ready .any ops listed:=(Il hsz).2 ⟨hb,ops[j],hlo,fun m hm=>by
      unfold uZ at hE
      have h1:=List.all_eq_true.1 hE j (by simpa using hj)
      have Yy:ops.toList[j]? =some ops[j]:=by simp [hlo]
      rw [Yy] at h1
      simp only [Bool.and_eq_true,List.all_eq_true] at h1
      have M8:m<j:=Nat.le_of_ble_eq_true (h1.1 m hm)
      have:=ih m M8 (by omega)
      simp only [Array.getD_eq_getD_getElem?,Array.getElem?_eq_getElem (show m<listed.size by omega),Option.getD_some] at this ⊢
      exact this⟩
     rw [hnil] at this
     simp at this
  intro fuel
  induction fuel with
  | zero =>
   intro listed bm tm a w hsz hcl hlf hS
   have hl:=Od (Nat.le_zero.1 hlf)
   refine ⟨?_,hdone listed bm tm a w hsz hl hS⟩
   cases hr:Region.ready .any ops listed with
   | nil=>rfl
   | cons j _ =>
    have hj:j∈Region.ready .any ops listed:=by rw [hr];simp
    obtain ⟨h1,o,h2,_⟩:=(Il hsz).1 hj
    have:=hl j (Array.getElem?_eq_some_iff.1 h2).1
    rw [h1] at this;cases this
  | succ fuel ih =>
   intro listed bm tm a w hsz hcl hlf hS
   refine ⟨fun hnil=>hdone listed bm tm a w hsz (YQ listed hsz hnil) hS,fun j hj=> ?_⟩
   obtain ⟨hf,o,ho,MC⟩:=(Il hsz).1 hj
   have MR:j<ops.size:=(Array.getElem?_eq_some_iff.1 ho).1
   have GF: ¬dn listed j:=fun h=>by
    unfold dn at h
    simp only [Array.getD_eq_getD_getElem?,Array.getElem?_eq_getElem (show j<listed.size by omega),Option.getD_some] at h hf
    rw [h] at hf;cases hf
   have ho':ops.toList[j]? =some o:=by simp [ho]
   obtain ⟨wT,e,he,Zp,AA,rK,Gu⟩:=hat j o ho'
   have Mx: ∀i o,dn listed i->ops.toList[i]? =some o-> ∀m∈ou o,dn listed m:=fun i o hi yC=>hcl i o hi (by simpa using yC)
   have X5: ∀i∈B.getD j [],dn listed i:=UQ hE Mx ho' MC
   have M9: ∀i,dn listed i->i<ops.size->j∉B.getD i []:=fun i hi hlt hin=>GF (EW hE Mx (i+1) i (by omega) hi j hin (by simpa using hlt))
   have Gp: ∀i e',es[i]? =some e'->i<ops.size:=fun i e' hi=>by
    have:i<es.length:=(List.getElem?_eq_some_iff.1 hi).1
    rwa [hlen,Array.length_toList] at this
   have MP: ∀i e',es[i]? =some e'-> ∃rd,(infos ops ops.toList es ss)[i]? =some (rd,wS e'):=fun i e' hi=>by
    have hlt:=Gp i e' hi
    obtain ⟨_,e2,h2,_,_,_,h5⟩:=hat i ops[i] (by simp [hlt])
    rw [h2] at hi;simp at hi;subst hi
    exact ⟨_,h5⟩
   have hal:Alike ops o (gz (fun i=>i<0+j) 0 es ss.σ.get) (gz (dn listed) 0 es ss.σ.get):=Alike.of fun x hx=>by
    refine zK (fun i e' hi hw=> ?_) rfl
    have hlt:=Gp i e' hi
    obtain ⟨rd,vH⟩:=MP i e' hi
    simp only [Nat.zero_add]
    constructor
    ·intro hd
     rcases Nat.lt_trichotomy i j with h|h|h
     ·exact h
     ·subst h;exact absurd hd GF
     ·obtain ⟨_,q,_⟩:=GJ j i h hlt (M9 i hd hlt) _ _ Gu vH
      exact absurd hw (fun hw=>Fm q hx hw)
    ·intro hd
     by_cases hb:i∈B.getD j []
     ·exact X5 i hb
     ·obtain ⟨q,_,_⟩:=GJ i j hd MR hb _ _ vH Gu
      exact (Fm q hw hx).elim
   have Yg:pK cx ops wT (ss.nt+jX*j) o (gz (dn listed) 0 es ss.σ.get)=some e:=by rw [abG hal];exact AA
   have hjl:j<listed.size:=by omega
   refine Ex aH hnt hS Zp (g:=ss.nt+jX*j) ?_ ho Yg rK fun cG tm' a' w' C5=> ?_
   ·rintro x Dz (h|⟨i,hi,h⟩)
    ·have:=Dz.1;omega
    ·have:i=j:=by
      have q1:=Dz.1;have q2:=Dz.2;have q3:=h.1;have q4:=h.2
      simp only [jX] at *;omega
     subst this;exact GF hi
   ·refine ih (listed.setIfInBounds j true) cG tm' a' w' (by simpa using hsz) ?_ ?_ ?_
    ·intro i o' hi yC m M7
     unfold dn at *
     rw [FX hjl] at hi ⊢
     split at hi
     ·rename_i e';subst e'
      rw [ho] at yC;simp at yC;subst yC
      have:=MC m M7
      split
      ·rfl
      ·exact this
     ·have:=hcl i o' hi yC m M7
      split
      ·rfl
      ·exact this
    ·have:=Oc hjl hf (n:=ops.size)
     rw [if_pos MR] at this
     omega
    ·have fP: ∀i,dn (listed.setIfInBounds j true) i↔(i=j\/dn listed i):=fun i=>by
      unfold dn
      rw [FX hjl]
      split
      ·rename_i e';exact ⟨fun _=> .inl e',fun _=>rfl⟩
      ·rename_i e';exact ⟨.inr,fun h=>h.resolve_left e'⟩
     have hst:gz (dn (listed.setIfInBounds j true)) 0 es ss.σ.get=cY (gz (dn listed) 0 es ss.σ.get) e.wr:=by
      funext x
      by_cases hx:x∈wS e
      ·refine JU (j:=j) he (by rw [Nat.zero_add];exact (fP j).2 (.inl rfl)) hx (fun i e' hi hji hw hd=> ?_) _
       rw [Nat.zero_add] at hd
       have hlt:=Gp i e' hi
       obtain ⟨rd,vH⟩:=MP i e' hi
       have hd':=((fP i).1 hd).resolve_left (by omega)
       obtain ⟨_,_,q⟩:=GJ j i hji hlt (M9 i hd' hlt) _ _ Gu vH
       exact Fm q hx hw
      ·rw [zt hx]
       refine zK (fun i e' hi hw=> ?_) rfl
       rw [Nat.zero_add]
       constructor
       ·intro h
        refine ((fP i).1 h).resolve_left ?_
        rintro rfl
        rw [he] at hi;simp at hi;subst hi
        exact hx hw
       ·exact fun h=>(fP i).2 (.inr h)
     rw [hst]
     refine C5.mono fun x hx=> ?_
     rcases hx with (hx|⟨i,hi,hx⟩)|hx
     ·exact .inl hx
     ·exact .inr ⟨i,(fP i).2 (.inr hi),hx⟩
     ·exact .inr ⟨j,(fP j).2 (.inl rfl),hx⟩
 have h0: ∀j,¬dn (Array.replicate ops.size false) j:=fun j h=>by
  unfold dn at h
  simp only [Array.getD_eq_getD_getElem?,Array.getElem?_replicate] at h
  split at h<;>simp at h
 refine key ops.size (Array.replicate ops.size false) bm tm a _ (by simp) (fun j o hj=>absurd hj (h0 j)) ?_ ?_
 ·have: ∀n,left (Array.replicate ops.size false) n<=n:=fun n=>by
   induction n with
   | zero=>exact Nat.le_refl _
   | succ n ih=>simp only [left];split<;>omega
  exact this _
 ·have e0:gz (dn (Array.replicate ops.size false)) 0 es ss.σ.get=ss.σ.get:=Ci fun i _=>h0 i
  rw [e0]
  refine aL.mono (F:=below ss.nt) ?_ fun x hx=> .inl hx
  exact hs.grow ((Below.refl _ _).drew)
end
end
section
open Go.RowKit
variable [GC]
def E.dK(n:Nat):E->Bool
 | .var i=>Nat.blt i n
 | .lb _| .li _ _| .ls _| .bw _| .cB| .bH| .fn0 _=>true
 | .ar _ _ x y| .ic _ x y| .sc _ x y| .iG x y| .kE x y| .bc x y| .ae x y| .an x y| .or x y| .row _ x y| .at x y| .cat x y| .aI x y| .app x y| .put x y| .bP x y| .few x y| .zj _ x y| .CX x y=>x.dK n&&y.dK n
 | .no x| .conv _ x| .len x| .qb x| .cell x _| .sub x _ _| .proj x _| .ah x| .mem x| .rep _ _ x=>x.dK n
 | .ite x y z| .cut x y z| .inc x y z| .aV x y z _=>x.dK n&&y.dK n&&z.dK n
theorem E.KG{env more:List D}{n:Nat}(hn:n<=env.length): ∀(e:E),e.dK n=true->e.den (env++more)=e.den env:=by
 intro e
 induction e<;>intro h<;>simp only [E.dK,Bool.and_eq_true] at h<;>simp only [E.den]
 case var i =>
  have:i<env.length:=Nat.lt_of_lt_of_le (Nat.le_of_ble_eq_true h) hn
  simp [List.getD,List.getElem?_append_left this]
 all_goals simp_all
def nC(n:Nat)(gs:Gd):Bool:=gs.all fun x=>x.1.dK n
def jq(n:Nat):ST->Bool
 | .v gs _ e=>nC n gs&&e.dK n
 | .ptr gs _ _=>nC n gs
 | .ro gs e _=>nC n gs&&e.dK n
 | .gp gs _ x i=>nC n gs&&x.dK n&&i.dK n
 | .mp gs _ _ i _=>nC n gs&&i.dK n
 | .iv gs _ _ _ i _ l=>nC n gs&&i.dK n&&l.dK n
 | .ip gs _ _ _ i _ j _ _=>nC n gs&&i.dK n&&j.dK n
 | .box cs=>cs.all fun x=>x.2.dK n
 | .live m=>(match m.body with|some (e,_)=>e.dK n|none=>true)
 | _=>true
def yS(n:Nat):K->Bool
 | .own g=>Nat.blt g n
 | .ag ks=>ks.all fun k=>match k with| .own g=>Nat.blt g n|_=>true
 | _=>true
def kF(n:Nat):ST->Bool
 | .v _ k _=>yS n k
 | .ptr _ id _=>Nat.blt id n
 | .mp _ g _ _ _=>Nat.blt g n
 | .iv _ g gv _ _ _ _=>Nat.blt g n&&Nat.blt gv n
 | .ip _ g gv _ _ _ _ _ _=>Nat.blt g n&&Nat.blt gv n
 | .live m=>(match m.body with|some (_,some (gv,_))=>Nat.blt gv n|_=>true)
 | .box cs=>cs.all fun x=>yS n x.1
 | _=>true
inductive Slot where
 | t (t:Nat)|b (id j:Nat)|m (g:Nat)
 deriving DecidableEq
def qB(σ:Nat->ST):Slot->Option (K×E)
 | .t t=>match σ (3*t) with| .v [] k e=>some (k,e)|_=>none
 | .b id j=>match σ (3*id+1) with| .box cs=>cs[j]? |_=>none
 | .m g=>match σ (3*g+2) with| .live ⟨_,some (e,_)⟩=>some (.d,e)|_=>none
structure Head where
 slots:List Slot
 ks:List K
 cT:List VT
 hd:SS
def vU(tab:Nat->List CT)(σ:Nat->ST)(ty:VT):K->K->Bool
 | .d,_=>true
 | .own _,.full=>(match ty with| .one (.c (.sl _))=>true|_=>false)
 | .own _,.own g=>(match ty with| .one (.c (.sl el))=>decide (σ (3*g+2)= .live ⟨(tab el).length,none⟩)|_=>false)
 | _,_=>false
def rZ(tab:Nat->List CT)(Γ:List VT)(σ:Nat->ST):List Slot->List K->List VT->Option (List (K×E))
 | [],[],[]=>some []
 | s::ss,k::ks,ty::cT=>match qB σ s,rZ tab Γ σ ss ks cT with
  | some (k',e'),some r=>bif decide (e'.inf tab Γ=some ty)&&vU tab σ ty k k' then some ((k',e')::r) else none
  | _,_=>none
 | _,_,_=>none
def lA:List K->List (K×E)->List Nat
 | .own _::ks,(.own g,_)::r=>g::lA ks r
 | _::ks,_::r=>lA ks r
 | _,_=>[]
def vX:List Nat->Bool
 | []=>true
 | x::r=> !r.contains x&&vX r
def rO(nt:Nat):Nat->List K->Bool
 | _,[]=>true
 | i,.d::r=>rO nt (i+1) r
 | i,.own g::r=>Nat.beq g (nt+i)&&rO nt (i+1) r
 | _,_::_=>false
def qA(n nt:Nat)(σ:Nat->ST)(l:Nat)(h:ST):Bool:=decide (σ l=h)&&jq n h&&kF nt h
def CD(k:Nat):Option (Nat×List Nat)->Option (Nat×List Nat)->Bool
 | none,none=>true
 | some (gv,ms),some (_,ms')=>Nat.beq gv k&&decide (ms=ms')
 | _,_=>false
def Ov(n nt:Nat)(H:Head)(σ:Nat->ST)(l:Nat)(m:LV):Bool :=
 match m.body,σ l with
 | some (.var v,dp),.live ⟨n',some (_,nA)⟩=>Nat.ble n v&&decide (H.slots[v-n]? =some (.m (l/3)))&&Nat.beq n' m.n&&CD (nt+(v-n)) dp nA
 | _,_=>false
def qT(tab:Nat->List CT)(n nt:Nat)(H:Head)(σ:Nat->ST)(used:List Nat)(l:Nat)(h:ST):Bool :=
 match h with
 | .un=>true
 | .v [] k (.var v)=>(Nat.ble n v&&Nat.beq (l%3) 0&&decide (H.slots[v-n]? =some (.t (l/3)))&&decide (H.ks[v-n]? =some k))||qA n nt σ l h
 | .box cs=>Nat.beq (l%3) 1&&Nat.blt (l/3) nt&&(((match σ l with| .box cs'=>Nat.beq cs'.length cs.length|_=>false)&&cs.zipIdx.all fun x=>match x.1.2 with
   | .var v=>Nat.ble n v&&decide (H.slots[v-n]? =some (.b (l/3) x.2))&&decide (H.ks[v-n]? =some x.1.1)
   | _=>false)||qA n nt σ l h)
 | .live m=>Nat.beq (l%3) 2&&((m.body.isNone&&Nat.ble nt (l/3)&&decide (H.ks[l/3-nt]? =some (.own (l/3)))&&(match H.cT[l/3-nt]? with|some (.one (.c (.sl el)))=>Nat.beq m.n (tab el).length|_=>false))
   || (Nat.blt (l/3) nt&& !used.contains (l/3)&&(qA n nt σ l h||Ov n nt H σ l m)))
 | _=>qA n nt σ l h
def back(tab:Nat->List CT)(n nt:Nat)(H:Head)(s:SS):Option (List E) :=
 match rZ tab s.Γ s.σ.get H.slots H.ks H.cT with
 | some vs=>bif vX (lA H.ks vs)&&rO nt 0 H.ks&&Nat.beq H.hd.nt (nt+H.slots.length)&&Nat.ble nt s.nt&&Nat.blt 0 nt&&H.hd.σ.all (fun x=>qT tab n nt H s.σ.get (lA H.ks vs) x.1 (H.hd.σ.get x.1)) then some (vs.map (·.2)) else none
 | none=>none
def fT:Code->Bool
 | .ret=>true
 | .seq a b=>Bv a&&fT b
 | .cond _ a b=>fT a&&fT b
 | _=>false
where Bv:Code->Bool
 | .region _ _ _| .skip=>true
 | .seq a b=>Bv a&&Bv b
 | .cond _ a b=>(Bv a||fT a)&&(Bv b||fT b)
 | .ret=>true
 | _=>false
def opsOf:Code->List Oper
 | .region _ ops _=>ops.toList
 | .seq a b=>bif fT (.seq a b) then [] else opsOf a++opsOf b
 | .cond _ a b=>opsOf a++opsOf b
 | .block _ c| .loop c=>opsOf c
 | _=>[]
def ug(x:Nat):List Nat->Bool
 | []=>false
 | y::r=>Nat.beq x y||ug x r
def UN(l:List Oper):List Nat:=l.filterMap (·.dst)
def rootOf(l:List Oper)(ml:List Nat)(σ:Nat->ST):Nat->Nat->Option Nat
 | 0,_=>none
 | f+1,t=>bif ug t ml then
   match l.find? (fun o=>decide (o.dst=some t)) with
   | some o=>match o.op with
    | .fieldAddr _ (.tmp u) _| .move (.tmp u)| .assign (.tmp u)| .nilCheck (.tmp u)=>rootOf l ml σ f u
    | _=>none
   | none=>none
  else match σ (3*t) with
   | .ptr _ id _=>some id
   | _=>none
def J7(l:List Oper)(ml:List Nat)(σ:Nat->ST):List Oper->List Nat
 | []=>[]
 | o::r =>
  let more:=J7 l ml σ r
  let one (t:Nat):=match rootOf l ml σ 20 t with|some id=>bif ug id more then more else id::more|none=>more
  match o.op with
  | .store _ (.tmp t) _=>one t
  | .call c=>match c.callee,c.args.toList with
   | .value (.func _),.tmp t::_=>one t
   | _,_=>more
  | _=>more
def dedup:List Nat->List Nat
 | []=>[]
 | x::r=>bif ug x r then dedup r else x::dedup r
def IK(σ:Nat->ST):List Nat->List Slot
 | []=>[]
 | t::r=>match σ (3*t) with
  | .v [] _ _=> .t t::IK σ r
  | _=>IK σ r
def IJ(σ:Nat->ST):List Nat->List Slot
 | []=>[]
 | id::r=>match σ (3*id+1) with
  | .box cs=>(List.range cs.length).map (.b id)++IJ σ r
  | _=>IJ σ r
def Dc(nt:Nat):Nat->List (K×E)->List K
 | _,[]=>[]
 | i,(.d,_)::r=> .d::Dc nt (i+1) r
 | i,(.ag _,_)::r=> .d::Dc nt (i+1) r
 | i,(_,_)::r=> .own (nt+i)::Dc nt (i+1) r
def MF(tab:Nat->List CT)(Γ:List VT):List (K×E)->List VT
 | []=>[]
 | (_,e)::r=>(e.inf tab Γ).getD (.aC [])::MF tab Γ r
def Gk(n:Nat)(slots:List Slot)(ks:List K)(σ:Nat->ST):List Nat->Sg
 | []=>[]
 | id::r=>match σ (3*id+1) with
  | .box cs=>(3*id+1,.box ((List.range cs.length).map fun j=>match slots.idxOf? (.b id j) with
    | some i=>(ks.getD i .d,.var (n+i))
    | none=>(.d,.cB)))::Gk n slots ks σ r
  | _=>Gk n slots ks σ r
def ME(n:Nat)(slots:List Slot)(ks:List K):List Nat->Sg
 | []=>[]
 | t::r=>(3*t,match slots.idxOf? (.t t) with|some i=> .v [] (ks.getD i .d) (.var (n+i))|none=> .un)::ME n slots ks r
def Gm(tab:Nat->List CT):List K->List VT->Sg
 | .own g::ks,.one (.c (.sl el))::cT=>(3*g+2,.live ⟨(tab el).length,none⟩)::Gm tab ks cT
 | _::ks,_::cT=>Gm tab ks cT
 | _,_=>[]
def Qo(l:List Oper)(ml:List Nat)(σ:Nat->ST):List Oper->Bool
 | []=>false
 | o::r=>(match o.op with| .store _ (.tmp t) _=>(rootOf l ml σ 20 t).isNone|_=>false)||Qo l ml σ r
def abm(σ:Sg):List Nat:=dedup ((σ.filter fun x=>Nat.beq (x.1%3) 2&&(match σ.get x.1 with| .live ⟨_,some _⟩=>true|_=>false)).map fun x=>x.1/3)
def Gn(n nt:Nat)(slots:List Slot)(σ:Nat->ST):List Nat->Sg
 | []=>[]
 | g::r=>match slots.idxOf? (.m g),σ (3*g+2) with
  | some i,.live ⟨k,some (_,dp)⟩=>(3*g+2,.live ⟨k,some (.var (n+i),dp.map fun x=>(nt+i,x.2))⟩)::Gn n nt slots σ r
  | _,_=>Gn n nt slots σ r
def Gl:List (K×E)->Sg
 | []=>[]
 | (.own g,_)::r=>(3*g+2,.un)::Gl r
 | _::r=>Gl r
def OC(tab:Nat->List CT)(c:Code)(ss:SS):Head :=
 let l:=opsOf c
 let ml:=dedup (UN l)
 let bs:=dedup (J7 l ml ss.σ.get l)
 let ms:=bif Qo l ml ss.σ.get l then abm ss.σ else []
 let slots:=IK ss.σ.get ml++IJ ss.σ.get bs++ms.map .m
 let vs:=slots.filterMap (qB ss.σ.get)
 let ks:=Dc ss.nt 0 vs
 let cT:=MF tab ss.Γ vs
 let n:=ss.Γ.length
 {slots,ks,cT,hd:={Γ:=ss.Γ++cT,nt:=ss.nt+slots.length,lv:=ss.lv+1,σ:=ME n slots ks ml++Gk n slots ks ss.σ.get bs++Gn n ss.nt slots ss.σ.get ms++Gm tab ks cT++Gl vs++ss.σ}}
def nR:Nat->Nat->List VT->Sg
 | _,_,[]=>[]
 | k,j,_::r=>(3*k,.v [] .d (.var j))::nR (k+1) (j+1) r
def vtP:VT->VT
 | .aC [.c .fn]=> .one (.c .fn)
 | vt=>vt
def qO(tb:TB):List Nat->Option (List VT)
 | []=>some []
 | T::r=>match tb.get T,qO tb r with
  | some i,some l=>some (vtP i.vt::l)
  | _,_=>none
def Be(tb:TB)(params:List Nat)(bx:Option (List CT)):Option SS :=
 match bx,params with
 | none,ps=>match qO tb ps with
  | some Γ=>some {Γ,nt:=0,lv:=0,σ:=nR 0 0 Γ}
  | none=>none
 | some cs,_::ps=>match qO tb ps with
  | some Γ=>some {Γ:=Γ++cs.map (fun t=> .one (.c t)),nt:=1,lv:=0,σ:=(0,.ptr [] 0 0)::(1,.box (vars Γ.length cs))::nR 1 0 Γ}
  | none=>none
 | some _,[]=>none
structure Fx where
 cx:Cx
 res:List ResultVar
 bx:Bool
 rt:List (Nat×Nat):=[]
def ib(σ:Nat->ST):Nat->ST:=fun l=>match σ l with| .live m=> .live ⟨m.n,none⟩|st=>st
def zN(σ:Nat->ST)(g:Nat):Option E:=match σ (3*g+2) with| .live ⟨_,some (b,_)⟩=>some b|_=>none
def yU(σ:Nat->ST):KK->Option E
 | .own g=>zN σ g
 | _=>none
def Ae(tab:Nat->List CT)(Γ:List VT)(σ:Nat->ST):K->E->E
 | .own g,e=>(zN σ g).getD e
 | .ag ks,e=>bif (ks.any fun kk=>(yU σ kk).isSome)&&(match e.inf tab Γ with|some (.one (.agg us))=>Nat.beq us.length ks.length|_=>false) then mk ((List.range ks.length).map fun j=>(yU σ (ks.getD j .d)).getD (.cell e j)) else e
 | _,e=>e
def DZ(tb:TB)(ss:SS):ResultVar->Option (K×E)
 | .tmp t=>match ss.σ.get (3*t) with| .v [] k e=>some (k,Ae tb.tab ss.Γ ss.σ.get k e)|_=>none
 | .cell t T=>match ss.σ.get (3*t),tb.get T with
  | .ptr [] id 0,some ti=>match ss.σ.get (3*id+1),ti.vt with
   | .box cs,.one (.agg ts)=>bif Nat.beq ts.length cs.length then some (qw (cs.map (·.1)),pack tb.tab ss.Γ (cs.map fun x=>Ae tb.tab ss.Γ ss.σ.get x.1 x.2)) else none
   | .box [(k,e)],.one (.c _)=>some (k,e)
   | _,_=>none
  | _,_=>none
def BB(tb:TB)(ss:SS):List ResultVar->Option (List (K×E))
 | []=>some []
 | r::rs=>match DZ tb ss r,BB tb ss rs with
  | some e,some es=>some (e::es)
  | _,_=>none
def xz(tab:Nat->List CT)(Γ:List VT):List (K×E)->Option (List KK)
 | []=>some []
 | (k,e)::r=>match e.inf tab Γ,xz tab Γ r with
  | some (.one (.c _)),some l=>some (k.kk::l)
  | some (.one (.agg ts)),some l=>some ((List.range ts.length).map (fun j=>(k.nth j).kk)++l)
  | _,_=>none
def D6(σ:Nat->ST)(l:List KK):List (Nat×Nat)->Option (List Nat)
 | []=>some []
 | (p,m)::r=>match l[p]?,D6 σ l r with
  | some .full,some q=>some q
  | some (.own g),some q=>if σ (3*g+2)= .live ⟨m,none⟩/\ug g q=false then some (g::q) else none
  | _,_=>none
def D5(tab:Nat->List CT)(Γ:List VT)(σ:Nat->ST)(es:List (K×E)):List (Nat×Nat)->Bool
 | []=>true
 | rt=>match xz tab Γ es with|some l=>(D6 σ l rt).isSome|none=>false
def BO:List E->E->E
 | [],acc=>acc
 | e::r,acc=>BO r (.aI acc e)
def Br:List E->E
 | [e]=>e
 | es=>BO es .bH
def wC(fx:Fx)(ss:SS):VC :=
 match BB fx.cx.tb ss fx.res with
 | some es =>
  bif D5 fx.cx.tb.tab ss.Γ (ib ss.σ.get) es fx.rt then
   bif fx.bx then match ss.σ.get 1 with
    | .box cs=> .ret (Br (es.map (·.2))) (cs.map (·.2))
    | _=> .fail 1
   else .ret (Br (es.map (·.2))) []
  else .fail 10
 | none=> .fail 0
def Bm(id:Nat):List (Nat×(SS->VC))->Option (SS->VC)
 | []=>none
 | (i,k)::r=>bif Nat.beq i id then some k else Bm id r
def Ch(tab:Nat->List CT)(n nt lv:Nat)(H:Head)(s:SS):VC :=
 match back tab n nt H s with
 | some es=>bif Nat.blt lv s.lv then .again (s.lv-lv-1) es else .fail 2
 | none=> .fail 3
def uq(n:Nat):Rq->Bool
 | .cond gs c=>nC n gs&&c.dK n
 | .gA _ bx args _ _ _=>(match bx with|none=>true|some l=>l.all (·.dK n))&&args.all (·.dK n)
 | .call gs _ bx args _ _=>nC n gs&&(match bx with|none=>true|some l=>l.all (·.dK n))&&args.all (·.dK n)
 | .new _ args _=>args.all (·.dK n)
 | .dL gs e args _=>nC n gs&&e.dK n&&args.all (·.dK n)
 | .oy _ _ ix=>(match ix with|none=>true|some (gs,e,_)=>nC n gs&&e.dK n)
def xN:Nat->List aT->Bool
 | _,[]=>true
 | n,e::r=>e.rq.all (uq n)&&xN (n+(gZ e.rq).length) r
def Ic(es:List aT):Bool:=es.all fun e=>Nat.ble e.rq.length 1
def yQ:List aT->Bool
 | []=>true
 | e::r=>(match e.rq with|[]=>true|_=>false)&&yQ r
def FP(j d:Nat)(v:Bool)(o:Oper):Option Oper :=
 match o.guard with
 | some (i,b)=>bif Nat.beq i j then (bif b==v then some {o with guard:=none} else none) else some o
 | none=>match o.op with
  | .pick (.tmp t) x y=>bif Nat.beq t d then some {o with op:= .move (bif v then x else y)} else some o
  | _=>some o
def FO(cx:Cx)(ops:Array Oper)(j d:Nat)(v:Bool)(Γ:List VT)(g:Nat)(o:Oper)(σ:Nat->ST):Option aT :=
 match FP j d v o with
 | some o'=>pK cx ops Γ g o' σ
 | none=>bif xD cx.nt o.dst then some ⟨wv o.dst .un,[]⟩ else none
def Dq(σ:Nat->ST)(d:Nat)(c:E):Bool:=match σ (3*d) with
 | .v [] _ e=>decide (e=c)
 | _=>false
def uw(cx:Cx)(ops:Array Oper)(j d:Nat)(v:Bool)(c:E):List Oper->SS->Option (List aT×SS)
 | [],ss=>some ([],ss)
 | o::r,ss=>bif Dq ss.σ.get d c then match FO cx ops j d v ss.Γ ss.nt o ss.σ.get with
   | none=>none
   | some e=>match uw cx ops j d v c r (ss.step e) with
    | none=>none
    | some (es,s)=>some (e::es,s)
  else none
def qC:List Oper->List Oper×List Oper
 | []=>([],[])
 | o::r=>match o.guard with
  | none=>(o::(qC r).1,(qC r).2)
  | some _=>([],o::r)
def y6(ss:SS)(es:List aT):Bool:=(yQ es||ss.σ.all fun x=>jq ss.Γ.length (ss.σ.get x.1))&&xN ss.Γ.length es&&Ic es
def C2(cx:Cx)(ops:Array Oper)(j d:Nat)(c:E)(l:List Oper)(s:SS)(n:Nat)(k:SS->VC)(v:Bool):VC :=
 match uw cx ops j d v c l s with
 | some (es,s')=>bif y6 s es then uu es (k s') else .fail n
 | none=> .fail n
def Im(cx:Cx)(ops:Array Oper)(ss:SS)(n:Nat)(k:SS->VC):VC :=
 match (qC ops.toList).2 with
 | []=> .fail n
 | o::r=>match o.guard with
  | none=> .fail n
  | some (j,_)=>match (ops[j]?).bind (·.dst) with
   | none=> .fail n
   | some d=>match jo cx ops (qC ops.toList).1 ss with
    | none=> .fail n
    | some (es,s)=>match s.σ.get (3*d) with
     | .v [] _ c=>bif y6 ss es&&fg .bool (c.inf cx.tb.tab s.Γ)&&c.dK s.Γ.length then uu es (.ite c (C2 cx ops j d c (o::r) s n k true) (C2 cx ops j d c (o::r) s n k false)) else .fail n
     | _=> .fail n
def sx(fx:Fx):Code->SS->List (Nat×(SS->VC))->(SS->VC)->VC
 | .skip,ss,_,k=>k ss
 | .region id ops draw,ss,_,k=>match jo fx.cx ops ops.toList ss with
  | some (es,s)=>bif (!draw||CE ops es ss)&&(yQ es||ss.σ.all fun x=>jq ss.Γ.length (ss.σ.get x.1))&&xN ss.Γ.length es&&Ic es then uu es (k s) else .fail (1000+id)
  | none=>bif draw then .fail (2000+id) else Im fx.cx ops ss (2000+id) k
 | .seq a b,ss,ex,k=>sx fx a ss ex fun s=>sx fx b s ex k
 | .cond x a b,ss,ex,k=>match dS [] (aQ fx.cx.tb ss.σ.get 0 x) with
  | some (_,e)=>bif fg .bool (e.inf fx.cx.tb.tab ss.Γ) then .ite e (sx fx a ss ex k) (sx fx b ss ex k) else .fail 4
  | none=> .fail 5
 | .block id c,ss,ex,k=>sx fx c ss ((id,k)::ex) k
 | .exit id,ss,ex,_=>match Bm id ex with
  | some k=>k ss
  | none=> .fail 6
 | .loop c,ss,ex,_ =>
  let H:=OC fx.cx.tb.tab c ss
  match back fx.cx.tb.tab ss.Γ.length ss.nt H ss with
  | some es=>bif Nat.beq H.hd.lv (ss.lv+1)&&decide (H.hd.Γ=ss.Γ++H.cT)&&Nat.beq H.slots.length H.cT.length then .loop H.cT es (sx fx c H.hd ex (Ch fx.cx.tb.tab ss.Γ.length ss.nt ss.lv H)) else .fail 7
  | none=> .fail 8
 | .ret,ss,_,_=>wC fx ss
 | _,_,_,_=> .fail 9
def fz(tab:Nat->List CT):List VT->List D->Prop
 | [],[]=>True
 | t::ts,d::ds=>bU tab t d/\fz tab ts ds
 | _,_=>False
def VC.den(P:Program)(tab:Nat->List CT):VC->List D->(D->List D->Prop)->List (List D->Prop)->Prop
 | .fail _,_,_,_=>False
 | .ret e bs,env,Q,_=>Q (e.den env) (bs.map (·.den env))
 | .rq (.cond gs c) k,env,Q,L=>(bB env gs->c.den env= .bool true)/\k.den P tab env Q L
 | .rq (.call gs f bx args vt nb) k,env,Q,L=> ∃d cs,bU tab vt d/\bf tab nb cs/\(bB env gs->aD P f (bx.map (·.map (·.den env))) (args.map (·.den env)) d cs)/\k.den P tab (env++d::cs) Q L
 | .rq (.gA f bx args vt nb rt) k,env,Q,L=> ∃d cs,bU tab vt d/\bf tab nb cs/\cM P f (bx.map (·.map (·.den env))) (args.map (·.den env)) d cs rt/\k.den P tab (env++d::cs) Q L
 | .rq (.new f args nb) k,env,Q,L=> ∃cs,bf tab nb cs/\ED P f (args.map (·.den env)) cs/\k.den P tab (env++cs) Q L
 | .rq (.dL gs e args vt) k,env,Q,L=> ∃d,bU tab vt d/\(bB env gs->Jr P (e.den env) (args.map (·.den env)) d)/\k.den P tab (env++[d]) Q L
 | .rq (.oy g vt ix) k,env,Q,L=> ∃d,bU tab vt d/\EE g d/\JA env ix/\k.den P tab (env++[d]) Q L
 | .ite c a b,env,Q,L=>((c.den env).iZ=true->a.den P tab env Q L)/\((c.den env).iZ=false->b.den P tab env Q L)
 | .loop cT inits body,env,Q,L=> ∃(I:List D->Prop) (μ:List D->Nat),I (inits.map (·.den env)) /\
   ∀xs,fz tab cT xs->dU xs->I xs->body.den P tab (env++xs) Q ((fun ys=>I ys/\μ ys<μ xs)::L)
 | .again d es,env,_,L=>match L[d]? with
  | some p=>p (es.map (·.den env))
  | none=>False
end
end Go.Proofs.YtimickglpboilaaGreatDoor
