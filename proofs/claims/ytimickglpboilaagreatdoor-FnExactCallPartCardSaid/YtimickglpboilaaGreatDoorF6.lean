/- Regions whose order is left open: in whatever order their edges allow they do what they do in the order of the text (the induction). No program in sight. -/
import Derived.Test.YtimickglpboilaaGreatDoorF5
import Derived.Deep.LoopGhost
set_option linter.unusedVariables false
set_option linter.unusedSimpArgs false
set_option linter.unusedSectionVars false
namespace Go.Proofs.YtimickglpboilaaGreatDoor
section
open Go.RowKit
variable [GC]
def nT(o:Oper):List Nat:=(o.after.toList.filter (Region.binds .any ·)).map (·.on)
def Cn:List Oper->List (List Nat)->List (List Nat)
 | [],acc=>acc
 | o::r,acc=>Cn r (acc++[(nT o).flatMap fun m=>m::acc.getD m []])
def uT(l:List Oper)(B:List (List Nat)):Bool :=
 (List.range l.length).all fun j=>match l[j]? with
  | some o=>(nT o).all (fun m=>Nat.blt m j)&&(B.getD j []).all fun i=>(nT o).contains i||(nT o).any fun m=>(B.getD m []).contains i
  | none=>true
def infos(ops:Array Oper):List Oper->List aU->SS->List (List Nat×List Nat)
 | o::r,e::es,ss=>(readsOf ops ss.σ.get o,e.wr.map (·.1))::infos ops r es (ss.step e)
 | _,_,_=>[]
def uR(a b:List Nat):Bool:=a.all fun x=> !b.contains x
def O3(B:List (List Nat))(I:List (List Nat×List Nat)):Bool :=
 (List.range I.length).all fun j=>(List.range j).all fun i=>(B.getD j []).contains i ||
  (uR (I.getD i ([],[])).2 (I.getD j ([],[])).1&&uR (I.getD i ([],[])).1 (I.getD j ([],[])).2&&uR (I.getD i ([],[])).2 (I.getD j ([],[])).2)
def CO(ops:Array Oper)(es:List aU)(ss:SS):Bool :=
 uT ops.toList (Cn ops.toList [])&&O3 (Cn ops.toList []) (infos ops ops.toList es ss)
def gF(S:Nat->Prop)[DecidablePred S]:Nat->List aU->(Nat->ST)->Nat->ST
 | _,[],σ=>σ
 | k,e::r,σ=>gF S (k+1) r (if S k then dm σ e.wr else σ)
def wT(e:aU):List Nat:=e.wr.map (·.1)
theorem zo: ∀{wr:List (Nat×ST)} {σ:Nat->ST} {x:Nat},x∉wr.map (·.1)->dm σ wr x=σ x
 | [],_,_,_=>rfl
 | (l,s)::r,σ,x,h=>by
  simp only [List.map_cons,List.mem_cons,not_or] at h
  show dm (aX σ l s) r x=_
  rw [zo h.2,eD _ _ h.1]
theorem Ja: ∀{wr:List (Nat×ST)} {σ bn:Nat->ST} {x:Nat},x∈wr.map (·.1)->dm σ wr x=dm bn wr x
 | [],_,_,_,h=>by simp at h
 | (l,s)::r,σ,bn,x,h=>by
  show dm (aX σ l s) r x=dm (aX bn l s) r x
  by_cases hr:x∈r.map (·.1)
  ·exact Ja hr
  ·rw [zo hr,zo hr]
   simp only [List.map_cons,List.mem_cons] at h
   have:x=l:=h.resolve_right hr
   subst this;rw [cu,cu]
theorem zH{S T:Nat->Prop}[DecidablePred S][DecidablePred T]{x:Nat}: ∀{es:List aU} {k:Nat} {σ bn:Nat->ST},(∀i e,es[i]? =some e->x∈wT e->(S (k+i)↔T (k+i)))->σ x=bn x->gF S k es σ x=gF T k es bn x
 | [],k,σ,bn,_,h=>h
 | e::r,k,σ,bn,h,hx=>by
  unfold gF
  refine zH (fun i e' he hw=>by have:=h (i+1) e' (by simpa using he) hw;rwa [show k+(i+1)=k+1+i by omega] at this) ?_
  by_cases hw:x∈wT e
  ·have h0:=h 0 e rfl hw
   rw [Nat.add_zero] at h0
   by_cases hs:S k
   ·rw [if_pos hs,if_pos (h0.1 hs)];exact Ja hw
   ·rw [if_neg hs,if_neg (fun t=>hs (h0.2 t))];exact hx
  ·have e1:(if S k then dm σ e.wr else σ) x=σ x:=by split<;>first|exact zo hw|rfl
   have e2:(if T k then dm bn e.wr else bn) x=bn x:=by split<;>first|exact zo hw|rfl
   rw [e1,e2,hx]
theorem Ck{S:Nat->Prop}[DecidablePred S]: ∀{es:List aU} {k:Nat} {σ:Nat->ST},(∀i,k<=i-> ¬S i)->gF S k es σ=σ
 | [],_,_,_=>rfl
 | e::r,k,σ,h=>by unfold gF;rw [if_neg (h k (Nat.le_refl _))];exact Ck fun i hi=>h i (by omega)
theorem JS{S:Nat->Prop}[DecidablePred S]{x:Nat}: ∀{es:List aU} {k j:Nat} {σ:Nat->ST} {e:aU},es[j]? =some e->S (k+j)->x∈wT e->(∀i e',es[i]? =some e'->j<i->x∈wT e'-> ¬S (k+i))-> ∀τ,gF S k es σ x=dm τ e.wr x
 | [],k,j,σ,e,h,_,_,_,_=>by simp at h
 | e0::r,k,0,σ,e,h,hS,hx,hl,τ=>by
  simp at h;subst h
  unfold gF
  rw [if_pos (by simpa using hS)]
  have:gF S (k+1) r (dm σ e0.wr) x=gF (fun _=>False) (k+1) r (dm σ e0.wr) x:=zH (fun i e' he hw=>by
   have:=hl (i+1) e' (by simpa using he) (by omega) hw
   rw [show k+(i+1)=k+1+i by omega] at this
   exact ⟨fun h=>this h,fun h=>h.elim⟩) rfl
  rw [this,Ck (fun _ _ h=>h)]
  exact Ja hx
 | e0::r,k,j+1,σ,e,h,hS,hx,hl,τ=>by
  unfold gF
  exact JS (k:=k+1) (j:=j) (by simpa using h) (by rwa [show k+1+j=k+(j+1) by omega]) hx (fun i e' he hi hw=>by
   have:=hl (i+1) e' (by simpa using he) (by omega) hw
   rwa [show k+(i+1)=k+1+i by omega] at this) τ
theorem FC{a b:List Nat}(h:uR a b=true){x:Nat}(ha:x∈a)(hb:x∈b):False:=by
 have:=List.all_eq_true.1 h x ha
 simp at this
 exact this hb
section
variable {P:Program}{c:SC}{cx:Cx}{ops:Array Oper}
theorem Ps{S0:Nat}: ∀{l:List Oper} {ss:SS} {es:List aU} {s:SS} {k:Nat},jw cx ops l ss=some (es,s)->bQ cx.tb.tab s.Γ c.env->qD P c.env ss.Γ.length es->es.length=l.length/\s.σ.get=gF (fun _=>True) k es ss.σ.get/\(infos ops l es ss).length=l.length /\
  ∀j o,l[j]? =some o-> ∃wU e,es[j]? =some e/\bQ cx.tb.tab wU c.env/\oZ cx ops wU (ss.nt+j8*j) o (gF (fun i=>i<k+j) k es ss.σ.get)=some e/\(∀q∈e.rq,hO P c.env wU.length q) /\
   (infos ops l es ss)[j]? =some (readsOf ops (gF (fun i=>i<k+j) k es ss.σ.get) o,wT e)
 | [],ss,es,s,k,h,aB,hr=>by
  simp [jw] at h;obtain ⟨rfl,rfl⟩:=h
  exact ⟨rfl,rfl,rfl,fun j o ho=>by simp at ho⟩
 | o::r,ss,es,s,k,h,aB,hr=>by
  simp only [jw] at h
  split at h
  ·simp at h
  ·rename_i e he
   split at h
   ·simp at h
   ·rename_i es' s' hrec
    simp only [Option.some.injEq,Prod.mk.injEq] at h
    obtain ⟨rfl,rfl⟩:=h
    obtain ⟨Δ,h1,h2,_⟩:=wo hrec
    have vM:bQ cx.tb.tab ss.Γ c.env:=by
     rw [h1] at aB
     simp only [SS.step,List.append_assoc] at aB
     exact aB.C8
    obtain ⟨i1,i2,i3,i4⟩:=Ps (S0:=S0) (k:=k+1) hrec aB (by simpa [SS.step] using hr.2)
    refine ⟨by simp [i1],?_,by simp [infos,i3],fun j o' ho=> ?_⟩
    ·rw [i2,BJ]
     show _=gF (fun _=>True) (k+1) es' (if True then dm ss.σ.get e.wr else ss.σ.get)
     rw [if_pos trivial]
    ·cases j with
     | zero =>
      simp at ho;subst ho
      have h0:gF (fun i=>i<k+0) k (e::es') ss.σ.get=ss.σ.get:=Ck fun i hi=>by omega
      refine ⟨ss.Γ,e,rfl,vM,by rw [h0];exact he,hr.1,by rw [h0];rfl⟩
     | succ j =>
      simp at ho
      obtain ⟨wU,ej,j1,j2,j3,j4,j5⟩:=i4 j o' ho
      have h0:gF (fun i=>i<k+(j+1)) k (e::es') ss.σ.get=gF (fun i=>i<k+1+j) (k+1) es' (ss.step e).σ.get:=by
       rw [BJ]
       show gF (fun i=>i<k+(j+1)) (k+1) es' (if k<k+(j+1) then dm ss.σ.get e.wr else ss.σ.get)=_
       rw [if_pos (by omega)]
       have:(fun i=>i<k+(j+1))=fun i=>i<k+1+j:=by funext i;apply propext;omega
       congr 1
      refine ⟨wU,ej,by simpa using j1,j2,?_,j4,?_⟩
      ·rw [h0]
       have:ss.nt+j8*(j+1)=(ss.step e).nt+j8*j:=by simp only [SS.step,Nat.mul_add];omega
       rw [this];exact j3
      ·rw [h0];simpa [infos] using j5
theorem Iq{j:Nat}{listed:Array Bool}(hsz:listed.size=ops.size):j∈Region.ready .any ops listed↔listed.getD j true=false/\ ∃o,ops[j]? =some o/\ ∀m∈nT o,listed.getD m false=true:=by
 unfold Region.ready nT
 simp only [List.mem_filter,List.mem_range,Bool.and_eq_true,Bool.not_eq_true']
 constructor
 ·rintro ⟨h1,h2,h3⟩
  refine ⟨h2,ops[j],by simp [h1],fun m hm=> ?_⟩
  simp only [Array.getElem?_eq_getElem h1,Option.map_some,Option.getD_some,Array.all_eq_true_iff_forall_mem] at h3
  simp only [List.mem_map,List.mem_filter] at hm
  obtain ⟨e,⟨he,hb⟩,rfl⟩:=hm
  have:=h3 e (by simpa using he)
  rw [hb] at this
  simpa using this
 ·rintro ⟨h1,o,h2,h3⟩
  have hlt:j<ops.size:=(Array.getElem?_eq_some_iff.1 h2).1
  refine ⟨hlt,h1,?_⟩
  simp only [h2,Option.map_some,Option.getD_some,Array.all_eq_true_iff_forall_mem]
  intro e he
  cases hb:Region.binds .any e with
  | false=>simp
  | true =>
   have:=h3 e.on (by simp only [List.mem_map,List.mem_filter];exact ⟨e,⟨by simpa using he,hb⟩,rfl⟩)
   simp [this]
def left(listed:Array Bool):Nat->Nat
 | 0=>0
 | n+1=>left listed n+if listed.getD n true=false then 1 else 0
theorem Oe{listed:Array Bool}: ∀{n:Nat},left listed n=0-> ∀j,j<n->listed.getD j true=true
 | 0,_,j,hj=>absurd hj (by omega)
 | n+1,h,j,hj=>by
  simp only [left] at h
  by_cases e:j=n
  ·subst e
   cases hb:listed.getD j true with
   | true=>rfl
   | false=>rw [hb] at h;simp at h
  ·exact Oe (n:=n) (by omega) j (by omega)
theorem Gb{listed:Array Bool}{i j:Nat}{d:Bool}(hi:i<listed.size):(listed.setIfInBounds i true).getD j d=if j=i then true else listed.getD j d:=by
 simp only [Array.getD_eq_getD_getElem?,Array.getElem?_setIfInBounds]
 by_cases h:j=i
 ·subst h;simp [hi]
 ·simp [h,Ne.symm h]
theorem Od{listed:Array Bool}{i:Nat}(hi:i<listed.size)(hf:listed.getD i true=false): ∀{n:Nat},left (listed.setIfInBounds i true) n+(if i<n then 1 else 0)=left listed n
 | 0=>rfl
 | n+1=>by
  have ih:=Od hi hf (n:=n)
  simp only [left,Gb hi]
  by_cases e:n=i
  ·subst e
   simp only [hf,if_true]
   simp at ih
   simp [ih]
  ·have hh:(if i<n then 1 else 0)=(if i<n+1 then 1 else 0:Nat):=by
    by_cases h:i<n
    ·rw [if_pos h,if_pos (show i<n+1 by omega)]
    ·rw [if_neg h,if_neg (show ¬i<n+1 by omega)]
   simp only [if_neg e]
   rw [<-hh]
   omega
def dn(listed:Array Bool):Nat->Prop:=fun i=>listed.getD i false=true
instance (listed:Array Bool):DecidablePred (dn listed):=fun i=>inferInstanceAs (Decidable (_=_))
def Qx(nt:Nat)(listed:Array Bool):Nat->Prop:=fun x=>x<nt\/ ∃j,dn listed j/\eG (nt+j8*j) x
theorem Fc{l:List Oper}{B:List (List Nat)}(hE:uT l B=true){S:Nat->Prop}(hc: ∀j o,S j->l[j]? =some o-> ∀m∈nT o,S m): ∀(n j:Nat),j<n->S j-> ∀i∈B.getD j [],j<l.length->S i
 | 0,j,h,_,_,_,_=>absurd h (by omega)
 | n+1,j,hj,hS,i,hi,hl=>by
  unfold uT at hE
  have h1:=List.all_eq_true.1 hE j (by simpa using hl)
  have hlo:l[j]? =some l[j]:=List.getElem?_eq_getElem hl
  rw [hlo] at h1
  simp only [Bool.and_eq_true,List.all_eq_true,Bool.or_eq_true,List.any_eq_true] at h1
  have hd: ∀m∈nT l[j],S m/\m<j:=fun m hm=>⟨hc j _ hS hlo m hm,Nat.le_of_ble_eq_true (h1.1 m hm)⟩
  rcases h1.2 i hi with h|⟨m,hm,GL⟩
  ·exact (hd i (by simpa using h)).1
  ·exact Fc (by unfold uT;exact hE) hc n m (by have:=(hd m hm).2;omega) (hd m hm).1 i (by simpa using GL) (by have:=(hd m hm).2;omega)
theorem UE{l:List Oper}{B:List (List Nat)}(hE:uT l B=true){S:Nat->Prop}(hc: ∀j o,S j->l[j]? =some o-> ∀m∈nT o,S m){j:Nat}{o:Oper}(ho:l[j]? =some o)(hr: ∀m∈nT o,S m): ∀i∈B.getD j [],S i:=by
 intro i hi
 have hl:j<l.length:=(List.getElem?_eq_some_iff.1 ho).1
 have hE':=hE
 unfold uT at hE
 have h1:=List.all_eq_true.1 hE j (by simpa using hl)
 rw [ho] at h1
 simp only [Bool.and_eq_true,List.all_eq_true,Bool.or_eq_true,List.any_eq_true] at h1
 rcases h1.2 i hi with h|⟨m,hm,GL⟩
 ·exact hr i (by simpa using h)
 ·have M7:m<j:=Nat.le_of_ble_eq_true (h1.1 m hm)
  exact Fc hE' hc (m+1) m (by omega) (hr m hm) i (by simpa using GL) (by omega)
theorem abK(aI:cL P cx.tb cx.tb=true)(hnt:c.nt=cx.nt)(hm:P.follows .mixedOrders=true){Q:Exit->Act->World->Prop}{id:Nat}{ss s:SS}{es:List aU}(h:jw cx ops ops.toList ss=some (es,s))(hok:CO ops es ss=true)(aB:bQ cx.tb.tab s.Γ c.env)(hr:qD P c.env ss.Γ.length es)
  {bm:Nat->Nat} {tm:Nat->Value} {a:Act} {w:World} (hQ: ∀cQ tm' a' w',aM c (below s.nt) s.σ.get cQ tm' a' w'->Q .normal a' w') (hs:aM c (below ss.nt) ss.σ.get bm tm a w):(Code.region id ops true).wp P Q a w:=by
 unfold CO at hok
 simp only [Bool.and_eq_true] at hok
 obtain ⟨hE,Gl⟩:=hok
 generalize hB:Cn ops.toList []=B at hE Gl
 obtain ⟨hlen,hall,mE,hat⟩:=Ps (S0:=0) (k:=0) h aB hr
 obtain ⟨_,_,DB,_⟩:=wo h
 have GS: ∀i j,i<j->j<ops.size->i∉B.getD j []-> ∀a b,(infos ops ops.toList es ss)[i]? =some a->(infos ops ops.toList es ss)[j]? =some b->uR a.2 b.1=true/\uR a.1 b.2=true/\uR a.2 b.2=true:=by
  intro i j hij hj hn x y hx hy
  unfold O3 at Gl
  have h1:=List.all_eq_true.1 Gl j (by simpa [mE] using hj)
  have h2:=List.all_eq_true.1 h1 i (by simpa using hij)
  simp only [Bool.or_eq_true,Bool.and_eq_true,List.getD,hx,hy,Option.getD_some] at h2
  rcases h2 with h2|h2
  ·exact absurd (by simpa [List.getD] using h2) hn
  ·exact ⟨h2.1.1,h2.1.2,h2.2⟩
 refine wp_region_any hm ?_
 have key: ∀(fuel:Nat) (listed:Array Bool) (bm:Nat->Nat) (tm:Nat->Value) (a:Act) (w:World),listed.size=ops.size->(∀j o,dn listed j->ops[j]? =some o-> ∀m∈nT o,dn listed m)->left listed ops.size<=fuel ->
   aM c (Qx ss.nt listed) (gF (dn listed) 0 es ss.σ.get) bm tm a w->wpAny P .any ops Q fuel listed a w:=by
  have hdone: ∀(listed:Array Bool) (bm:Nat->Nat) (tm:Nat->Value) (a:Act) (w:World),listed.size=ops.size->(∀j,j<ops.size->listed.getD j true=true)->aM c (Qx ss.nt listed) (gF (dn listed) 0 es ss.σ.get) bm tm a w->Q .normal a w:=by
   intro listed bm tm a w hsz hl hS
   have hd: ∀j,dn listed j↔j<ops.size:=fun j=>by
    unfold dn
    constructor
    ·intro h
     rcases Nat.lt_or_ge j ops.size with h'|h'
     ·exact h'
     ·simp [Array.getD_eq_getD_getElem?,Array.getElem?_eq_none (show listed.size<=j by omega)] at h
    ·intro h
     have:=hl j h
     simp only [Array.getD_eq_getD_getElem?,Array.getElem?_eq_getElem (show j<listed.size by omega),Option.getD_some] at this ⊢
     exact this
   refine hQ bm tm a w ?_
   have he:gF (dn listed) 0 es ss.σ.get=s.σ.get:=by
    rw [hall]
    funext x
    refine zH (fun i e hi _=> ?_) rfl
    have:i<es.length:=(List.getElem?_eq_some_iff.1 hi).1
    rw [hlen,Array.length_toList] at this
    rw [Nat.zero_add]
    exact ⟨fun _=>trivial,fun _=>(hd i).2 this⟩
   rw [<-he]
   refine hS.mono fun x hx=> ?_
   unfold below
   rw [DB,Array.length_toList]
   rcases hx with hx|⟨j,hj,hx⟩
   ·omega
   ·have:=(hd j).1 hj;have:=hx.2;simp only [j8] at *;omega
  have YC: ∀(listed:Array Bool),listed.size=ops.size->Region.ready .any ops listed=[]-> ∀j,j<ops.size->listed.getD j true=true:=by
   intro listed hsz hnil j
   induction j using Nat.strongRecOn with
   | _ j ih =>
    intro hj
    cases hb:listed.getD j true with
    | true=>rfl
    | false =>
     exfalso
     have hlo:ops[j]? =some ops[j]:=Array.getElem?_eq_getElem hj
     have:j∈Region.ready .any ops listed:=(Iq hsz).2 ⟨hb,ops[j],hlo,fun m hm=>by
      unfold uT at hE
      have h1:=List.all_eq_true.1 hE j (by simpa using hj)
      have Yj:ops.toList[j]? =some ops[j]:=by simp [hlo]
      rw [Yj] at h1
      simp only [Bool.and_eq_true,List.all_eq_true] at h1
      have M7:m<j:=Nat.le_of_ble_eq_true (h1.1 m hm)
      have:=ih m M7 (by omega)
      simp only [Array.getD_eq_getD_getElem?,Array.getElem?_eq_getElem (show m<listed.size by omega),Option.getD_some] at this ⊢
      exact this⟩
     rw [hnil] at this
     simp at this
  intro fuel
  induction fuel with
  | zero =>
   intro listed bm tm a w hsz hcl hlf hS
   have hl:=Oe (Nat.le_zero.1 hlf)
   refine ⟨?_,hdone listed bm tm a w hsz hl hS⟩
   cases hr:Region.ready .any ops listed with
   | nil=>rfl
   | cons j _ =>
    have hj:j∈Region.ready .any ops listed:=by rw [hr];simp
    obtain ⟨h1,o,h2,_⟩:=(Iq hsz).1 hj
    have:=hl j (Array.getElem?_eq_some_iff.1 h2).1
    rw [h1] at this;cases this
  | succ fuel ih =>
   intro listed bm tm a w hsz hcl hlf hS
   refine ⟨fun hnil=>hdone listed bm tm a w hsz (YC listed hsz hnil) hS,fun j hj=> ?_⟩
   obtain ⟨hf,o,ho,MA⟩:=(Iq hsz).1 hj
   have MQ:j<ops.size:=(Array.getElem?_eq_some_iff.1 ho).1
   have GN: ¬dn listed j:=fun h=>by
    unfold dn at h
    simp only [Array.getD_eq_getD_getElem?,Array.getElem?_eq_getElem (show j<listed.size by omega),Option.getD_some] at h hf
    rw [h] at hf;cases hf
   have ho':ops.toList[j]? =some o:=by simp [ho]
   obtain ⟨wU,e,he,Za,AA,rB,GG⟩:=hat j o ho'
   have Mw: ∀i o,dn listed i->ops.toList[i]? =some o-> ∀m∈nT o,dn listed m:=fun i o hi yA=>hcl i o hi (by simpa using yA)
   have XQ: ∀i∈B.getD j [],dn listed i:=UE hE Mw ho' MA
   have M8: ∀i,dn listed i->i<ops.size->j∉B.getD i []:=fun i hi hlt hin=>GN (Fc hE Mw (i+1) i (by omega) hi j hin (by simpa using hlt))
   have Gz: ∀i e',es[i]? =some e'->i<ops.size:=fun i e' hi=>by
    have:i<es.length:=(List.getElem?_eq_some_iff.1 hi).1
    rwa [hlen,Array.length_toList] at this
   have MO: ∀i e',es[i]? =some e'-> ∃rd,(infos ops ops.toList es ss)[i]? =some (rd,wT e'):=fun i e' hi=>by
    have hlt:=Gz i e' hi
    obtain ⟨_,e2,h2,_,_,_,h5⟩:=hat i ops[i] (by simp [hlt])
    rw [h2] at hi;simp at hi;subst hi
    exact ⟨_,h5⟩
   have hal:Alike ops o (gF (fun i=>i<0+j) 0 es ss.σ.get) (gF (dn listed) 0 es ss.σ.get):=Alike.of fun x hx=>by
    refine zH (fun i e' hi hw=> ?_) rfl
    have hlt:=Gz i e' hi
    obtain ⟨rd,vB⟩:=MO i e' hi
    simp only [Nat.zero_add]
    constructor
    ·intro hd
     rcases Nat.lt_trichotomy i j with h|h|h
     ·exact h
     ·subst h;exact absurd hd GN
     ·obtain ⟨_,q,_⟩:=GS j i h hlt (M8 i hd hlt) _ _ GG vB
      exact absurd hw (fun hw=>FC q hx hw)
    ·intro hd
     by_cases hb:i∈B.getD j []
     ·exact XQ i hb
     ·obtain ⟨q,_,_⟩:=GS i j hd MQ hb _ _ vB GG
      exact (FC q hw hx).elim
   have X0:oZ cx ops wU (ss.nt+j8*j) o (gF (dn listed) 0 es ss.σ.get)=some e:=by rw [abh hal];exact AA
   have hjl:j<listed.size:=by omega
   refine EK aI hnt hS Za (g:=ss.nt+j8*j) ?_ ho X0 rB fun cQ tm' a' w' Dk=> ?_
   ·rintro x DN (h|⟨i,hi,h⟩)
    ·have:=DN.1;omega
    ·have:i=j:=by
      have q1:=DN.1;have q2:=DN.2;have q3:=h.1;have q4:=h.2
      simp only [j8] at *;omega
     subst this;exact GN hi
   ·refine ih (listed.setIfInBounds j true) cQ tm' a' w' (by simpa using hsz) ?_ ?_ ?_
    ·intro i o' hi yA m MZ
     unfold dn at *
     rw [Gb hjl] at hi ⊢
     split at hi
     ·rename_i e';subst e'
      rw [ho] at yA;simp at yA;subst yA
      have:=MA m MZ
      split
      ·rfl
      ·exact this
     ·have:=hcl i o' hi yA m MZ
      split
      ·rfl
      ·exact this
    ·have:=Od hjl hf (n:=ops.size)
     rw [if_pos MQ] at this
     omega
    ·have fV: ∀i,dn (listed.setIfInBounds j true) i↔(i=j\/dn listed i):=fun i=>by
      unfold dn
      rw [Gb hjl]
      split
      ·rename_i e';exact ⟨fun _=> .inl e',fun _=>rfl⟩
      ·rename_i e';exact ⟨.inr,fun h=>h.resolve_left e'⟩
     have hst:gF (dn (listed.setIfInBounds j true)) 0 es ss.σ.get=dm (gF (dn listed) 0 es ss.σ.get) e.wr:=by
      funext x
      by_cases hx:x∈wT e
      ·refine JS (j:=j) he (by rw [Nat.zero_add];exact (fV j).2 (.inl rfl)) hx (fun i e' hi hji hw hd=> ?_) _
       rw [Nat.zero_add] at hd
       have hlt:=Gz i e' hi
       obtain ⟨rd,vB⟩:=MO i e' hi
       have hd':=((fV i).1 hd).resolve_left (by omega)
       obtain ⟨_,_,q⟩:=GS j i hji hlt (M8 i hd' hlt) _ _ GG vB
       exact FC q hx hw
      ·rw [zo hx]
       refine zH (fun i e' hi hw=> ?_) rfl
       rw [Nat.zero_add]
       constructor
       ·intro h
        refine ((fV i).1 h).resolve_left ?_
        rintro rfl
        rw [he] at hi;simp at hi;subst hi
        exact hx hw
       ·exact fun h=>(fV i).2 (.inr h)
     rw [hst]
     refine Dk.mono fun x hx=> ?_
     rcases hx with (hx|⟨i,hi,hx⟩)|hx
     ·exact .inl hx
     ·exact .inr ⟨i,(fV i).2 (.inr hi),hx⟩
     ·exact .inr ⟨j,(fV j).2 (.inl rfl),hx⟩
 have h0: ∀j,¬dn (Array.replicate ops.size false) j:=fun j h=>by
  unfold dn at h
  simp only [Array.getD_eq_getD_getElem?,Array.getElem?_replicate] at h
  split at h<;>simp at h
 refine key ops.size (Array.replicate ops.size false) bm tm a _ (by simp) (fun j o hj=>absurd hj (h0 j)) ?_ ?_
 ·have: ∀n,left (Array.replicate ops.size false) n<=n:=fun n=>by
   induction n with
   | zero=>exact Nat.le_refl _
   | succ n ih=>simp only [left];split<;>omega
  exact this _
 ·have e0:gF (dn (Array.replicate ops.size false)) 0 es ss.σ.get=ss.σ.get:=Ck fun i _=>h0 i
  rw [e0]
  refine aM.mono (F:=below ss.nt) ?_ fun x hx=> .inl hx
  exact hs.grow ((Below.refl _ _).drew)
end
end
section
open Go.RowKit
variable [GC]
def E.dX(n:Nat):E->Bool
 | .var i=>Nat.blt i n
 | .lb _| .li _ _| .ls _| .bJ _| .cT| .bP| .fn0 _=>true
 | .ar _ _ x y| .ic _ x y| .sc _ x y| .iK x y| .kJ x y| .bc x y| .ae x y| .an x y| .or x y| .row _ x y| .at x y| .cat x y| .aJ x y| .app x y| .put x y| .cw x y| .few x y| .zf _ x y| .Da x y=>x.dX n&&y.dX n
 | .no x| .conv _ x| .len x| .pS x| .cell x _| .sub x _ _| .proj x _| .ah x| .mem x| .rep _ _ x=>x.dX n
 | .ite x y z| .cut x y z| .inc x y z| .aX x y z _=>x.dX n&&y.dX n&&z.dX n
theorem E.KF{env more:List D}{n:Nat}(hn:n<=env.length): ∀(e:E),e.dX n=true->e.den (env++more)=e.den env:=by
 intro e
 induction e<;>intro h<;>simp only [E.dX,Bool.and_eq_true] at h<;>simp only [E.den]
 case var i =>
  have:i<env.length:=Nat.lt_of_lt_of_le (Nat.le_of_ble_eq_true h) hn
  simp [List.getD,List.getElem?_append_left this]
 all_goals simp_all
def mY(n:Nat)(gs:Gd):Bool:=gs.all fun x=>x.1.dX n
def jx(n:Nat):ST->Bool
 | .v gs _ e=>mY n gs&&e.dX n
 | .ptr gs _ _=>mY n gs
 | .ro gs e _=>mY n gs&&e.dX n
 | .gp gs _ x i=>mY n gs&&x.dX n&&i.dX n
 | .mp gs _ _ i _=>mY n gs&&i.dX n
 | .iv gs _ _ _ i _ l=>mY n gs&&i.dX n&&l.dX n
 | .ip gs _ _ _ i _ j _ _=>mY n gs&&i.dX n&&j.dX n
 | .box cs=>cs.all fun x=>x.2.dX n
 | .live m=>(match m.body with|some (e,_)=>e.dX n|none=>true)
 | _=>true
def yP(n:Nat):K->Bool
 | .own g=>Nat.blt g n
 | .ag ks=>ks.all fun k=>match k with| .own g=>Nat.blt g n|_=>true
 | _=>true
def kK(n:Nat):ST->Bool
 | .v _ k _=>yP n k
 | .ptr _ id _=>Nat.blt id n
 | .mp _ g _ _ _=>Nat.blt g n
 | .iv _ g gv _ _ _ _=>Nat.blt g n&&Nat.blt gv n
 | .ip _ g gv _ _ _ _ _ _=>Nat.blt g n&&Nat.blt gv n
 | .live m=>(match m.body with|some (_,some (gv,_))=>Nat.blt gv n|_=>true)
 | .box cs=>cs.all fun x=>yP n x.1
 | _=>true
inductive Slot where
 | t (t:Nat)|b (id j:Nat)|m (g:Nat)
 deriving DecidableEq
def qp(σ:Nat->ST):Slot->Option (K×E)
 | .t t=>match σ (3*t) with| .v [] k e=>some (k,e)|_=>none
 | .b id j=>match σ (3*id+1) with| .box cs=>cs[j]? |_=>none
 | .m g=>match σ (3*g+2) with| .live ⟨_,some (e,_)⟩=>some (.d,e)|_=>none
structure Head where
 slots:List Slot
 ks:List K
 dh:List VT
 hd:SS
def vO(tab:Nat->List CT)(σ:Nat->ST)(ty:VT):K->K->Bool
 | .d,_=>true
 | .own _,.full=>(match ty with| .one (.c (.sl _))=>true|_=>false)
 | .own _,.own g=>(match ty with| .one (.c (.sl el))=>decide (σ (3*g+2)= .live ⟨(tab el).length,none⟩)|_=>false)
 | _,_=>false
def rP(tab:Nat->List CT)(Γ:List VT)(σ:Nat->ST):List Slot->List K->List VT->Option (List (K×E))
 | [],[],[]=>some []
 | s::ss,k::ks,ty::dh=>match qp σ s,rP tab Γ σ ss ks dh with
  | some (k',e'),some r=>bif decide (e'.inf tab Γ=some ty)&&vO tab σ ty k k' then some ((k',e')::r) else none
  | _,_=>none
 | _,_,_=>none
def lH:List K->List (K×E)->List Nat
 | .own _::ks,(.own g,_)::r=>g::lH ks r
 | _::ks,_::r=>lH ks r
 | _,_=>[]
def vR:List Nat->Bool
 | []=>true
 | x::r=> !r.contains x&&vR r
def rF(nt:Nat):Nat->List K->Bool
 | _,[]=>true
 | i,.d::r=>rF nt (i+1) r
 | i,.own g::r=>Nat.beq g (nt+i)&&rF nt (i+1) r
 | _,_::_=>false
def qm(n nt:Nat)(σ:Nat->ST)(l:Nat)(h:ST):Bool:=decide (σ l=h)&&jx n h&&kK nt h
def CN(k:Nat):Option (Nat×List Nat)->Option (Nat×List Nat)->Bool
 | none,none=>true
 | some (gv,ms),some (_,ms')=>Nat.beq gv k&&decide (ms=ms')
 | _,_=>false
def Ov(n nt:Nat)(H:Head)(σ:Nat->ST)(l:Nat)(m:LV):Bool :=
 match m.body,σ l with
 | some (.var v,dp),.live ⟨n',some (_,mX)⟩=>Nat.ble n v&&decide (H.slots[v-n]? =some (.m (l/3)))&&Nat.beq n' m.n&&CN (nt+(v-n)) dp mX
 | _,_=>false
def qJ(tab:Nat->List CT)(n nt:Nat)(H:Head)(σ:Nat->ST)(used:List Nat)(l:Nat)(h:ST):Bool :=
 match h with
 | .un=>true
 | .v [] k (.var v)=>(Nat.ble n v&&Nat.beq (l%3) 0&&decide (H.slots[v-n]? =some (.t (l/3)))&&decide (H.ks[v-n]? =some k))||qm n nt σ l h
 | .box cs=>Nat.beq (l%3) 1&&Nat.blt (l/3) nt&&(((match σ l with| .box cs'=>Nat.beq cs'.length cs.length|_=>false)&&cs.zipIdx.all fun x=>match x.1.2 with
   | .var v=>Nat.ble n v&&decide (H.slots[v-n]? =some (.b (l/3) x.2))&&decide (H.ks[v-n]? =some x.1.1)
   | _=>false)||qm n nt σ l h)
 | .live m=>Nat.beq (l%3) 2&&((m.body.isNone&&Nat.ble nt (l/3)&&decide (H.ks[l/3-nt]? =some (.own (l/3)))&&(match H.dh[l/3-nt]? with|some (.one (.c (.sl el)))=>Nat.beq m.n (tab el).length|_=>false))
   || (Nat.blt (l/3) nt&& !used.contains (l/3)&&(qm n nt σ l h||Ov n nt H σ l m)))
 | _=>qm n nt σ l h
def back(tab:Nat->List CT)(n nt:Nat)(H:Head)(s:SS):Option (List E) :=
 match rP tab s.Γ s.σ.get H.slots H.ks H.dh with
 | some vs=>bif vR (lH H.ks vs)&&rF nt 0 H.ks&&Nat.beq H.hd.nt (nt+H.slots.length)&&Nat.ble nt s.nt&&Nat.blt 0 nt&&H.hd.σ.all (fun x=>qJ tab n nt H s.σ.get (lH H.ks vs) x.1 (H.hd.σ.get x.1)) then some (vs.map (·.2)) else none
 | none=>none
def fY:Code->Bool
 | .ret=>true
 | .seq a b=>Bw a&&fY b
 | .cond _ a b=>fY a&&fY b
 | _=>false
where Bw:Code->Bool
 | .region _ _ _| .skip=>true
 | .seq a b=>Bw a&&Bw b
 | .cond _ a b=>(Bw a||fY a)&&(Bw b||fY b)
 | .ret=>true
 | _=>false
def opsOf:Code->List Oper
 | .region _ ops _=>ops.toList
 | .seq a b=>bif fY (.seq a b) then [] else opsOf a++opsOf b
 | .cond _ a b=>opsOf a++opsOf b
 | .block _ c| .loop c=>opsOf c
 | _=>[]
def tZ(x:Nat):List Nat->Bool
 | []=>false
 | y::r=>Nat.beq x y||tZ x r
def UA(l:List Oper):List Nat:=l.filterMap (·.dst)
def rootOf(l:List Oper)(ml:List Nat)(σ:Nat->ST):Nat->Nat->Option Nat
 | 0,_=>none
 | f+1,t=>bif tZ t ml then
   match l.find? (fun o=>decide (o.dst=some t)) with
   | some o=>match o.op with
    | .fieldAddr _ (.tmp u) _| .move (.tmp u)| .assign (.tmp u)| .nilCheck (.tmp u)=>rootOf l ml σ f u
    | _=>none
   | none=>none
  else match σ (3*t) with
   | .ptr _ id _=>some id
   | _=>none
def J5(l:List Oper)(ml:List Nat)(σ:Nat->ST):List Oper->List Nat
 | []=>[]
 | o::r =>
  let more:=J5 l ml σ r
  let one (t:Nat):=match rootOf l ml σ 20 t with|some id=>bif tZ id more then more else id::more|none=>more
  match o.op with
  | .store _ (.tmp t) _=>one t
  | .call c=>match c.callee,c.args.toList with
   | .value (.func _),.tmp t::_=>one t
   | _,_=>more
  | _=>more
def dedup:List Nat->List Nat
 | []=>[]
 | x::r=>bif tZ x r then dedup r else x::dedup r
def IL(σ:Nat->ST):List Nat->List Slot
 | []=>[]
 | t::r=>match σ (3*t) with
  | .v [] _ _=> .t t::IL σ r
  | _=>IL σ r
def IK(σ:Nat->ST):List Nat->List Slot
 | []=>[]
 | id::r=>match σ (3*id+1) with
  | .box cs=>(List.range cs.length).map (.b id)++IK σ r
  | _=>IK σ r
def Dr(nt:Nat):Nat->List (K×E)->List K
 | _,[]=>[]
 | i,(.d,_)::r=> .d::Dr nt (i+1) r
 | i,(.ag _,_)::r=> .d::Dr nt (i+1) r
 | i,(_,_)::r=> .own (nt+i)::Dr nt (i+1) r
def ME(tab:Nat->List CT)(Γ:List VT):List (K×E)->List VT
 | []=>[]
 | (_,e)::r=>(e.inf tab Γ).getD (.aE [])::ME tab Γ r
def Gv(n:Nat)(slots:List Slot)(ks:List K)(σ:Nat->ST):List Nat->Sg
 | []=>[]
 | id::r=>match σ (3*id+1) with
  | .box cs=>(3*id+1,.box ((List.range cs.length).map fun j=>match slots.idxOf? (.b id j) with
    | some i=>(ks.getD i .d,.var (n+i))
    | none=>(.d,.cT)))::Gv n slots ks σ r
  | _=>Gv n slots ks σ r
def MD(n:Nat)(slots:List Slot)(ks:List K):List Nat->Sg
 | []=>[]
 | t::r=>(3*t,match slots.idxOf? (.t t) with|some i=> .v [] (ks.getD i .d) (.var (n+i))|none=> .un)::MD n slots ks r
def Gx(tab:Nat->List CT):List K->List VT->Sg
 | .own g::ks,.one (.c (.sl el))::dh=>(3*g+2,.live ⟨(tab el).length,none⟩)::Gx tab ks dh
 | _::ks,_::dh=>Gx tab ks dh
 | _,_=>[]
def Qn(l:List Oper)(ml:List Nat)(σ:Nat->ST):List Oper->Bool
 | []=>false
 | o::r=>(match o.op with| .store _ (.tmp t) _=>(rootOf l ml σ 20 t).isNone|_=>false)||Qn l ml σ r
def aaU(σ:Sg):List Nat:=dedup ((σ.filter fun x=>Nat.beq (x.1%3) 2&&(match σ.get x.1 with| .live ⟨_,some _⟩=>true|_=>false)).map fun x=>x.1/3)
def Gy(n nt:Nat)(slots:List Slot)(σ:Nat->ST):List Nat->Sg
 | []=>[]
 | g::r=>match slots.idxOf? (.m g),σ (3*g+2) with
  | some i,.live ⟨k,some (_,dp)⟩=>(3*g+2,.live ⟨k,some (.var (n+i),dp.map fun x=>(nt+i,x.2))⟩)::Gy n nt slots σ r
  | _,_=>Gy n nt slots σ r
def Gw:List (K×E)->Sg
 | []=>[]
 | (.own g,_)::r=>(3*g+2,.un)::Gw r
 | _::r=>Gw r
def Oz(tab:Nat->List CT)(c:Code)(ss:SS):Head :=
 let l:=opsOf c
 let ml:=dedup (UA l)
 let bs:=dedup (J5 l ml ss.σ.get l)
 let ms:=bif Qn l ml ss.σ.get l then aaU ss.σ else []
 let slots:=IL ss.σ.get ml++IK ss.σ.get bs++ms.map .m
 let vs:=slots.filterMap (qp ss.σ.get)
 let ks:=Dr ss.nt 0 vs
 let dh:=ME tab ss.Γ vs
 let n:=ss.Γ.length
 {slots,ks,dh,hd:={Γ:=ss.Γ++dh,nt:=ss.nt+slots.length,lv:=ss.lv+1,σ:=MD n slots ks ml++Gv n slots ks ss.σ.get bs++Gy n ss.nt slots ss.σ.get ms++Gx tab ks dh++Gw vs++ss.σ}}
def nG:Nat->Nat->List VT->Sg
 | _,_,[]=>[]
 | k,j,_::r=>(3*k,.v [] .d (.var j))::nG (k+1) (j+1) r
def vtP:VT->VT
 | .aE [.c .fn]=> .one (.c .fn)
 | vt=>vt
def qE(tb:TB):List Nat->Option (List VT)
 | []=>some []
 | T::r=>match tb.get T,qE tb r with
  | some i,some l=>some (vtP i.vt::l)
  | _,_=>none
def Bd(tb:TB)(params:List Nat)(bx:Option (List CT)):Option SS :=
 match bx,params with
 | none,ps=>match qE tb ps with
  | some Γ=>some {Γ,nt:=0,lv:=0,σ:=nG 0 0 Γ}
  | none=>none
 | some cs,_::ps=>match qE tb ps with
  | some Γ=>some {Γ:=Γ++cs.map (fun t=> .one (.c t)),nt:=1,lv:=0,σ:=(0,.ptr [] 0 0)::(1,.box (vars Γ.length cs))::nG 1 0 Γ}
  | none=>none
 | some _,[]=>none
structure Fx where
 cx:Cx
 res:List ResultVar
 bx:Bool
 rt:List (Nat×Nat):=[]
def ij(σ:Nat->ST):Nat->ST:=fun l=>match σ l with| .live m=> .live ⟨m.n,none⟩|st=>st
def zL(σ:Nat->ST)(g:Nat):Option E:=match σ (3*g+2) with| .live ⟨_,some (b,_)⟩=>some b|_=>none
def yR(σ:Nat->ST):KK->Option E
 | .own g=>zL σ g
 | _=>none
def Ac(tab:Nat->List CT)(Γ:List VT)(σ:Nat->ST):K->E->E
 | .own g,e=>(zL σ g).getD e
 | .ag ks,e=>bif (ks.any fun kk=>(yR σ kk).isSome)&&(match e.inf tab Γ with|some (.one (.agg us))=>Nat.beq us.length ks.length|_=>false) then mk ((List.range ks.length).map fun j=>(yR σ (ks.getD j .d)).getD (.cell e j)) else e
 | _,e=>e
def Eg(tb:TB)(ss:SS):ResultVar->Option (K×E)
 | .tmp t=>match ss.σ.get (3*t) with| .v [] k e=>some (k,Ac tb.tab ss.Γ ss.σ.get k e)|_=>none
 | .cell t T=>match ss.σ.get (3*t),tb.get T with
  | .ptr [] id 0,some ti=>match ss.σ.get (3*id+1),ti.vt with
   | .box cs,.one (.agg ts)=>bif Nat.beq ts.length cs.length then some (qj (cs.map (·.1)),pack tb.tab ss.Γ (cs.map fun x=>Ac tb.tab ss.Γ ss.σ.get x.1 x.2)) else none
   | .box [(k,e)],.one (.c _)=>some (k,e)
   | _,_=>none
  | _,_=>none
def BC(tb:TB)(ss:SS):List ResultVar->Option (List (K×E))
 | []=>some []
 | r::rs=>match Eg tb ss r,BC tb ss rs with
  | some e,some es=>some (e::es)
  | _,_=>none
def xy(tab:Nat->List CT)(Γ:List VT):List (K×E)->Option (List KK)
 | []=>some []
 | (k,e)::r=>match e.inf tab Γ,xy tab Γ r with
  | some (.one (.c _)),some l=>some (k.kk::l)
  | some (.one (.agg ts)),some l=>some ((List.range ts.length).map (fun j=>(k.nth j).kk)++l)
  | _,_=>none
def El(σ:Nat->ST)(l:List KK):List (Nat×Nat)->Option (List Nat)
 | []=>some []
 | (p,m)::r=>match l[p]?,El σ l r with
  | some .full,some q=>some q
  | some (.own g),some q=>if σ (3*g+2)= .live ⟨m,none⟩/\tZ g q=false then some (g::q) else none
  | _,_=>none
def Ek(tab:Nat->List CT)(Γ:List VT)(σ:Nat->ST)(es:List (K×E)):List (Nat×Nat)->Bool
 | []=>true
 | rt=>match xy tab Γ es with|some l=>(El σ l rt).isSome|none=>false
def BR:List E->E->E
 | [],acc=>acc
 | e::r,acc=>BR r (.aJ acc e)
def Bs:List E->E
 | [e]=>e
 | es=>BR es .bP
def wq(fx:Fx)(ss:SS):VC :=
 match BC fx.cx.tb ss fx.res with
 | some es =>
  bif Ek fx.cx.tb.tab ss.Γ (ij ss.σ.get) es fx.rt then
   bif fx.bx then match ss.σ.get 1 with
    | .box cs=> .ret (Bs (es.map (·.2))) (cs.map (·.2))
    | _=> .fail 1
   else .ret (Bs (es.map (·.2))) []
  else .fail 10
 | none=> .fail 0
def Bm(id:Nat):List (Nat×(SS->VC))->Option (SS->VC)
 | []=>none
 | (i,k)::r=>bif Nat.beq i id then some k else Bm id r
def Cj(tab:Nat->List CT)(n nt lv:Nat)(H:Head)(s:SS):VC :=
 match back tab n nt H s with
 | some es=>bif Nat.blt lv s.lv then .again (s.lv-lv-1) es else .fail 2
 | none=> .fail 3
def ud(n:Nat):Rq->Bool
 | .cond gs c=>mY n gs&&c.dX n
 | .gW _ bx args _ _ _=>(match bx with|none=>true|some l=>l.all (·.dX n))&&args.all (·.dX n)
 | .call gs _ bx args _ _=>mY n gs&&(match bx with|none=>true|some l=>l.all (·.dX n))&&args.all (·.dX n)
 | .new _ args _=>args.all (·.dX n)
 | .cm gs e args _=>mY n gs&&e.dX n&&args.all (·.dX n)
 | .nV _ _ ix=>(match ix with|none=>true|some (gs,e,_)=>mY n gs&&e.dX n)
def xL:Nat->List aU->Bool
 | _,[]=>true
 | n,e::r=>e.rq.all (ud n)&&xL (n+(ia e.rq).length) r
def Ii(es:List aU):Bool:=es.all fun e=>Nat.ble e.rq.length 1
def yN:List aU->Bool
 | []=>true
 | e::r=>(match e.rq with|[]=>true|_=>false)&&yN r
def F5(j d:Nat)(v:Bool)(o:Oper):Option Oper :=
 match o.guard with
 | some (i,b)=>bif Nat.beq i j then (bif b==v then some {o with guard:=none} else none) else some o
 | none=>match o.op with
  | .pick (.tmp t) x y=>bif Nat.beq t d then some {o with op:= .move (bif v then x else y)} else some o
  | _=>some o
def F4(cx:Cx)(ops:Array Oper)(j d:Nat)(v:Bool)(Γ:List VT)(g:Nat)(o:Oper)(σ:Nat->ST):Option aU :=
 match F5 j d v o with
 | some o'=>oZ cx ops Γ g o' σ
 | none=>bif xB cx.nt o.dst then some ⟨wv o.dst .un,[]⟩ else none
def DD(σ:Nat->ST)(d:Nat)(c:E):Bool:=match σ (3*d) with
 | .v [] _ e=>decide (e=c)
 | _=>false
def uf(cx:Cx)(ops:Array Oper)(j d:Nat)(v:Bool)(c:E):List Oper->SS->Option (List aU×SS)
 | [],ss=>some ([],ss)
 | o::r,ss=>bif DD ss.σ.get d c then match F4 cx ops j d v ss.Γ ss.nt o ss.σ.get with
   | none=>none
   | some e=>match uf cx ops j d v c r (ss.step e) with
    | none=>none
    | some (es,s)=>some (e::es,s)
  else none
def qq:List Oper->List Oper×List Oper
 | []=>([],[])
 | o::r=>match o.guard with
  | none=>(o::(qq r).1,(qq r).2)
  | some _=>([],o::r)
def yZ(ss:SS)(es:List aU):Bool:=(yN es||ss.σ.all fun x=>jx ss.Γ.length (ss.σ.get x.1))&&xL ss.Γ.length es&&Ii es
def Df(cx:Cx)(ops:Array Oper)(j d:Nat)(c:E)(l:List Oper)(s:SS)(n:Nat)(k:SS->VC)(v:Bool):VC :=
 match uf cx ops j d v c l s with
 | some (es,s')=>bif yZ s es then ue es (k s') else .fail n
 | none=> .fail n
def Ir(cx:Cx)(ops:Array Oper)(ss:SS)(n:Nat)(k:SS->VC):VC :=
 match (qq ops.toList).2 with
 | []=> .fail n
 | o::r=>match o.guard with
  | none=> .fail n
  | some (j,_)=>match (ops[j]?).bind (·.dst) with
   | none=> .fail n
   | some d=>match jw cx ops (qq ops.toList).1 ss with
    | none=> .fail n
    | some (es,s)=>match s.σ.get (3*d) with
     | .v [] _ c=>bif yZ ss es&&fu .bool (c.inf cx.tb.tab s.Γ)&&c.dX s.Γ.length then ue es (.ite c (Df cx ops j d c (o::r) s n k true) (Df cx ops j d c (o::r) s n k false)) else .fail n
     | _=> .fail n
def sx(fx:Fx):Code->SS->List (Nat×(SS->VC))->(SS->VC)->VC
 | .skip,ss,_,k=>k ss
 | .region id ops draw,ss,_,k=>match jw fx.cx ops ops.toList ss with
  | some (es,s)=>bif (!draw||CO ops es ss)&&(yN es||ss.σ.all fun x=>jx ss.Γ.length (ss.σ.get x.1))&&xL ss.Γ.length es&&Ii es then ue es (k s) else .fail (1000+id)
  | none=>bif draw then .fail (2000+id) else Ir fx.cx ops ss (2000+id) k
 | .seq a b,ss,ex,k=>sx fx a ss ex fun s=>sx fx b s ex k
 | .cond x a b,ss,ex,k=>match eA [] (aT fx.cx.tb ss.σ.get 0 x) with
  | some (_,e)=>bif fu .bool (e.inf fx.cx.tb.tab ss.Γ) then .ite e (sx fx a ss ex k) (sx fx b ss ex k) else .fail 4
  | none=> .fail 5
 | .block id c,ss,ex,k=>sx fx c ss ((id,k)::ex) k
 | .exit id,ss,ex,_=>match Bm id ex with
  | some k=>k ss
  | none=> .fail 6
 | .loop c,ss,ex,_ =>
  let H:=Oz fx.cx.tb.tab c ss
  match back fx.cx.tb.tab ss.Γ.length ss.nt H ss with
  | some es=>bif Nat.beq H.hd.lv (ss.lv+1)&&decide (H.hd.Γ=ss.Γ++H.dh)&&Nat.beq H.slots.length H.dh.length then .loop H.dh es (sx fx c H.hd ex (Cj fx.cx.tb.tab ss.Γ.length ss.nt ss.lv H)) else .fail 7
  | none=> .fail 8
 | .ret,ss,_,_=>wq fx ss
 | _,_,_,_=> .fail 9
def fH(tab:Nat->List CT):List VT->List D->Prop
 | [],[]=>True
 | t::ts,d::ds=>bX tab t d/\fH tab ts ds
 | _,_=>False
def VC.den(P:Program)(tab:Nat->List CT):VC->List D->(D->List D->Prop)->List (List D->Prop)->Prop
 | .fail _,_,_,_=>False
 | .ret e bs,env,Q,_=>Q (e.den env) (bs.map (·.den env))
 | .rq (.cond gs c) k,env,Q,L=>(bE env gs->c.den env= .bool true)/\k.den P tab env Q L
 | .rq (.call gs f bx args vt nb) k,env,Q,L=> ∃d cs,bX tab vt d/\ba tab nb cs/\(bE env gs->aG P f (bx.map (·.map (·.den env))) (args.map (·.den env)) d cs)/\k.den P tab (env++d::cs) Q L
 | .rq (.gW f bx args vt nb rt) k,env,Q,L=> ∃d cs,bX tab vt d/\ba tab nb cs/\dw P f (bx.map (·.map (·.den env))) (args.map (·.den env)) d cs rt/\k.den P tab (env++d::cs) Q L
 | .rq (.new f args nb) k,env,Q,L=> ∃cs,ba tab nb cs/\EQ P f (args.map (·.den env)) cs/\k.den P tab (env++cs) Q L
 | .rq (.cm gs e args vt) k,env,Q,L=> ∃d,bX tab vt d/\(bE env gs->Jr P (e.den env) (args.map (·.den env)) d)/\k.den P tab (env++[d]) Q L
 | .rq (.nV g vt ix) k,env,Q,L=> ∃d,bX tab vt d/\ER g d/\Jy env ix/\k.den P tab (env++[d]) Q L
 | .ite c a b,env,Q,L=>((c.den env).jf=true->a.den P tab env Q L)/\((c.den env).jf=false->b.den P tab env Q L)
 | .loop dh inits body,env,Q,L=> ∃(I:List D->Prop) (μ:List D->Nat),I (inits.map (·.den env)) /\
   ∀xs,fH tab dh xs->eB xs->I xs->body.den P tab (env++xs) Q ((fun ys=>I ys/\μ ys<μ xs)::L)
 | .again d es,env,_,L=>match L[d]? with
  | some p=>p (es.map (·.den env))
  | none=>False
end
end Go.Proofs.YtimickglpboilaaGreatDoor
