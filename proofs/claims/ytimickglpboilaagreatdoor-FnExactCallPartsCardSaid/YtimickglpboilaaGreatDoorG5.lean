/- Each operation does to a world what the executor says it does: append; and all operations together. No program in sight. -/
import Derived.Test.YtimickglpboilaaGreatDoorG4
import Derived.Orders
set_option linter.unusedVariables false
set_option linter.unusedSimpArgs false
set_option linter.unusedSectionVars false
namespace Go.Proofs.YtimickglpboilaaGreatDoor
section
open Go.RowKit
variable [GC]
section
variable {w:World}{M:Addr->Prop}
theorem dr.cells: ∀{rows:List (List D)} {b o:Nat},dr w M rows b o-> ∃vs:List Value,vs.length=rows.flatten.length/\Rs w M rows.flatten vs/\ ∀i u,vs[i]? =some u->w.cell? ⟨b,o+i,none⟩=some u
 | [],_,_,_=>⟨[],rfl,rfl,fun i u h=>by simp at h⟩
 | r::l,b,o,⟨h1,h2⟩=>by
  obtain ⟨vs,e1,r1,c1⟩:=h1.cells
  obtain ⟨us,e2,r2,c2⟩:=dr.cells h2
  refine ⟨vs++us,by simp [e1,e2],by simpa using r1.append r2,fun i u hu=> ?_⟩
  rw [List.getElem?_append] at hu
  split at hu
  ·exact c1 i u hu
  ·have:=c2 _ _ hu
   rwa [show o+r.length+(i-vs.length)=o+i by omega] at this
theorem FU{n:Nat}: ∀{rows:List (List D)},(∀r∈rows,r.length=n)->rows.flatten.length=rows.length*n
 | [],_=>by simp
 | r::l,h=>by
  have ih:=FU (rows:=l) (fun x hx=>h x (by simp [hx]))
  have hr:=h r (by simp)
  simp only [List.flatten_cons,List.length_append,List.length_cons,ih,hr,Nat.add_mul,Nat.one_mul]
  omega
theorem Bs{tab:Nat->List CT}{ts:List CT}: ∀{rows:List (List D)} {vs:List Value},cV tab ts rows->Rs w M rows.flatten vs-> ∀v∈vs,v.oneCell'=true
 | [],vs,_,h,v,hv=>by simp [Rs] at h;subst h;simp at hv
 | r::l,vs,ht,h,v,hv=>by
  simp only [cV] at ht
  simp only [List.flatten_cons] at h
  have h1:=h.take r.length
  have h2:=h.drop r.length
  rw [List.take_left' rfl] at h1
  rw [List.drop_left' rfl] at h2
  rw [<-List.take_append_drop r.length vs] at hv
  rcases List.mem_append.1 hv with hv|hv
  ·exact Cy ht.1 h1 v hv
  ·exact Bs ht.2 h2 v hv
theorem dr.append: ∀{rows r2:List (List D)} {b o:Nat},dr w M rows b o->dr w M r2 b (o+rows.flatten.length)->dr w M (rows++r2) b o
 | [],_,_,_,_,h=>by simpa using h
 | r::l,r2,b,o,⟨h1,h2⟩,h=>⟨h1,dr.append h2 (by simpa [Nat.add_assoc] using h)⟩
theorem Md(n:Nat): ∀(r c:Nat),Builtin.growBy n r c+768<=(c+768)*2^r
 | 0,c=>by simp [Builtin.growBy]
 | r+1,c=>by
  have hp:0<2^r:=Nat.two_pow_pos r
  simp only [Builtin.growBy]
  split
  ·rw [Nat.pow_succ]
   have:(c+768)*1<=(c+768)*(2^r*2):=Nat.mul_le_mul_left _ (by omega)
   rwa [Nat.mul_one] at this
  ·refine Nat.le_trans (Md n r _) ?_
   rw [Nat.pow_succ,show (c+768)*(2^r*2)=((c+768)*2)*2^r by rw [Nat.mul_assoc,Nat.mul_comm 2]]
   exact Nat.mul_le_mul_right _ (by omega)
theorem XF(n c:Nat):Builtin.growBy n 4 c<=16*(c+768):=by
 have h:=Md n 4 c
 have e2:(2:Nat)^4=16:=by decide
 have e:(c+768)*2^4=16*(c+768):=by rw [e2,Nat.mul_comm]
 rw [e] at h
 exact Nat.le_trans (Nat.le_add_right _ _) h
theorem abt{need cap:Nat}(h:cap<need)(h':need<=4294967296):Builtin.nextslicecap need cap<=16*(4294967296+768):=by
 unfold Builtin.nextslicecap
 by_cases h1:need>2*cap
 ·rw [if_pos h1];omega
 ·rw [if_neg h1]
  by_cases h2:cap<256
  ·rw [if_pos h2];omega
  ·rw [if_neg h2]
   exact Nat.le_trans (XF need cap) (Nat.mul_le_mul_left _ (by omega))
end
section
variable {P:Program}{c:SC}{F:Nat->Prop}{σ:Nat->ST}{bm:Nat->Nat}{tm:Nat->Value}{a:Act}{w w':World}{tb:TB}{Γ:List VT}{gs:Gd}
theorem aL.append(hs:aL c F σ bm tm a w){g n:Nat}(hg: ¬F g)(oh:Option Nat)(ub: ∀h,oh=some h->σ (3*h+2)= .live ⟨n,none⟩)(v':Value)(blk:Option Nat)
  (hfr:Fr c.B c.X w w') (hk:bb w (MM c.M0 bm tm σ) w' (MM c.M0 bm (aV tm g v') (aV (gG σ oh) (3*g+2) (.live ⟨n,none⟩))))
  (eE: ∀k,k<w.heap.size->some k≠blk->w'.heap[k]? =w.heap[k]?)
  (hblk: ∀b,blk=some b-> ∃h o s len cap,oh=some h/\tm h= .slice (some ⟨b,o,s⟩) len cap/\0<cap)
  (iC:lE c w' (aV tm g v') g ⟨n,none⟩) (hv': ∀b o s len cap,v'= .slice (some ⟨b,o,s⟩) len cap->0<cap->w.heap.size<=b\/blk=some b) :
  aL c (fun x=>F x\/x=g) (aV (gG σ oh) (3*g+2) (.live ⟨n,none⟩)) bm (aV tm g v') a w':=by
 have gh: ∀x,F x->aV tm g v' x=tm x:=fun x hx=>dW _ _ (fun e=>hg (e▸hx))
 have dI: ∀x m,σ (3*x+2)= .live m->aV tm g v' x=tm x/\ ∀y,bX (.live m) y->aV tm g v' y=tm y:=fun x m h=>⟨gh x (hs.f3 x m h),fun y hy=>gh y (hs.f1 (3*x+2) y (by rw [h];exact hy))⟩
 have vm: ∀id cs,σ (3*id+1)= .box cs->some (bm id)≠blk:=fun id cs hc e=>by
  obtain ⟨h,o,s,len,cap,h1,h2,h3⟩:=hblk _ e.symm
  exact hs.iz id cs h ⟨n,none⟩ _ hc (ub h h1) (.inl ⟨o,s,len,cap,h2,h3⟩) rfl
 have rH: ∀x m b,σ (3*x+2)= .live m->oh≠some x->cR tm x m b->some b≠blk:=fun x m b hx hne hb e=>by
  obtain ⟨h,o',s',len',cap',h1,h2,h3⟩:=hblk _ e.symm
  exact hs.iA x m h ⟨n,none⟩ b b hx (ub h h1) (fun e=>hne (e▸h1)) hb (.inl ⟨o',s',len',cap',h2,h3⟩) rfl
 have tZ: ∀b,cR (aV tm g v') g ⟨n,none⟩ b->w.heap.size<=b\/blk=some b:=fun b hb=>by
  obtain ⟨o,s,len,cap,h1,h2⟩:=oO hb
  rw [cm] at h1
  exact hv' b o s len cap h1 h2
 refine hs.turn (fun t=>by rw [BQ,KJ]) (fun x hx=>⟨rfl,gh x hx⟩) (fun _ h=> .inl h) hfr hk ?_ ?_ ?_ ?_ ?_ ?_ ?_ ?_
 ·intro id cs h
  rw [nY,uY] at h
  refine (hs.box id cs h).keep hk rfl (eE _ (hs.box id cs h).lt (vm id cs h)) fun x hx=>gh x ?_
  exact hs.f1 (3*id+1) x (by rw [h];exact hx)
 ·intro x m h
  by_cases e:x=g
  ·subst e;rw [cm] at h;simp at h;subst h;exact iC
  ·rw [jL _ e] at h
   obtain ⟨h1,h2⟩:=oX h
   exact (hs.live x m h1).keep (fun b hb=>eE _ ((hs.live x m h1).lt hb) (rH x m b h1 h2 hb)) (dI x m h1).1 (dI x m h1).2
 ·intro id id' cs cs' h h'
  rw [nY,uY] at h h'
  exact hs.kp id id' cs cs' h h'
 ·intro id cs x m b h hx hb
  rw [nY,uY] at h
  by_cases e:x=g
  ·subst e;rw [cm] at hx;simp at hx;subst hx
   rcases tZ b hb with h1|h1
   ·have:=(hs.box id cs h).lt;omega
   ·exact fun e=>vm id cs h (by rw [e,h1])
  ·rw [jL _ e] at hx
   obtain ⟨h1,h2⟩:=oX hx
   exact hs.iz id cs x m b h h1 ((cR.congr (dI x m h1).1 (dI x m h1).2).1 hb)
 ·intro x m y m' b b' hx hy hne hb hb'
  by_cases e:x=g<;>by_cases e':y=g
  ·exact absurd (e.trans e'.symm) hne
  ·subst e;rw [cm] at hx;simp at hx;subst hx;rw [jL _ e'] at hy
   obtain ⟨h1,h2⟩:=oX hy
   have hb':=(cR.congr (dI y m' h1).1 (dI y m' h1).2).1 hb'
   rcases tZ b hb with h3|h3
   ·have:=(hs.live y m' h1).lt hb';omega
   ·exact fun q=>rH y m' b' h1 h2 hb' (by rw [<-q,h3])
  ·subst e';rw [cm] at hy;simp at hy;subst hy;rw [jL _ e] at hx
   obtain ⟨h1,h2⟩:=oX hx
   have hb:=(cR.congr (dI x m h1).1 (dI x m h1).2).1 hb
   rcases tZ b' hb' with h3|h3
   ·have:=(hs.live x m h1).lt hb;omega
   ·exact fun q=>rH x m b h1 h2 hb (by rw [q,h3])
  ·rw [jL _ e] at hx;rw [jL _ e'] at hy
   obtain ⟨h1,h2⟩:=oX hx
   obtain ⟨h3,h4⟩:=oX hy
   exact hs.iA x m y m' b b' h1 h3 hne ((cR.congr (dI x m h1).1 (dI x m h1).2).1 hb) ((cR.congr (dI y m' h3).1 (dI y m' h3).2).1 hb')
 ·intro l x h
  by_cases e:l=3*g+2
  ·subst e;rw [cm] at h;obtain ⟨_,_,h⟩:=h;cases h
  ·rw [dW _ _ e] at h;exact .inl (hs.f1 l x (KI h))
 ·intro id cs h;rw [nY,uY] at h;exact .inl (hs.f2 id cs h)
 ·intro x m h
  by_cases e:x=g
  ·exact .inr e
  ·rw [jL _ e] at h;exact .inl (hs.f3 x m (oX h).1)
theorem aL.abr(hs:aL c F σ bm tm a w){g:Nat}{n':LV}(hg: ∀x,ef g x-> ¬F x){tm':Nat->Value}(hto: ∀x,¬ef g x->tm' x=tm x)(hb:Below w.heap.size w w')(tZ: ∀b,cR tm' g n' b->w.heap.size<=b)
  (hok:lE c w' tm' g n') (rJ: ∀x,bX (.live n') x->ef g x):aL c (fun x=>F x\/ef g x) (aV σ (3*g+2) (.live n')) bm tm' a w':=by
 have gh: ∀x,F x->tm' x=tm x:=fun x hx=>hto x fun h=>hg x h hx
 have dI: ∀x m,σ (3*x+2)= .live m->tm' x=tm x/\ ∀y,bX (.live m) y->tm' y=tm y:=fun x m h=>⟨gh x (hs.f3 x m h),fun y hy=>gh y (hs.f1 (3*x+2) y (by rw [h];exact hy))⟩
 have hM: ∀p,p.block<w.heap.size->MM c.M0 bm tm' (aV σ (3*g+2) (.live n')) p->MM c.M0 bm tm σ p:=by
  rintro p hp (h|⟨id,cs,h1,h2⟩|⟨x,m,h1,h2⟩)
  ·exact .inl h
  ·rw [nY] at h1;exact .inr (.inl ⟨id,cs,h1,h2⟩)
  ·by_cases e:x=g
   ·subst e;rw [cm] at h1;simp at h1;subst h1
    have:=tZ _ (DS h2);omega
   ·rw [jL _ e] at h1
    exact .inr (.inr ⟨x,m,h1,kC.congr (dI x m h1).1 (dI x m h1).2 h2⟩)
 have hk:bb w (MM c.M0 bm tm σ) w' (MM c.M0 bm tm' (aV σ (3*g+2) (.live n'))):=bb.below hb hM
 refine hs.turn (fun t=>BQ _ _ _) (fun x hx=>⟨rfl,gh x hx⟩) (fun _ h=> .inl h) (Fr.pJ hb hs.hB) hk ?_ ?_ ?_ ?_ ?_ ?_ ?_ ?_
 ·intro id cs h
  rw [nY] at h
  exact (hs.box id cs h).keep hk rfl (hb.block _ (hs.box id cs h).lt) fun x hx=>gh x (hs.f1 (3*id+1) x (by rw [h];exact hx))
 ·intro x m h
  by_cases e:x=g
  ·subst e;rw [cm] at h;simp at h;subst h;exact hok
  ·rw [jL _ e] at h
   exact (hs.live x m h).keep (fun b hb'=>hb.block _ ((hs.live x m h).lt hb')) (dI x m h).1 (dI x m h).2
 ·intro id id' cs cs' h h'
  rw [nY] at h h'
  exact hs.kp id id' cs cs' h h'
 ·intro id cs x m b h hx hb'
  rw [nY] at h
  by_cases e:x=g
  ·subst e;rw [cm] at hx;simp at hx;subst hx
   have:=tZ b hb'
   have:=(hs.box id cs h).lt;omega
  ·rw [jL _ e] at hx
   exact hs.iz id cs x m b h hx ((cR.congr (dI x m hx).1 (dI x m hx).2).1 hb')
 ·intro x m y m' b b' hx hy hne h1 h2
  by_cases e:x=g<;>by_cases e':y=g
  ·exact absurd (e.trans e'.symm) hne
  ·subst e;rw [cm] at hx;simp at hx;subst hx;rw [jL _ e'] at hy
   have:=tZ b h1
   have:=(hs.live y m' hy).lt ((cR.congr (dI y m' hy).1 (dI y m' hy).2).1 h2)
   omega
  ·subst e';rw [cm] at hy;simp at hy;subst hy;rw [jL _ e] at hx
   have:=tZ b' h2
   have:=(hs.live x m hx).lt ((cR.congr (dI x m hx).1 (dI x m hx).2).1 h1)
   omega
  ·rw [jL _ e] at hx;rw [jL _ e'] at hy
   exact hs.iA x m y m' b b' hx hy hne ((cR.congr (dI x m hx).1 (dI x m hx).2).1 h1) ((cR.congr (dI y m' hy).1 (dI y m' hy).2).1 h2)
 ·intro l x h
  by_cases e:l=3*g+2
  ·subst e;rw [cm] at h;exact .inr (rJ x h)
  ·rw [dW _ _ e] at h;exact .inl (hs.f1 l x h)
 ·intro id cs h;rw [nY] at h;exact .inl (hs.f2 id cs h)
 ·intro x m h
  by_cases e:x=g
  ·subst e;exact .inr (ef.self x)
  ·rw [jL _ e] at h;exact .inl (hs.f3 x m h)
theorem sE{oh:Option Nat}{p:Addr}{g n:Nat}{v':Value}(hs:aL c F σ bm tm a w)(hg: ¬F g)(h:MM c.M0 bm (aV tm g v') (aV (gG σ oh) (3*g+2) (.live ⟨n,none⟩)) p) :
  (MM c.M0 bm tm (gG σ oh) p)\/wI v' n p:=by
 rcases h with h|⟨id,cs,h1,h2⟩|⟨x,m,h1,h2⟩
 ·exact .inl (.inl h)
 ·rw [nY] at h1;exact .inl (.inr (.inl ⟨id,cs,h1,h2⟩))
 ·by_cases e:x=g
  ·subst e;rw [cm] at h1;simp at h1;subst h1
   have:=y7 h2
   rw [cm] at this
   exact .inr this
  ·rw [jL _ e] at h1
   obtain ⟨h3,_⟩:=oX h1
   refine .inl (.inr (.inr ⟨x,m,h1,kC.congr (dW _ _ e) (fun y hy=>dW _ _ fun e'=> ?_) h2⟩))
   subst e'
   exact hg (hs.f1 (3*x+2) _ (by rw [h3];exact hy))
theorem uC{oh:Option Nat}{p:Addr}(h:MM c.M0 bm tm (gG σ oh) p):MM c.M0 bm tm σ p:=by
 rcases h with h|⟨id,cs,h1,h2⟩|⟨x,m,h1,h2⟩
 ·exact .inl h
 ·rw [uY] at h1;exact .inr (.inl ⟨id,cs,h1,h2⟩)
 ·exact .inr (.inr ⟨x,m,(oX h1).1,h2⟩)
theorem IG: ∀(l:List Value) (C:Array Value) (o i:Nat),i<o\/o+l.length<=i->(fH C o l)[i]? =C[i]?
 | [],_,_,_,_=>rfl
 | x::r,C,o,i,h=>by
  simp only [List.length_cons] at h
  unfold fH
  rw [IG r _ _ _ (by omega)]
  simp [Array.getElem?_setIfInBounds];omega
theorem Qi: ∀(l:List Value) (C:Array Value) (o j:Nat) (u:Value),o+l.length<=C.size->l[j]? =some u->(fH C o l)[o+j]? =some u
 | [],_,_,_,_,_,h=>by simp at h
 | v::r,C,o,0,u,hs,h=>by
  simp only [List.length_cons] at hs
  simp at h;subst h
  unfold fH
  rw [IG r _ _ _ (by omega)]
  simp [Array.getElem?_setIfInBounds];omega
 | v::r,C,o,j+1,u,hs,h=>by
  simp only [List.length_cons] at hs
  simp at h
  unfold fH
  have:=Qi r (C.setIfInBounds o v) (o+1) j u (by simp;omega) h
  rwa [show o+(j+1)=o+1+j by omega]
def EP(w:World)(M:Addr->Prop)(rows:List (List D))(ad:Option Addr)(len cap:Nat):Prop :=
 len=rows.length/\len<=cap/\cap<=maxLen/\(ad=none->cap=0)/\ ∀b o s,ad=some ⟨b,o,s⟩->(0<len->s=none)/\dr w M rows b o
theorem LO{M:Addr->Prop}{rows:List (List D)}{ad:Option Addr}{len cap n:Nat}(h:EP w M rows ad len cap)(hn: ∀r∈rows,r.length=n) :
  ∃vs:List Value,vs.length=len*n/\Rs w M rows.flatten vs/\ ∀w1:World,w1.heap=w.heap->(Builtin.firstCells n len (.slice ad len cap)).run P w1= .ok vs.toArray w1:=by
 obtain ⟨h1,h2,h3,h4,h5⟩:=h
 rcases ad with _|⟨b,o,s⟩
 ·have:rows=[]:=List.eq_nil_of_length_eq_zero (by have:=h4 rfl;omega)
  subst this
  exact ⟨[],by simp at h1;simp [h1],rfl,fun w1 _=>by simp [Builtin.firstCells]⟩
 ·obtain ⟨vs,e,hr,hc⟩:=(h5 b o s rfl).2.cells
  have hlen:vs.length=len*n:=by rw [e,FU hn,h1]
  refine ⟨vs,hlen,hr,fun w1 hw1=> ?_⟩
  by_cases h0:len=0
  ·subst h0
   have:vs=[]:=List.eq_nil_of_length_eq_zero (by simpa using hlen)
   subst this
   simp [Builtin.firstCells,loadCells,loadCellsFrom]
  ·have vM:=(h5 b o s rfl).1 (by omega);subst vM
   have:=run_loadCells_list (P:=P) (w:=w1) ⟨b,o,none⟩ vs (fun j u hu=>by
    rw [addr_add,World.cell?_of_block (w:=w) (by rw [hw1])];exact hc j u hu)
   rw [hlen] at this
   simpa [Builtin.firstCells] using this
theorem acV(aH:cD P tb tb=true)(hs:aL c F σ bm tm a w)(aB:bL tb.tab Γ c.env){g n:Nat}(jD: ¬F g){o:Oper}{x y:Operand}{T U:Nat}{cl:Call}(ho:o.op= .call cl)(hcl:cl.callee= .builtin .append)(har:cl.args.toList=[x,y])(hat:cl.argTypes.toList=[T,U])
  (hd: ∀d,o.dst=some d->d<c.nt) {ti ui:TI} (aM:tb.get T=some ti) (AY:tb.get U=some ui) {aP:aT}
  (h:xF tb Γ gs o.dst σ g ti ui (aQ tb σ T x) (aQ tb σ U y)=some aP):fc P c F σ bm tm a w g gs n o aP:=by
 have har':cl.args= #[x,y]:=by rw [<-Array.toList_inj,har]
 have hat':cl.argTypes= #[T,U]:=by rw [<-Array.toList_inj,hat]
 unfold xF at h
 split at h
 ·rename_i el xO hv hv'
  split at h
  ·rename_i k ex ky ey ei hx hy gb
   split at h
   ·rename_i hc
    obtain ⟨Yb,Yc,hby,ajV,GQ⟩:=hc
    split at h
    ·simp at h
    ·rename_i v1 hv1
     obtain ⟨j,hj,hjs,hjb⟩:=pR aH gb hv1
     have My:ei.cells=v1.cells:=by simp [TI.cells,hv1]
     have htab:tb.tab el=v1.cells:=by simp [TB.tab,gb,My]
     rw [My] at h GQ
     obtain ⟨z0,hz0,hz1⟩: ∃z,j.zero=some z/\z.cells.size=v1.cells.length:=by
      cases v1 with
      | c t =>
       obtain ⟨i',d',hi',_,_,⟨z,hz,hzv⟩,_⟩:=eZ aH gb hv1
       rw [hj] at hi';simp at hi';subst hi'
       refine ⟨z,hz,?_⟩
       cases t<;>cases z<;>simp [zeroV] at hzv<;>rfl
      | agg ts =>
       obtain ⟨i',f',cs',hi',_,_,hz,hzv,_⟩:=kY aH gb hv1
       rw [hj] at hi';simp at hi';subst hi'
       refine ⟨_,hz,?_⟩
       have:=(EB (w:=w) (M:=fun _=>False) (tm:=tm) (c:=c) hzv).1.length
       simpa [Value.cells,V1.cells] using this
     obtain ⟨_,d1,_,_,_,_,hd1,dD⟩:=eZ aH aM hv
     simp only [fK] at dD;subst dD
     obtain ⟨_,d2,_,_,_,_,ji,tR⟩:=eZ aH AY hv'
     simp only [fK] at tR;subst tR
     have AZ:=(cL hs hx).1 (aK _)
     have Y7:=(cL hs hy).1 (aK _)
     obtain ⟨rows,hrows,dw,ad,len,cap,hval,hF⟩:=xP aB (nO Yb) AZ
     obtain ⟨wD,Nk,Nn,UK,fQ,Wi,yI,Mg⟩:=xP aB (nO Yc) Y7
     have XM:EP w (MM c.M0 bm tm σ) rows ad len cap:=hF
     have XN:EP w (MM c.M0 bm tm σ) wD UK fQ Wi:=Mg
     have Dp: ∀r∈rows,r.length=v1.cells.length:=fun r hr=>by rw [dw.len r hr,htab]
     have YG: ∀r∈wD,r.length=v1.cells.length:=fun r hr=>by rw [Nn.len r hr,htab]
     obtain ⟨vx,Y9,Za,Zb⟩:=LO (P:=P) XM Dp
     obtain ⟨vy,Dy,GY,yJ⟩:=LO (P:=P) XN YG
     have hone:=Bs Nn GY
     have iB:(E.app ex ey).den c.env= .sl (rows++wD):=by simp [E.den,hrows,Nk]
     have Df:(rows++wD).flatten=rows.flatten++wD.flatten:=by simp
     obtain ⟨hl1,fD,MV,Dg,Yv⟩:=hF
     obtain ⟨tY,hm2,hm3,hm4,hm5⟩:=Mg
     generalize hsz:v1.cells.length=sz at *
     have GN:len+fQ<=cap->(fQ=0\/ ∃b o' cells T0,ad=some ⟨b,o',none⟩/\w.heap[b]? =some (.cells cells T0 (0,0))/\o'+len*sz+fQ*sz<=cells.size) ->
       ∃w',(execOp a.eval o).run P w= .ok (.value (.slice ad (len+fQ) cap)) w'/\((fQ=0/\w'=w)\/ ∃b o' cells T0,ad=some ⟨b,o',none⟩/\w.heap[b]? =some (.cells cells T0 (0,0))/\w'.heap[b]? =some (.cells (fH cells (o'+len*sz) vy) T0 (0,0))/\gx w w' b/\o'+len*sz+fQ*sz<=cells.size):=by
      intro hle hroom
      rcases hroom with h0|⟨b,o',cells,T0,rfl,hblk,GM⟩
      ·subst h0
       have GX:vy=[]:=List.eq_nil_of_length_eq_zero (by simpa using Dy)
       subst GX
       refine ⟨w,?_,.inl ⟨rfl,rfl⟩⟩
       rcases ad with _|ad
       ·simp [execOp,ho,resolve,hcl,invoke,builtin,Builtin.append_,har',hat',hval,yI,run_underlying hd1,run_underlying ji,run_sizeOf hj,hjs,Builtin.lenOf,fD,yJ w rfl,show len<=cap from fD]
       ·simp [execOp,ho,resolve,hcl,invoke,builtin,Builtin.append_,har',hat',hval,yI,run_underlying hd1,run_underlying ji,run_sizeOf hj,hjs,Builtin.lenOf,fD,yJ w rfl,show len<=cap from fD,storeCells]
      ·obtain ⟨w',h1,h2,h3⟩:=zi (P:=P) b T0 vy w cells (o'+len*sz) 0 hblk hone (by rw [Dy];omega)
       refine ⟨w',?_,.inr ⟨b,o',cells,T0,rfl,hblk,by simpa using h2,h3,GM⟩⟩
       simp [execOp,ho,resolve,hcl,invoke,builtin,Builtin.append_,har',hat',hval,yI,run_underlying hd1,run_underlying ji,run_sizeOf hj,hjs,Builtin.lenOf,hle,yJ w rfl,addr_add,h1]
     have Du:cap<len+fQ->len+fQ<=4294967296-> ∃(cells:Array Value) (nc:Nat),(execOp a.eval o).run P w= .ok (.value (.slice (some ⟨w.heap.size,0,none⟩) (len+fQ) nc)) (w.drew.alloc (.cells cells el))/\len+fQ<=nc/\nc<=maxLen/\cells.size=nc*sz/\ ∀(i:Nat) (u:Value),(vx++vy)[i]? =some u->cells[i]? =some u:=by
      intro hgt Gs
      have hq: ¬(Builtin.nextslicecap (len+fQ) cap*j.bytes>2^48):=by
       have h1:=abt hgt Gs
       have h2:Builtin.nextslicecap (len+fQ) cap*j.bytes<=(16*(4294967296+768))*1024:=Nat.mul_le_mul h1 (by omega)
       omega
      have X8: ¬(j.bytes=0):=by omega
      have hnl: ¬(len+fQ<=cap):=by omega
      refine ⟨vx.toArray++vy.toArray++Builtin.zeroCells z0.cells ((len+fQ+w.tape w.drawn (.appendCap (len+fQ) cap el)%(2^63-(len+fQ)))-(len+fQ)),len+fQ+w.tape w.drawn (.appendCap (len+fQ) cap el)%(2^63-(len+fQ)),?_,by omega,?_,?_,?_⟩
      ·have ajZ:(w.drew).heap.size=w.heap.size:=rfl
       simp [execOp,ho,resolve,hcl,invoke,builtin,Builtin.append_,har',hat',hval,yI,run_underlying hd1,run_underlying ji,run_sizeOf hj,run_typeInfo hj,hjs,Builtin.lenOf,hnl,X8,Nat.not_lt.2 (Nat.not_lt.1 hq),Question.forced,Question.cut,zeroValue,hz0,newRow,Zb w.drew rfl,yJ w.drew rfl]
       rw [<-List.append_toArray,Array.append_assoc]
      ·have:=Nat.mod_lt (w.tape w.drawn (.appendCap (len+fQ) cap el)) (show 0<2^63-(len+fQ) by omega)
       unfold maxLen;omega
      ·simp [Builtin.zeroCells,Y9,Dy,hz1]
       rw [<-Nat.add_mul, <-Nat.add_mul]
      ·intro i u hu
       have hi:i<(vx++vy).length:=(List.getElem?_eq_some_iff.1 hu).1
       rw [Array.getElem?_append_left (by simpa using hi)]
       rw [List.append_toArray];simpa using hu
     have main: ∀oh:Option Nat,(∀h,oh=some h->σ (3*h+2)= .live ⟨sz,none⟩/\tm h= .slice ad len cap)->(oh=none->cap=0)->len+fQ<=4294967296-> ∀(K:Act->World->Prop) (Q:Exit->Act->World->Prop),
       (∀cG tm' a' w',aL c (fun x=>F x\/ef g x) (cY (aV (gG σ oh) (3*g+2) (.live ⟨sz,none⟩)) (wv o.dst (.v [] (.own g) (.app ex ey)))) cG tm' a' w'->K a' w')->o.wp P a w K Q:=by
      intro oh ub Ng Gs K Q hK
      have YH: ∀h,oh=some h->σ (3*h+2)= .live ⟨sz,none⟩:=fun h e=>(ub h e).1
      have fin: ∀(v':Value) (w':World) (blk:Option Nat),(execOp a.eval o).run P w= .ok (.value v') w'->Fr c.B c.X w w' ->
        bb w (MM c.M0 bm tm σ) w' (MM c.M0 bm (aV tm g v') (aV (gG σ oh) (3*g+2) (.live ⟨sz,none⟩))) ->
        (∀k,k<w.heap.size->some k≠blk->w'.heap[k]? =w.heap[k]?) ->
        (∀b,blk=some b-> ∃h o s len cap,oh=some h/\tm h= .slice (some ⟨b,o,s⟩) len cap/\0<cap) ->
        lE c w' (aV tm g v') g ⟨sz,none⟩->(∀b o s len cap,v'= .slice (some ⟨b,o,s⟩) len cap->0<cap->w.heap.size<=b\/blk=some b) ->
        R w' (MM c.M0 bm (aV tm g v') (aV (gG σ oh) (3*g+2) (.live ⟨sz,none⟩))) (.sl (rows++wD)) v'->o.wp P a w K Q:=by
       intro v' w' blk hrun hfr hk eE hblk iC Y3 hR
       unfold Oper.wp
       rw [hrun]
       refine hK _ _ _ _ (aL.tag ((hs.append jD oh YH v' blk hfr hk eE hblk iC Y3).kT hd (dJ (aK _) ⟨?_,?_⟩) fun x hx=> ?_))
       ·rw [iB];exact hR
       ·rw [cm]
       ·exact .inr hx
      by_cases hle:len+fQ<=cap
      ·
       by_cases h0:fQ=0
       ·subst h0
        obtain ⟨w',hrun,hcase⟩:=GN hle (.inl rfl)
        have hw:w'=w:=by
         rcases hcase with ⟨_,h⟩|⟨b,o',cells,T0,h1,h2,h3,h4,h5⟩
         ·exact h
         ·have GX:vy=[]:=List.eq_nil_of_length_eq_zero (by simpa using Dy)
          subst GX
          obtain ⟨w2,YV,hc2⟩:=GN hle (.inl rfl)
          have e1:=hrun.symm.trans YV
          simp only [Result.ok.injEq,true_and] at e1
          have:(execOp a.eval o).run P w= .ok (.value (.slice ad (len+0) cap)) w:=by
           rcases ad with _|ad
           ·simp [execOp,ho,resolve,hcl,invoke,builtin,Builtin.append_,har',hat',hval,yI,run_underlying hd1,run_underlying ji,run_sizeOf hj,hjs,Builtin.lenOf,fD,yJ w rfl]
           ·simp [execOp,ho,resolve,hcl,invoke,builtin,Builtin.append_,har',hat',hval,yI,run_underlying hd1,run_underlying ji,run_sizeOf hj,hjs,Builtin.lenOf,fD,yJ w rfl,storeCells]
          have e2:=hrun.symm.trans this
          simp only [Result.ok.injEq,true_and] at e2
          exact e2
        subst hw
        have vK:wD=[]:=List.eq_nil_of_length_eq_zero (by omega)
        subst vK
        simp only [Nat.add_zero] at hrun
        by_cases hlc:0<cap
        ·obtain ⟨h',rfl⟩: ∃h',oh=some h':=by
          cases oh with
          | none=>have:=Ng rfl;omega
          | some h'=>exact ⟨h',rfl⟩
         obtain ⟨hl',ht'⟩:=ub h' rfl
         rcases ad with _|⟨b,o',s⟩
         ·have:=Dg rfl;omega
         refine fin _ _ (some b) hrun (Fr.refl _ _ _) (fun p v hp hn=>⟨hp,fun hm=> ?_⟩) (fun _ _ _=>rfl) (fun b' hb'=>⟨h',o',s,len,cap,rfl,by simp at hb';subst hb';exact ht',hlc⟩) ?_ (fun b' o2 s2 l2 c2 he _=> .inr (by simp at he;rw [he.1.1])) ?_
         ·rcases sE hs jD hm with h|h
          ·exact hn (uC h)
          ·exact hn (.inr (.inr ⟨h',⟨sz,none⟩,hl',wg (by rw [ht'];exact h)⟩))
         ·refine ⟨fun b' o2 s2 l2 c2 he hlt=> ?_,(fun e dp he=>by cases he),(fun e gv ms he=>by cases he)⟩
          rw [cm] at he
          exact (hs.live h' ⟨sz,none⟩ hl').sp b' o2 s2 l2 c2 (by rw [ht',he]) hlt
         ·rw [List.append_nil, <-hrows, <-hval]
          refine R.keep (fun p v hp hn=>⟨hp,fun hm=> ?_⟩) _ _ AZ.rd
          rw [hval] at hm
          rcases sE hs jD hm with h|h
          ·exact hn (uC h)
          ·exact hn (.inr (.inr ⟨h',⟨sz,none⟩,hl',wg (by rw [ht'];exact h)⟩))
        ·have GG: ∀p,¬wI (.slice ad len cap) sz p:=by
          rintro p ⟨b,o',s,l2,c2,he,_,h1,h2⟩
          simp only [Value.slice.injEq] at he
          obtain ⟨_,rfl,rfl⟩:=he
          have e1:cap=0:=by omega
          rw [e1] at h2;omega
         have hkk:bb w' (MM c.M0 bm tm σ) w' (MM c.M0 bm (aV tm g (.slice ad len cap)) (aV (gG σ oh) (3*g+2) (.live ⟨sz,none⟩))):=fun p v hp hn=>⟨hp,fun hm=>by
          rcases sE hs jD hm with h|h
          ·exact hn (uC h)
          ·exact GG p h⟩
         refine fin _ _ none hrun (Fr.refl _ _ _) hkk (fun _ _ _=>rfl) (fun b' hb'=>by cases hb') ?_ (fun b' o2 s2 l2 c2 he hlt=>by simp only [Value.slice.injEq] at he;omega) ?_
         ·refine ⟨fun b' o2 s2 l2 c2 he hlt=> ?_,(fun e dp he=>by cases he),(fun e gv ms he=>by cases he)⟩
          rw [cm] at he;simp only [Value.slice.injEq] at he;omega
         ·rw [List.append_nil, <-hrows]
          have:=R.keep hkk _ _ AZ.rd
          rwa [hval] at this
       ·
        have hlc:0<cap:=by omega
        obtain ⟨h',rfl⟩: ∃h',oh=some h':=by
         cases oh with
         | none=>have:=Ng rfl;omega
         | some h'=>exact ⟨h',rfl⟩
        obtain ⟨hl',ht'⟩:=ub h' rfl
        rcases ad with _|⟨b,o',s⟩
        ·have:=Dg rfl;omega
        obtain ⟨vM,Ag,cells,T0,hblk,hroom⟩:=(hs.live h' ⟨sz,none⟩ hl').sp b o' s len cap ht' hlc
        subst vM
        replace hroom:o'+cap*sz<=cells.size:=hroom
        have hmul:len*sz+fQ*sz<=cap*sz:=by rw [<-Nat.add_mul];exact Nat.mul_le_mul_right _ hle
        obtain ⟨w',hrun,hcase⟩:=GN hle (.inr ⟨b,o',cells,T0,rfl,hblk,by omega⟩)
        rcases hcase with ⟨h,_⟩|⟨b1,o1,E9,T1,h1,h2,h3,h4,h5⟩
        ·exact absurd h h0
        simp only [Option.some.injEq,Addr.mk.injEq,and_true] at h1
        obtain ⟨rfl,rfl⟩:=h1
        rw [hblk] at h2
        simp only [Option.some.injEq,Obj.cells.injEq] at h2
        obtain ⟨rfl,rfl,_⟩:=h2
        have hspare: ∀i,len*sz<=i->i<cap*sz->MM c.M0 bm tm σ ⟨b,o'+i,none⟩:=fun i hi1 hi2 =>
         .inr (.inr ⟨h',⟨sz,none⟩,hl',wg ⟨b,o',none,len,cap,ht',rfl,by show o'+len*sz<=o'+i;omega,by show o'+i<o'+cap*sz;omega⟩⟩)
        have Db: ∀i,w'.cell? ⟨b,i,none⟩=(fH cells (o'+len*sz) vy)[i]? :=fun i=>cell_of_row w' b i _ _ _ h3
        have X9: ∀i,w.cell? ⟨b,i,none⟩=cells[i]? :=fun i=>cell_of_row w b i _ _ _ hblk
        have C4: ∀p,p.block=b-> ¬MM c.M0 bm tm (gG σ (some h')) p:=by
         rintro p dM (h|⟨id,cs,q1,q2⟩|⟨x,m,q1,q2⟩)
         ·have:=hs.m0.1 p h;omega
         ·rw [uY] at q1
          exact hs.iz id cs h' ⟨sz,none⟩ b q1 hl' (.inl ⟨o',none,len,cap,ht',hlc⟩) (by rw [<-q2,dM])
         ·obtain ⟨q6,q7⟩:=oX q1
          exact hs.iA x m h' ⟨sz,none⟩ p.block b q6 hl' (fun e=>q7 (by rw [e])) (DS q2) (.inl ⟨o',none,len,cap,ht',hlc⟩) dM
        have hkk:bb w (MM c.M0 bm tm σ) w' (MM c.M0 bm (aV tm g (.slice (some ⟨b,o',none⟩) (len+fQ) cap)) (aV (gG σ (some h')) (3*g+2) (.live ⟨sz,none⟩))):=by
         intro p v hp hn
         constructor
         ·by_cases dM:p.block=b
          ·have hsp:=World.cell?_spot hp
           obtain ⟨pb,po,ps⟩:=p
           simp only at dM hsp;subst dM hsp
           rw [Db,IG]
           ·rw [<-X9];exact hp
           ·rcases Nat.lt_or_ge po (o'+len*sz) with h|h
            ·exact .inl h
            ·refine .inr ?_
             rcases Nat.lt_or_ge po (o'+len*sz+vy.length) with h6|h6
             ·refine absurd (hspare (po-o') (by omega) (by omega)) ?_
              rwa [show o'+(po-o')=po by omega]
             ·exact h6
          ·rw [<-hp];exact World.cell?_of_block (h4.block _ dM)
         ·intro hm
          rcases sE hs jD hm with h|⟨b2,o2,s2,l2,c2,q1,q2,q3,q4⟩
          ·exact hn (uC h)
          ·simp only [Value.slice.injEq,Option.some.injEq,Addr.mk.injEq] at q1
           obtain ⟨⟨rfl,rfl,rfl⟩,rfl,rfl⟩:=q1
           rw [Nat.add_mul] at q3
           exact hn (.inr (.inr ⟨h',⟨sz,none⟩,hl',wg ⟨b,o',none,len,cap,ht',q2,(by show o'+len*sz<=_;omega),q4⟩⟩))
        refine fin _ _ (some b) hrun (Fr.DR h4 (.inl Ag)) hkk (fun k _ hk=>h4.block k (fun e=>hk (by rw [e]))) (fun b' hb'=>⟨h',o',none,len,cap,rfl,by simp at hb';subst hb';exact ht',hlc⟩) ?_ (fun b' o2 s2 l2 c2 he _=> .inr (by simp at he;rw [he.1.1])) ?_
        ·refine ⟨fun b' o2 s2 l2 c2 he hlt=> ?_,(fun e dp he=>by cases he),(fun e gv ms he=>by cases he)⟩
         rw [cm] at he
         simp only [Value.slice.injEq,Option.some.injEq,Addr.mk.injEq] at he
         obtain ⟨⟨rfl,rfl,rfl⟩,rfl,rfl⟩:=he
         exact ⟨rfl,Ag,_,T0,h3,by rw [BG];exact hroom⟩
        ·refine ⟨_,_,_,rfl,by simp;omega,hle,MV,(fun h=>by cases h),fun b2 o2 s2 he=> ?_⟩
         simp only [Option.some.injEq,Addr.mk.injEq] at he
         obtain ⟨rfl,rfl,rfl⟩:=he
         refine ⟨fun _=>rfl,dr.append (dr.keep hkk _ _ _ (Yv b o' none rfl).2) ?_⟩
         rw [FU Dp, <-hl1]
         refine dr.of_flat GY hkk fun i u hu=> ?_
         have hi:i<vy.length:=(List.getElem?_eq_some_iff.1 hu).1
         refine ⟨by rw [Db];exact Qi vy cells _ i u (by omega) hu,fun hm=> ?_⟩
         rcases sE hs jD hm with h|⟨b2,o2,s2,l2,c2,q1,q2,q3,q4⟩
         ·exact C4 _ rfl h
         ·simp only [Value.slice.injEq,Option.some.injEq,Addr.mk.injEq] at q1
          obtain ⟨⟨rfl,rfl,rfl⟩,rfl,rfl⟩:=q1
          simp only at q3
          rw [Nat.add_mul] at q3
          omega
      ·
       obtain ⟨cells,nc,hrun,hn1,hn2,Dm,YD⟩:=Du (by omega) Gs
       have hb:Below w.heap.size w (w.drew.alloc (.cells cells el)):=((Below.refl _ _).drew).alloc (Nat.le_refl _) _
       have Db: ∀i,(w.drew.alloc (.cells cells el)).cell? ⟨w.heap.size,i,none⟩=cells[i]? :=fun i=>by
        have:=World.cell?_alloc_new (w:=w.drew) cells el i
        exact this
       have hkk:bb w (MM c.M0 bm tm σ) (w.drew.alloc (.cells cells el)) (MM c.M0 bm (aV tm g (.slice (some ⟨w.heap.size,0,none⟩) (len+fQ) nc)) (aV (gG σ oh) (3*g+2) (.live ⟨sz,none⟩))):=by
        refine bb.below hb fun p hp hm=> ?_
        rcases sE hs jD hm with h|⟨b2,o2,s2,l2,c2,q1,q2,q3,q4⟩
        ·exact uC h
        ·simp only [Value.slice.injEq,Option.some.injEq,Addr.mk.injEq] at q1
         omega
       refine fin _ _ none hrun (Fr.pJ hb hs.hB) hkk (fun k hk _=>hb.block k hk) (fun b' hb'=>by cases hb') ?_ (fun b' o2 s2 l2 c2 he _=> .inl (by simp at he;omega)) ?_
       ·refine ⟨fun b' o2 s2 l2 c2 he hlt=> ?_,(fun e dp he=>by cases he),(fun e gv ms he=>by cases he)⟩
        rw [cm] at he
        simp only [Value.slice.injEq,Option.some.injEq,Addr.mk.injEq] at he
        obtain ⟨⟨rfl,rfl,rfl⟩,rfl,rfl⟩:=he
        exact ⟨rfl,hs.hB,cells,el,heap_alloc_new w.drew _,by show 0+nc*sz<=_;rw [Dm];omega⟩
       ·refine ⟨_,_,_,rfl,by simp;omega,hn1,hn2,(fun h=>by cases h),fun b2 o2 s2 he=> ?_⟩
        simp only [Option.some.injEq,Addr.mk.injEq] at he
        obtain ⟨rfl,rfl,rfl⟩:=he
        refine ⟨fun _=>rfl,dr.of_flat (by rw [Df];exact Za.append GY) hkk fun i u hu=> ?_⟩
        have hi:i<(vx++vy).length:=(List.getElem?_eq_some_iff.1 hu).1
        rw [Nat.zero_add]
        refine ⟨by rw [Db];exact YD i u hu,fun hm=> ?_⟩
        rcases sE hs jD hm with h|⟨b2,o2,s2,l2,c2,q1,q2,q3,q4⟩
        ·have:=hs.EI _ (uC h)
         simp at this
        ·simp only [Value.slice.injEq,Option.some.injEq,Addr.mk.injEq] at q1
         obtain ⟨⟨rfl,rfl,rfl⟩,rfl,rfl⟩:=q1
         simp only [Nat.zero_add,Nat.add_mul] at q3
         simp only [List.length_append] at hi
         omega
     have MI:(∀r∈aP.rq,gU P c.env n r)->(Rq.cond [] (.few ex ey))∈aP.rq->len+fQ<=4294967296:=fun hr hin=>by
      have:=hr _ hin (aK _)
      simp [E.den,hrows,Nk] at this
      omega
     cases k with
     | d=>simp at h
     | full =>
      simp only [Option.some.injEq] at h;subst h
      refine ⟨fun _ hr K Q hK=>main none (by simp) (fun _=> ?_) (MI hr (by simp)) K Q fun cG tm' a' w' hS=>hK cG tm' a' w' ?_,fun hn=>absurd (aK _) hn⟩
      ·obtain ⟨_,a2,he⟩:=AZ
       rw [hval] at he
       simp only [Value.slice.injEq] at he
       omega
      ·rw [zu (by intro p hp d;simp at hp;subst hp;simp;omega)]
       exact hS
     | ag _=>simp at h
     | own h' =>
      simp only at h
      split at h
      ·rename_i m hm
       split at h
       ·rename_i Dl
        subst Dl
        simp only [Option.some.injEq] at h;subst h
        refine ⟨fun _ hr K Q hK=>main (some h') (fun q hq=> ?_) (by simp) (MI hr (by simp)) K Q fun cG tm' a' w' hS=>hK cG tm' a' w' ?_,fun hn=>absurd (aK _) hn⟩
        ·simp only [Option.some.injEq] at hq;subst hq
         exact ⟨hm,by rw [<-hval];exact AZ.2.symm⟩
        ·rw [zu (by intro p hp d;simp at hp;rcases hp with rfl|rfl<;>simp<;>omega)]
         exact hS
       ·simp at h
      ·simp at h
   ·simp at h
  ·simp at h
 ·simp at h
theorem ac0(aH:cD P tb tb=true)(hs:aL c F σ bm tm a w)(aB:bL tb.tab Γ c.env){g n:Nat}(jD: ¬F g){o:Oper}{T len:Nat}{parts:Array (Nat×Operand)}(ho:o.op= .buildSlice T len parts)(hd: ∀d,o.dst=some d->d<c.nt){ti:TI}(aM:tb.get T=some ti){aP:aT}
  (h:CG tb Γ gs o.dst σ g ti len parts.toList=some aP):fc P c F σ bm tm a w g gs n o aP:=by
 unfold CG at h
 split at h
 ·rename_i el hv
  split at h
  ·rename_i hcnd
   obtain ⟨hlen,hok⟩:=hcnd
   simp only [Option.map_eq_some_iff] at h
   obtain ⟨e,he,rfl⟩:=h
   refine ⟨fun _ _ K Q hK=> ?_,fun hn=>absurd (aK _) hn⟩
   obtain ⟨w',cells,h1,h2,h3,h3',h4⟩:=PS aH hs aB ho aM hv hlen hok he (aK _)
   have C4: ∀p,MM c.M0 bm (aV tm g (.slice (some ⟨w.heap.size,0,none⟩) len len)) (aV (gG σ none) (3*g+2) (.live ⟨(tb.tab el).length,none⟩)) p->MM c.M0 bm tm σ p:=fun p hp=>by
    rcases sE hs jD hp with h|⟨b2,o2,s2,l2,c2,q1,q2,q3,q4⟩
    ·exact uC h
    ·simp only [Value.slice.injEq] at q1
     obtain ⟨_,rfl,rfl⟩:=q1
     omega
   unfold Oper.wp
   rw [h1]
   refine hK bm (aV tm g (.slice (some ⟨w.heap.size,0,none⟩) len len)) _ _ ?_
   rw [zu (by intro p hp d;simp at hp;subst hp;simp;omega)]
   refine aL.tag ((hs.append jD none (by simp) _ none (Fr.pJ h2 hs.hB) (bb.below h2 fun p _ h=>C4 p h) (fun k hk _=>h2.block k hk) (fun b hb=>by cases hb) ?_ (fun b' o2 s2 l2 c2 he _=> .inl (by simp at he;omega))).kT hd (dJ (aK _) ⟨h4 _ C4,?_⟩) fun x hx=> ?_)
   ·refine ⟨fun b' o2 s2 l2 c2 he hlt=> ?_,(fun e dp he=>by cases he),(fun e gv ms he=>by cases he)⟩
    rw [cm] at he
    simp only [Value.slice.injEq,Option.some.injEq,Addr.mk.injEq] at he
    obtain ⟨⟨rfl,rfl,rfl⟩,rfl,rfl⟩:=he
    exact ⟨rfl,hs.hB,cells,el,h3,by show 0+len*(tb.tab el).length<=_;omega⟩
   ·rw [cm]
   ·exact .inr hx
  ·simp at h
 ·simp at h
theorem abe{z:Array Value}{m n i j:Nat}(hz:z.size=n)(hi:i<m)(hj:j<n):(madeCells z (m*n))[i*n+j]? =z[j]? :=by
 have h1:i*n+j<m*n:=by
  have:(i+1)*n<=m*n:=Nat.mul_le_mul_right _ hi
  rw [Nat.add_mul,Nat.one_mul] at this
  omega
 simp only [madeCells,Array.getElem?_map,Array.getElem?_range,h1, ↓reduceIte,Option.map_some]
 rw [hz,Nat.mul_comm i n,Nat.mul_add_mod,Nat.mod_eq_of_lt hj]
 simp [hz,hj]
theorem S9: ∀{ts:List CT} {vs:List Value},lB ts vs=true->vs.length=ts.length
 | [],[],_=>rfl
 | t::ts,v::vs,h=>by
  simp only [lB,Bool.and_eq_true] at h
  simp [S9 h.2]
 | [],_::_,h=>by simp [lB] at h
 | _::_,[],h=>by simp [lB] at h
theorem Jm: ∀{ts:List CT} {vs:List Value},lB ts vs=true-> ∀{j:Nat},j<ts.length-> ∃t u,ts[j]? =some t/\vs[j]? =some u/\zeroV t u=true
 | [],_,_,j,hj=>by simp at hj
 | t::ts,v::vs,h,j,hj=>by
  simp only [lB,Bool.and_eq_true] at h
  cases j with
  | zero=>exact ⟨t,v,rfl,rfl,h.1⟩
  | succ j=>simpa using Jm h.2 (j:=j) (by simpa using hj)
 | _::_,[],h,_,_=>by simp [lB] at h
theorem KE: ∀{ts:List CT} {ms:List Nat},xA tb ts=some ms-> ∀(j:Nat) (t:CT),ts[j]? =some t->(ms.getD j 0=0->qq t=true)/\(ms.getD j 0≠0-> ∃e,t= .sl e)
 | [],ms,h,j,t,ht=>by simp at ht
 | t::ts,ms,h,j,t',ht=>by
  simp only [xA] at h
  split at h
  ·simp at h
  ·rename_i ms' hms
   cases j with
   | zero =>
    simp at ht;subst ht
    split at h
    ·rename_i e
     cases hc:(rQ (tb.tab e)&&Nat.blt 0 (tb.tab e).length) with
     | false=>rw [hc] at h;simp at h
     | true =>
      rw [hc] at h
      simp only [cond_true,Option.some.injEq] at h;subst h
      simp only [Bool.and_eq_true] at hc
      have:=Nat.le_of_ble_eq_true hc.2
      refine ⟨fun h0=> ?_,fun _=>⟨e,rfl⟩⟩
      simp at h0
      rw [h0] at this;simp at this
    ·simp at h
    ·simp at h
    ·rename_i h1 h2 h3
     simp only [Option.some.injEq] at h;subst h
     refine ⟨fun _=> ?_,fun h0=>absurd rfl h0⟩
     cases t<;>simp [qq] at * <;>simp_all
   | succ j =>
    have key:=KE hms j t' (by simpa using ht)
    split at h
    ·rename_i e
     cases hc:(rQ (tb.tab e)&&Nat.blt 0 (tb.tab e).length) with
     | false=>rw [hc] at h;simp at h
     | true=>rw [hc] at h;simp only [cond_true,Option.some.injEq] at h;subst h;simpa using key
    ·simp at h
    ·simp at h
    ·simp only [Option.some.injEq] at h;subst h;simpa using key
theorem adi(aH:cD P tb tb=true)(hs:aL c F σ bm tm a w)(aB:bL tb.tab Γ c.env){g n:Nat}(tX: ∀x,ef g x-> ¬F x){o:Oper}{T T1 T2:Nat}{l cc:Operand}(ho:o.op= .makeSlice T l cc)(hd: ∀d,o.dst=some d->d<c.nt){ti:TI}(aM:tb.get T=some ti){aP:aT}
  (h:FF tb Γ gs o.dst g ti (aQ tb σ T1 l) (aQ tb σ T2 cc)=some aP):fc P c F σ bm tm a w g gs n o aP:=by
 unfold FF at h
 split at h
 ·rename_i el k1 en k2 ec hv hl hc
  split at h
  ·rename_i ei gb
   split at h
   ·simp at h
   ·rename_i v1 hv1
    split at h
    ·rename_i hcnd
     simp only [Option.some.injEq] at h;subst h
     obtain ⟨rfl,hint,hby,hpos,MZ⟩:=hcnd
     refine ⟨fun _ hr K Q hK=> ?_,fun hn=>absurd (aK _) hn⟩
     have hin:gU P c.env n (.cond [] (.an (.ic .leq (.li .i64 0) en) (.ic .leq en (.li .i64 4294967296)))):=hr _ (by simp)
     replace hin:=hin (aK _)
     have hki:en.inf tb.tab Γ=some (.one (.c (.int .i64))):=by
      obtain ⟨k,hk⟩:=rN (show (isInt (en.inf tb.tab Γ)).isSome=true by rw [hint];rfl)
      rw [hk] at hint ⊢
      simp [isInt] at hint
      rw [hint]
     obtain ⟨m,hm,hmv,_⟩:=jw aB hki ((cL hs hl).1 (aK _))
     obtain ⟨m',hm',YB,_⟩:=jw aB hki ((cL hs hc).1 (aK _))
     rw [hm] at hm';cases hm'
     simp only [E.den,hm,D.cQ,D.eX,aS,D.bool.injEq,Bool.and_eq_true,decide_eq_true_eq] at hin
     obtain ⟨i',d,hi',_,_,_,Yd,jj⟩:=eZ aH aM hv
     simp only [fK] at jj;subst jj
     have htab:tb.tab el=v1.cells:=by simp [TB.tab,gb,TI.cells,hv1]
     obtain ⟨j,z,hj,hjs,hjb,hz,hzl⟩: ∃(j:TypeInfo) (z:Value),P.info? el=some j/\j.size=v1.cells.length/\j.bytes=ei.bytes/\j.zero=some z/\lB v1.cells z.cells.toList=true:=by
      cases v1 with
      | c t =>
       obtain ⟨j,d',h1,h2,h3,⟨z,h4,h5⟩,h6,h7⟩:=eZ aH gb hv1
       refine ⟨j,z,h1,h2,h3,h4,?_⟩
       have hc1:=(tz (w:=default) (M:=fun _=>False) (tab:=fun _=>[]) (Jl _ t) (EA (c:=⟨default,0,none,fun _=>False,0,[]⟩) (w:=default) (tm:=fun _=>undef) (M:=fun _=>False) h5).1).1
       rw [hc1]
       simp [V1.cells,lB,h5]
      | agg ts =>
       obtain ⟨j,fields,cs,h1,h2,h3,h4,h5,_⟩:=kY aH gb hv1
       exact ⟨j,.agg cs,h1,h2,h3,h4,h5⟩
     have hrun:=run_make (P:=P) w T el j z Yd hj hz .i64 .i64 m m hin.1 (Int.le_refl _) (by
      rw [hjb]
      have h1:(ei.bytes:Int)*m<=1024*m:=Int.mul_le_mul_of_nonneg_right (by omega) hin.1
      omega) (by omega)
     have hrun':(execOp a.eval o).run P w= .ok (.value (.slice (some ⟨w.heap.size,0,none⟩) m.toNat m.toNat)) (w.alloc (.cells (madeCells z.cells (m.toNat*j.size)) el)):=by
      simp [execOp,ho,hmv,YB,hrun]
     have hb:Below w.heap.size w (w.alloc (.cells (madeCells z.cells (m.toNat*j.size)) el)):=(Below.refl _ _).alloc (Nat.le_refl _) _
     have gI:m.toNat<=maxLen:=by unfold maxLen;omega
     have Nz:z.cells.toList.length=v1.cells.length:=S9 hzl
     let tm':Nat->Value:=aV (aV tm g (.slice (some ⟨w.heap.size,0,none⟩) m.toNat m.toNat)) (g+1) (.tuple (madeCells z.cells (m.toNat*j.size)))
     have vP:tm' g= .slice (some ⟨w.heap.size,0,none⟩) m.toNat m.toNat:=by
      show aV _ _ _ g=_
      rw [dW _ _ (by omega),cm]
     have GR:tm' (g+1)= .tuple (madeCells z.cells (m.toNat*j.size)):=cm _ _ _
     have hto: ∀x,¬ef g x->tm' x=tm x:=fun x hx=>by
      show aV _ _ _ x=_
      rw [dW _ _ fun e=>hx (by subst e;unfold ef jX;omega),dW _ _ fun e=>hx (by subst e;exact ef.self _)]
     have hcell: ∀i r,(List.replicate m.toNat (v1.cells.map fU))[i]? =some r-> ∀j' d',r[j']? =some d'->j'<v1.cells.length/\i<m.toNat/\ ∃t u,v1.cells[j']? =some t/\z.cells[j']? =some u/\zeroV t u=true/\d'=fU t/\(madeCells z.cells (m.toNat*j.size))[i*v1.cells.length+j']? =some u:=by
      intro i r hi j' d' hj'
      have hlt:=(List.getElem?_eq_some_iff.1 hi).1
      simp only [List.length_replicate] at hlt
      rw [List.getElem?_replicate_of_lt hlt] at hi
      simp only [Option.some.injEq] at hi;subst hi
      have hjn:=(List.getElem?_eq_some_iff.1 hj').1
      simp only [List.length_map] at hjn
      obtain ⟨t,u,h1,h2,h3⟩:=Jm hzl hjn
      refine ⟨hjn,hlt,t,u,h1,by simpa using h2,h3,?_,?_⟩
      ·simp [h1] at hj';exact hj'.symm
      ·rw [hjs,abe (by rw [<-Array.length_toList,Nz]) hlt hjn];simpa using h2
     have Dj: ∀u∈(madeCells z.cells (m.toNat*j.size)).toList,∀b,¬bi u b:=by
      intro u hu b hb
      simp only [madeCells,Array.toList_map,List.mem_map] at hu
      obtain ⟨q,hq,rfl⟩:=hu
      obtain ⟨o1,s1,l1,c1,h1,h2⟩:=hb
      by_cases hz0:z.cells.size=0
      ·have:z.cells[q%z.cells.size]! =default:=by rw [getElem!_neg];omega
       rw [this] at h1;cases h1
      ·have hlt:q%z.cells.size<z.cells.size:=Nat.mod_lt _ (by omega)
       obtain ⟨t,u,h3,h4,h5⟩:=Jm hzl (show q%z.cells.size<v1.cells.length by rw [<-Nz];simpa using hlt)
       have:z.cells[q%z.cells.size]! =u:=by
        have h4':z.cells[q%z.cells.size]? =some u:=by simpa using h4
        rw [getElem!_def,h4']
       rw [this] at h1
       subst h1
       cases t<;>simp [zeroV] at h5
     have Dl: ∀ms,xA tb v1.cells=some ms-> ∀(j':Nat) (t:CT),v1.cells[j']? =some t->(ms.getD j' 0=0->qq t=true)/\(ms.getD j' 0≠0-> ∃e,t= .sl e):=fun ms hms=>KE hms
     unfold Oper.wp
     rw [hrun']
     refine hK bm tm' _ _ ?_
     rw [zu (by intro p hp d;simp at hp;subst hp;simp;omega)]
     refine aL.kT (hs.abr tX hto hb (fun b hbk=> ?_) ⟨?_,fun e dp he=> ?_,fun e gv ms he=> ?_⟩ fun x hx=> ?_) hd (dJ (aK _) ⟨?_,vP.symm⟩) fun x hx=> ?_
     ·rcases hbk with ⟨o1,s1,l1,c1,h1,h2⟩|⟨e,gv,ms,cells,u,h1,h2,h3,h4⟩
      ·rw [vP] at h1
       simp only [Value.slice.injEq,Option.some.injEq,Addr.mk.injEq] at h1
       omega
      ·simp only [Option.some.injEq,Prod.mk.injEq] at h1
       obtain ⟨_,h1⟩:=h1
       split at h1
       ·cases h1
       ·simp only [Option.map_eq_some_iff,Prod.mk.injEq] at h1
        obtain ⟨_,_,rfl,_⟩:=h1
        rw [GR] at h2;cases h2
        exact absurd h4 (Dj u h3 b)
     ·intro b' o2 s2 l2 c2 he hlt
      rw [vP] at he
      simp only [Value.slice.injEq,Option.some.injEq,Addr.mk.injEq] at he
      obtain ⟨⟨rfl,rfl,rfl⟩,rfl,rfl⟩:=he
      refine ⟨rfl,hs.hB,_,el,heap_alloc_new _ _,?_⟩
      rw [size_madeCells,hjs,htab]
      show 0+m.toNat*v1.cells.length<=_
      omega
     ·simp only [Option.some.injEq,Prod.mk.injEq] at he
      obtain ⟨rfl,rfl⟩:=he
      refine ⟨some ⟨w.heap.size,0,none⟩,m.toNat,m.toNat,List.replicate m.toNat (v1.cells.map fU),vP,by simp [E.den,hm,htab],by simp,Nat.le_refl _,gI,(fun h=>by cases h),fun r hr=> ?_,fun b' o2 s2 he=>⟨(fun _=>by cases he;rfl),fun i r hi j' d' hj'=> ?_⟩⟩
      ·rw [List.eq_of_mem_replicate hr,htab];simp
      ·cases he
       obtain ⟨hjn,hlt,t,u,h1,h2,h3,h4,h5⟩:=hcell i r hi j' d' hj'
       refine ⟨u,?_,?_⟩
       ·rw [World.cell?_alloc_new,htab,Nat.zero_add];exact h5
       ·have Bd:=(EA (c:=⟨default,0,none,fun _=>False,0,[]⟩) (w:=default) (tm:=fun _=>undef) (M:=fun _=>False) h3).1
        have hlf:qq t=true->sD d' u:=fun hl=>by rw [h4];exact Hq (tab:=fun _=>[]) (Jl _ t) hl Bd
        rw [htab]
        split
        ·rename_i Di
         refine hlf ?_
         simp only [rQ,List.all_eq_true] at Di
         exact Di t (List.mem_of_getElem? h1)
        ·rename_i Di
         obtain ⟨ms,hms⟩:=Option.isSome_iff_exists.1 ((htab▸MZ).resolve_left Di)
         rw [hms]
         refine ⟨fun h0=>hlf ((Dl ms hms j' t h1).1 h0),fun hne=> ?_⟩
         obtain ⟨e2,rfl⟩:=(Dl ms hms j' t h1).2 hne
         have hu:u= .slice none 0 0:=by
          simp only [zeroV] at h3
          split at h3
          all_goals first|rfl|simp_all
         subst hu
         refine ⟨⟨_,GR,h5⟩,(fun b o s len cap h=>by cases h),none,0,0,[],rfl,by rw [h4];rfl,rfl,Nat.le_refl _,Nat.zero_le _,(fun _=>rfl),(fun r hr=>by simp at hr),(fun b o s h=>by cases h)⟩
     ·simp only [Option.some.injEq,Prod.mk.injEq] at he
      obtain ⟨_,h1⟩:=he
      split at h1
      ·cases h1
      ·simp only [Option.map_eq_some_iff,Prod.mk.injEq] at h1
       obtain ⟨_,_,rfl,_⟩:=h1
       refine ⟨_,GR,fun u hu=>⟨0,fun b o s len cap h h'=>absurd ⟨o,s,len,cap,h,h'⟩ (Dj u hu b)⟩,fun k k' u u' b hk _ _ hb1=>absurd hb1 (Dj u (by rw [<-Array.getElem?_toList] at hk;exact List.mem_of_getElem? hk) b),fun u hu b hb1=>absurd hb1 (Dj u hu b)⟩
     ·obtain ⟨e,ms,hx⟩:=hx
      simp only [Option.some.injEq,Prod.mk.injEq] at hx
      obtain ⟨_,h1⟩:=hx
      split at h1
      ·cases h1
      ·simp only [Option.map_eq_some_iff,Prod.mk.injEq] at h1
       obtain ⟨_,_,rfl,_⟩:=h1
       unfold ef jX;omega
     ·exact ⟨some ⟨w.heap.size,0,none⟩,m.toNat,by simp [hm],by simp [hm],gI,(fun h=>by cases h),fun b o s h _=>by cases h;rfl⟩
     ·exact .inr (by obtain rfl:x=g:=hx;exact ef.self _)
    ·simp at h
  ·simp at h
 ·simp at h
theorem acU(aH:cD P tb tb=true)(hs:aL c F σ bm tm a w)(aB:bL tb.tab Γ c.env){g n:Nat}(tX: ∀x,ef g x-> ¬F x){o:Oper}{x y:Operand}{T U:Nat}{cl:Call}(ho:o.op= .call cl)(hcl:cl.callee= .builtin .append)(har:cl.args.toList=[x,y])(hat:cl.argTypes.toList=[T,U])
  (hd: ∀d,o.dst=some d->d<c.nt) {ti ui:TI} (aM:tb.get T=some ti) (AY:tb.get U=some ui) {aP:aT}
  (h:xE tb Γ gs o.dst σ g ti ui (aQ tb σ T x) (aQ tb σ U y)=some aP):fc P c F σ bm tm a w g gs n o aP:=by
 unfold xE at h
 split at h
 ·rename_i hy;exact (by simp [KR] at h)
 ·exact acV aH hs aB (tX g (ef.self g)) ho hcl har hat hd aM AY h
theorem sSl(aH:cD P tb tb=true)(hs:aL c F σ bm tm a w)(aB:bL tb.tab Γ c.env){g n:Nat}(jD: ¬F g){o:Oper}{x:Operand}{lo hi:Option Operand}{T:Nat}(ho:o.op= .slice T x lo hi none)(hd: ∀d,o.dst=some d->d<c.nt){ti:TI}(aM:tb.get T=some ti){aP:aT}
  (h:xL tb Γ gs o.dst σ g ti (aQ tb σ T x) (lo.map (aQ tb σ 0)) (hi.map (aQ tb σ 0))=some aP):fc P c F σ bm tm a w g gs n o aP:=by
 unfold xL at h
 split at h
 ·rename_i h' ex l hx hlo hhi
  split at h
  ·rename_i e he
   simp only [Option.some.injEq] at h;subst h
   cases lo with
   | none=>simp at hlo
   | some y =>
    cases hi with
    | some z=>simp at hhi
    | none =>
     simp only [Option.map_some,Option.some.injEq] at hlo
     subst hlo
     exact (by simp [KT] at he)
  ·exact fc.jU hs hd (Qf aH hs aB ho aM h)
 ·exact fc.jU hs hd (Qf aH hs aB ho aM h)
end
end
section
open Go.RowKit
variable [GC]
section
variable {P:Program}{c:SC}{F:Nat->Prop}{σ:Nat->ST}{bm:Nat->Nat}{tm:Nat->Value}{a:Act}{w:World}{cx:Cx}{Γ:List VT}{gs:Gd}{ops:Array Oper}
theorem S5(hs:aL c F σ bm tm a w)(aB:bL cx.tb.tab Γ c.env){o:Oper}(h:qh cx.tb.tab Γ ops σ o=some gs):Region.wanted o (yielded ops a.tmps)=true↔bB c.env gs:=by
 unfold qh at h
 unfold Region.wanted
 split at h
 ·rename_i hg
  simp only [Option.some.injEq] at h;subst h
  simp [hg,aK]
 ·rename_i j b hg
  rw [hg]
  simp only
  split at h
  ·rename_i d hd
   split at h
   ·rename_i g' k e hσ
    cases hb:fg .bool (e.inf cx.tb.tab Γ)<;>rw [hb] at h<;>simp at h
    subst h
    have hr:=hs.tmps d
    rw [hσ] at hr
    rw [FZ]
    unfold yielded
    rw [hd]
    simp only [Option.bind_some]
    by_cases hg':bB c.env g'
    ·obtain ⟨x,hx,hv⟩:=tC aB (nO hb) (hr.1 hg')
     have hv':a.tmps[d]? =some (.bool x):=by
      simp only [Array.getD_eq_getD_getElem?] at hv
      cases hq:a.tmps[d]? with
      | none=>rw [hq] at hv;simp [undef] at hv
      | some z=>rw [hq] at hv;simp at hv;rw [hv]
     rw [hv',hx]
     simp [hg']
    ·have hv:=hr.2 hg'
     simp only [Array.getD_eq_getD_getElem?] at hv
     have hv':a.tmps[d]? =none\/a.tmps[d]? =some (.tuple #[]):=by
      cases hq:a.tmps[d]? with
      | none=>exact .inl rfl
      | some z=>rw [hq] at hv;simp [undef] at hv;exact .inr (by rw [hv])
     rcases hv' with hv'|hv'<;>rw [hv']<;>simp [hg']
   ·simp at h
  ·simp at h
theorem Ie(aH:cD P cx.tb cx.tb=true)(hnt:c.nt=cx.nt)(hs:aL c F σ bm tm a w)(aB:bL cx.tb.tab Γ c.env){g:Nat}(tX: ∀x,ef g x-> ¬F x){o:Oper}{aP:aT}(h:pK cx ops Γ g o σ=some aP) :
  ∃gs,qh cx.tb.tab Γ ops σ o=some gs/\fc P c F σ bm tm a w g gs Γ.length o aP:=by
 have hg: ¬F g:=tX g (ef.self g)
 unfold pK at h
 split at h
 ·simp at h
 ·rename_i gs hgs
  refine ⟨gs,hgs,?_⟩
  cases jB:xD cx.nt o.dst with
  | false=>rw [jB] at h;simp at h
  | true =>
   rw [jB] at h
   simp only [cond_true] at h
   have hd: ∀d,o.dst=some d->d<c.nt:=fun d he=>by rw [he] at jB;simp only [xD] at jB;rw [hnt];exact Nat.le_of_ble_eq_true jB
   split at h
   ·rename_i x ho;exact fc.jU hs hd (Qe hs (.inl ho) h)
   ·rename_i x ho;exact fc.jU hs hd (Qe hs (.inr ho) h)
   ·rename_i T x ho
    split at h
    ·rename_i ti aM;exact fc.jU hs hd (sLd aH hs hs.gi aB ho aM h)
    ·simp at h
   ·rename_i T y x ho
    split at h
    ·rename_i ti aM;exact sSt aH hs aB hg ho aM h
    ·simp at h
   ·rename_i T x f ho
    split at h
    ·rename_i ti aM;exact fc.jU hs hd (ac8 aH hs ho aM h)
    ·simp at h
   ·rename_i T x i ho
    split at h
    ·rename_i ti aM;exact fc.jU hs hd (adb aH hs aB ho aM h)
    ·simp at h
   ·rename_i T x i ho
    split at h
    ·rename_i ti aM;exact fc.jU hs hd (ado aH hs aB ho aM h)
    ·simp at h
   ·rename_i T x ho;exact acY aH hs aB hg ho hd h
   ·rename_i T ho
    split at h
    ·rename_i ti aM;exact acT aH hs hg ho hd aM h
    ·simp at h
   ·rename_i T parts ho
    split at h
    ·rename_i ti aM;exact fc.jU hs hd (acZ aH hs aB ho aM h)
    ·simp at h
   ·rename_i T l cc ho
    split at h
    ·rename_i ti aM;exact adi aH hs aB tX ho hd aM h
    ·simp at h
   ·rename_i T len parts ho
    split at h
    ·rename_i ti aM
     cases hb:(Nat.blt 0 len&&gs.isEmpty) with
     | true=>rw [hb] at h;exact ac0 aH hs aB hg ho hd aM h
     | false=>rw [hb] at h;exact fc.jU hs hd (ac1 aH hs aB ho aM h)
    ·simp at h
   ·rename_i T x lo hi ho
    split at h
    ·rename_i ti aM;exact sSl aH hs aB hg ho hd aM h
    ·simp at h
   ·rename_i S T x ho
    split at h
    ·rename_i si ti hsi aM;exact fc.jU hs hd (ac5 aH hs aB ho hsi aM h)
    ·simp at h
   ·rename_i x i ho;exact fc.jU hs hd (ac6 hs aB ho h)
   ·rename_i T x ho;exact fc.jU hs hd (adm hs aB ho h)
   ·rename_i T x ho;exact fc.jU hs hd (adj hs aB ho h)
   ·rename_i x y z ho;exact fc.jU hs hd (adn hs aB ho h)
   ·rename_i f first fW ho;exact (by simp [CK] at h)
   ·rename_i x ho;exact fc.jU hs hd (adl hs ho h)
   ·rename_i op T x y T' ho;exact fc.jU hs hd (acX aH hs aB ho h)
   ·rename_i cl ho
    split at h
    ·rename_i f hcl
     split at h
     ·rename_i ti aM
      split at h
      ·exact adk hs aB hg ho hcl hd rfl h
      ·exact ac2 hs aB tX ho hcl hd rfl h
     ·simp at h
    ·rename_i t hcl
     split at h
     ·rename_i ti aM;exact (by simp [KS] at h)
     ·simp at h
    ·rename_i hcl
     split at h
     ·rename_i x T har hat
      split at h
      ·rename_i ti aM;exact fc.jU hs hd (sLen aH hs aB ho hcl har hat aM h)
      ·simp at h
     ·simp at h
    ·rename_i hcl
     split at h
     ·rename_i x y T U har hat
      split at h
      ·rename_i ti ui aM AY;exact acU aH hs aB tX ho hcl har hat hd aM AY h
      ·simp at h
     ·simp at h
    ·simp at h
   ·simp at h
theorem Ex(aH:cD P cx.tb cx.tb=true)(hnt:c.nt=cx.nt)(hs:aL c F σ bm tm a w)(aB:bL cx.tb.tab Γ c.env){g i:Nat}(hg: ∀x,ef g x-> ¬F x){o:Oper}(hi:ops[i]? =some o){aP:aT}(h:pK cx ops Γ g o σ=some aP)
  (hr: ∀r∈aP.rq,gU P c.env Γ.length r) {Q:Exit->Act->World->Prop} {K:Act->World->Prop} (hK: ∀cG tm' a' w',aL c (fun x=>F x\/ef g x) (cY σ aP.wr) cG tm' a' w'->K a' w'):wpOp P ops Q i K a w:=by
 obtain ⟨gs,hgs,hok⟩:=Ie aH hnt hs aB hg h
 unfold wpOp
 rw [hi]
 simp only
 by_cases hw:bB c.env gs
 ·rw [if_pos ((S5 hs aB hgs).2 hw)]
  exact .inl (hok.1 hw hr K Q hK)
 ·rw [if_neg (fun e=>hw ((S5 hs aB hgs).1 e))]
  exact hK _ _ _ _ (hok.2 hw)
def qN(P:Program)(env:List D):Nat->List aT->Prop
 | _,[]=>True
 | n,e::r=>(∀q∈e.rq,gU P env n q)/\qN P env (n+(gZ e.rq).length) r
theorem bL.CU{tab:Nat->List CT}{Γ Δ:List VT}{env:List D}(h:bL tab (Γ++Δ) env):bL tab Γ env:=fun i t ht=>h i t (by rw [List.getElem?_append_left (List.getElem?_eq_some_iff.1 ht).1];exact ht)
theorem wB{ops:Array Oper}: ∀{l:List Oper} {ss:SS} {es:List aT} {s:SS},jo cx ops l ss=some (es,s)-> ∃Δ,s.Γ=ss.Γ++Δ/\s.nt=ss.nt+jX*l.length/\s.lv=ss.lv
 | [],ss,es,s,h=>by simp [jo] at h;obtain ⟨_,rfl⟩:=h;exact ⟨[],by simp⟩
 | o::r,ss,es,s,h=>by
  simp only [jo] at h
  split at h
  ·simp at h
  ·rename_i e he
   split at h
   ·simp at h
   ·rename_i es' s' hrec
    simp only [Option.some.injEq,Prod.mk.injEq] at h
    obtain ⟨rfl,rfl⟩:=h
    obtain ⟨Δ,h1,h2,h3⟩:=wB hrec
    exact ⟨gZ e.rq++Δ,by rw [h1];simp [SS.step],by rw [h2];simp only [SS.step,List.length_cons,Nat.mul_add];omega,by rw [h3];rfl⟩
theorem BH(ss:SS)(e:aT):(ss.step e).σ.get=cY ss.σ.get e.wr:=Sg.Mb _ _
def below(n:Nat):Nat->Prop:=fun x=>x<n
theorem Qh(aH:cD P cx.tb cx.tb=true)(hnt:c.nt=cx.nt){Q:Exit->Act->World->Prop}: ∀(l:List Oper) (k:Nat) (ss:SS) (es:List aT) (s:SS),(∀j,l[j]? =ops[k+j]?)->jo cx ops l ss=some (es,s)->bL cx.tb.tab s.Γ c.env->qN P c.env ss.Γ.length es ->
  (∀cG tm' a' w',aL c (below s.nt) s.σ.get cG tm' a' w'->Q .normal a' w')-> ∀bm tm a w,aL c (below ss.nt) ss.σ.get bm tm a w->wpOps P ops Q (List.range' k l.length) a w
 | [],k,ss,es,s,hl,h,aB,hr,hQ,bm,tm,a,w,hs=>by
  simp [jo] at h;obtain ⟨_,rfl⟩:=h
  exact hQ _ _ _ _ hs
 | o::r,k,ss,es,s,hl,h,aB,hr,hQ,bm,tm,a,w,hs=>by
  simp only [jo] at h
  split at h
  ·simp at h
  ·rename_i e he
   split at h
   ·simp at h
   ·rename_i es' s' hrec
    simp only [Option.some.injEq,Prod.mk.injEq] at h
    obtain ⟨rfl,rfl⟩:=h
    obtain ⟨Δ,h1,h2,_⟩:=wB hrec
    have vS:bL cx.tb.tab ss.Γ c.env:=by
     rw [h1] at aB
     simp only [SS.step,List.append_assoc] at aB
     exact aB.CU
    simp only [List.length_cons,List.range'_succ]
    rw [wpOps_cons]
    refine Ex aH hnt hs vS (g:=ss.nt) (fun x hx=>by have:=hx.1;simp only [below];omega) (by have:=hl 0;simpa using this.symm) he hr.1 fun cG tm' a' w' hS=> ?_
    refine Qh aH hnt r (k+1) (ss.step e) es' s' (fun j=>by have:=hl (j+1);simpa [Nat.add_assoc,Nat.add_comm 1 j] using this) hrec aB (by
     have:=hr.2
     simpa [SS.step] using this) hQ cG tm' a' w' ?_
    rw [BH]
    exact hS.mono fun x hx=>by simp only [below,SS.step,ef] at *;omega
theorem acd(aH:cD P cx.tb cx.tb=true)(hnt:c.nt=cx.nt){Q:Exit->Act->World->Prop}{id:Nat}{ss s:SS}{es:List aT}(h:jo cx ops ops.toList ss=some (es,s))(aB:bL cx.tb.tab s.Γ c.env)(hr:qN P c.env ss.Γ.length es)
  (hQ: ∀cG tm' a' w',aL c (below s.nt) s.σ.get cG tm' a' w'->Q .normal a' w') (hs:aL c (below ss.nt) ss.σ.get bm tm a w):(Code.region id ops false).wp P Q a w:=by
 refine wp_region ?_
 have:=Qh (ops:=ops) aH hnt ops.toList 0 ss es s (fun j=>by simp) h aB hr hQ bm tm a w hs
 rw [Array.length_toList, <-List.range_eq_range'] at this
 exact this
end
end
section
open Go.RowKit
variable [GC]
section
variable {tb:TB}{Γ:List VT}{gs:Gd}{σ bo:Nat->ST}{ops:Array Oper}
theorem Bt{T:Nat}{x:Operand}(h: ∀t,x= .tmp t->bo (3*t)=σ (3*t)):aQ tb bo T x=aQ tb σ T x:=by
 cases x with
 | tmp t=>simp only [aQ,h t rfl]
 | _=>rfl
theorem OX{T:Nat}{x:Operand}{g:Gd}{id off:Nat}(h:aQ tb σ T x=some (.ptr g id off)): ∃t,x= .tmp t/\σ (3*t)= .ptr g id off:=by
 cases x with
 | tmp t=>simp only [aQ,Option.some.injEq] at h;exact ⟨t,rfl,h⟩
 | const v =>
  simp only [aQ] at h
  unfold uW at h
  (repeat' split at h)<;>simp at h
 | _=>simp [aQ] at h
theorem abJ{T:Nat}{x:Operand}{g0:Gd}{g n:Nat}{i:E}{off:Nat}(h:aQ tb σ T x=some (.mp g0 g n i off)): ∃t,x= .tmp t/\σ (3*t)= .mp g0 g n i off:=by
 cases x with
 | tmp t=>simp only [aQ,Option.some.injEq] at h;exact ⟨t,rfl,h⟩
 | const v =>
  simp only [aQ] at h
  unfold uW at h
  (repeat' split at h)<;>simp at h
 | _=>simp [aQ] at h
theorem abH{T:Nat}{x:Operand}{gd:Gd}{g gv n:Nat}{i:E}{off:Nat}{j:E}{m o2:Nat}(h:aQ tb σ T x=some (.ip gd g gv n i off j m o2)): ∃t,x= .tmp t/\σ (3*t)= .ip gd g gv n i off j m o2:=by
 cases x with
 | tmp t=>simp only [aQ,Option.some.injEq] at h;exact ⟨t,rfl,h⟩
 | const v =>
  simp only [aQ] at h
  unfold uW at h
  (repeat' split at h)<;>simp at h
 | _=>simp [aQ] at h
theorem abI{T:Nat}{x:Operand}{gd:Gd}{g gv n:Nat}{i:E}{off:Nat}{l:E}(h:aQ tb σ T x=some (.iv gd g gv n i off l)): ∃t,x= .tmp t/\σ (3*t)= .iv gd g gv n i off l:=by
 cases x with
 | tmp t=>simp only [aQ,Option.some.injEq] at h;exact ⟨t,rfl,h⟩
 | const v =>
  simp only [aQ] at h
  unfold uW at h
  (repeat' split at h)<;>simp at h
 | _=>simp [aQ] at h
theorem abK{T:Nat}{x:Operand}{gs:Gd}{g:Nat}{e:E}(h:aQ tb σ T x=some (.v gs (.own g) e)): ∃t,x= .tmp t/\σ (3*t)= .v gs (.own g) e:=by
 cases x with
 | tmp t=>simp only [aQ,Option.some.injEq] at h;exact ⟨t,rfl,h⟩
 | const v =>
  simp only [aQ] at h
  unfold uW at h
  (repeat' split at h)<;>simp at h
 | _=>simp [aQ] at h
structure Alike(ops:Array Oper)(o:Oper)(σ bo:Nat->ST):Prop where
 t: ∀t∈tmpsOf ops o,bo (3*t)=σ (3*t)
 p:looks o.op=true-> ∀t∈tmpsOf ops o,∀g id off,σ (3*t)= .ptr g id off->bo (3*id+1)=σ (3*id+1)
 r:looks o.op=true-> ∀t∈tmpsOf ops o,∀gs g e,σ (3*t)= .v gs (.own g) e->bo (3*g+2)=σ (3*g+2)
 ip:looks o.op=true-> ∀t∈tmpsOf ops o,∀gd g gv n i off j m o2,σ (3*t)= .ip gd g gv n i off j m o2->bo (3*g+2)=σ (3*g+2)
 iv:looks o.op=true-> ∀t∈tmpsOf ops o,∀gd g gv n i off l,σ (3*t)= .iv gd g gv n i off l->bo (3*g+2)=σ (3*g+2)
 m:looks o.op=true-> ∀t∈tmpsOf ops o,∀g0 g n i off,σ (3*t)= .mp g0 g n i off->bo (3*g+2)=σ (3*g+2)
theorem KM: ∀{l:List Nat} {t:Nat},t∈l-> ∀{gd:Gd} {g gv n:Nat} {i:E} {off:Nat} {j:E} {m o2:Nat},σ (3*t)= .ip gd g gv n i off j m o2->3*g+2∈kq σ l
 | [],t,h,_,_,_,_,_,_,_,_,_,_=>by simp at h
 | x::r,t,h,gd,g,gv,n,i,off,j,m,o2,he=>by
  unfold kq
  rcases List.mem_cons.1 h with rfl|h
  ·rw [he];simp
  ·have:=KM h he
   split<;>simp [this]
theorem KN: ∀{l:List Nat} {t:Nat},t∈l-> ∀{gd:Gd} {g gv n:Nat} {i:E} {off:Nat} {le:E},σ (3*t)= .iv gd g gv n i off le->3*g+2∈kq σ l
 | [],t,h,_,_,_,_,_,_,_,_=>by simp at h
 | x::r,t,h,gd,g,gv,n,i,off,le,he=>by
  unfold kq
  rcases List.mem_cons.1 h with rfl|h
  ·rw [he];simp
  ·have:=KN h he
   split<;>simp [this]
theorem KO: ∀{l:List Nat} {t:Nat},t∈l-> ∀{g0:Gd} {g n:Nat} {i:E} {off:Nat},σ (3*t)= .mp g0 g n i off->3*g+2∈kq σ l
 | [],t,h,_,_,_,_,_,_=>by simp at h
 | x::r,t,h,g0,g,n,i,off,he=>by
  unfold kq
  rcases List.mem_cons.1 h with rfl|h
  ·rw [he];simp
  ·have:=KO h he
   split<;>simp [this]
theorem KQ: ∀{l:List Nat} {t:Nat},t∈l-> ∀{g:Gd} {id off:Nat},σ (3*t)= .ptr g id off->3*id+1∈kq σ l
 | [],t,h,_,_,_,_=>by simp at h
 | x::r,t,h,g,id,off,he=>by
  unfold kq
  rcases List.mem_cons.1 h with rfl|h
  ·rw [he];simp
  ·have:=KQ h he
   split<;>simp [this]
theorem KP: ∀{l:List Nat} {t:Nat},t∈l-> ∀{gs:Gd} {g:Nat} {e:E},σ (3*t)= .v gs (.own g) e->3*g+2∈kq σ l
 | [],t,h,_,_,_,_=>by simp at h
 | x::r,t,h,gs,g,e,he=>by
  unfold kq
  rcases List.mem_cons.1 h with rfl|h
  ·rw [he];simp
  ·have:=KP h he
   split<;>simp [this]
theorem Alike.of{o:Oper}(h: ∀l∈readsOf ops σ o,bo l=σ l):Alike ops o σ bo where
 t:=fun t ht=>h _ (by unfold readsOf;simp only [List.mem_append,List.mem_map];exact .inl ⟨t,ht,rfl⟩)
 p:=fun hl t ht g id off he=>h _ (by unfold readsOf;rw [hl];simp only [List.mem_append,cond_true];exact .inr (KQ ht he))
 r:=fun hl t ht gs g e he=>h _ (by unfold readsOf;rw [hl];simp only [List.mem_append,cond_true];exact .inr (KP ht he))
 ip:=fun hl t ht gd g gv n i off j m o2 he=>h _ (by unfold readsOf;rw [hl];simp only [List.mem_append,cond_true];exact .inr (KM ht he))
 iv:=fun hl t ht gd g gv n i off l he=>h _ (by unfold readsOf;rw [hl];simp only [List.mem_append,cond_true];exact .inr (KN ht he))
 m:=fun hl t ht g0 g n i off he=>h _ (by unfold readsOf;rw [hl];simp only [List.mem_append,cond_true];exact .inr (KO ht he))
theorem nQ{o:Oper}{x:Operand}{t:Nat}(hx:x∈o.op.operands.toList)(e:x= .tmp t):t∈tmpsOf ops o:=by
 unfold tmpsOf
 simp only [List.mem_append,List.mem_filterMap]
 exact .inl ⟨x,hx,by rw [e]⟩
theorem XG{tab:Nat->List CT}{o:Oper}(h:Alike ops o σ bo):qh tab Γ ops bo o=qh tab Γ ops σ o:=by
 unfold qh
 cases hg:o.guard with
 | none=>rfl
 | some jb =>
  obtain ⟨j,b⟩:=jb
  simp only
  cases hd:(ops[j]?).bind (·.dst) with
  | none=>rfl
  | some d =>
   simp only
   rw [h.t d (by unfold tmpsOf;simp only [List.mem_append,hg];exact .inr (by simp [hd]))]
theorem W7{tab:Nat->List CT}{dst:Option Nat}{ti:TI}{s:Option ST}(h: ∀g id off,s=some (.ptr g id off)->bo (3*id+1)=σ (3*id+1)):xK tab Γ gs dst bo ti s=xK tab Γ gs dst σ ti s:=by
 unfold xK
 cases hb:s.bind (under gs) with
 | none=>rfl
 | some st =>
  cases st with
  | ptr g id off =>
   simp only
   obtain ⟨st0,h1,h2⟩:=oT hb
   rcases qE h2 with ⟨_,_,_,_,_,h3⟩|⟨g',i',o',rfl,_,h3⟩|⟨_,_,_,_,_,h3⟩<;>cases h3
   rw [h _ _ _ h1]
  | _=>rfl
theorem W6{dst:Option Nat}{ti:TI}{x:Operand}(h1:aQ tb bo 0 x=aQ tb σ 0 x)(h: ∀g id off,aQ tb σ 0 x=some (.ptr g id off)->bo (3*id+1)=σ (3*id+1))(hm: ∀g0 g n i off,aQ tb σ 0 x=some (.mp g0 g n i off)->bo (3*g+2)=σ (3*g+2))(hp: ∀gd g gv n i off j m o2,aQ tb σ 0 x=some (.ip gd g gv n i off j m o2)->bo (3*g+2)=σ (3*g+2)):xJ tb Γ gs dst bo ti x=xJ tb Γ gs dst σ ti x:=by
 have hl:=W7 (tab:=tb.tab) (Γ:=Γ) (gs:=gs) (dst:=dst) (ti:=ti) h
 cases x with
 | global g=>rfl
 | _ =>
  simp only [xJ]
  rw [h1]
  revert hl hm hp
  generalize aQ tb σ 0 _=s
  intro hm hp hl
  split
  ·rfl
  ·rfl
  ·rfl
  ·exact hl
theorem Xb{tab:Nat->List CT}{dst:Option Nat}{ti:TI}{s x:Option ST}(h: ∀g id off,s=some (.ptr g id off)->bo (3*id+1)=σ (3*id+1)):tA tab Γ gs dst bo ti s x=tA tab Γ gs dst σ ti s x:=by
 unfold tA
 cases gs with
 | cons _ _=>rfl
 | nil =>
  cases dst with
  | some _=>rfl
  | none =>
   cases hb:s.bind (under []) with
   | none=>rfl
   | some st =>
    cases st with
    | ptr g id off =>
     obtain ⟨st0,h1,h2⟩:=oT hb
     rcases qE h2 with ⟨_,_,_,_,_,h3⟩|⟨g',i',o',rfl,_,h3⟩|⟨_,_,_,_,_,h3⟩<;>cases h3
     cases hx:dS [] x with
     | none=>rfl
     | some ke =>
      obtain ⟨k,e⟩:=ke
      simp only
      rw [h _ _ _ h1]
    | _=>cases hx:dS [] x<;>rfl
theorem Xa{dst:Option Nat}{g0:Nat}{ti:TI}{s x:Option ST}(hm: ∀g0 g n i off,s=some (.mp g0 g n i off)->bo (3*g+2)=σ (3*g+2))(hp: ∀gd g gv n i off j m o2,s=some (.ip gd g gv n i off j m o2)->bo (3*g+2)=σ (3*g+2))
  (ho: ∀gs g e,x=some (.v gs (.own g) e)->bo (3*g+2)=σ (3*g+2)) (he:tA tb.tab Γ gs dst bo ti s x=tA tb.tab Γ gs dst σ ti s x):xM tb Γ gs dst bo g0 ti s x=xM tb Γ gs dst σ g0 ti s x:=by
 unfold xM
 split
 ·rename_i g n i off
  unfold CJ
  rw [hm _ _ _ _ _ rfl]
  cases hst:σ (3*g+2) with
  | live m =>
   obtain ⟨n',_|⟨e0,dp⟩⟩:=m
   ·rfl
   cases hu:dS [] x with
   | none=>rfl
   | some ke =>
    obtain ⟨k,e⟩:=ke
    obtain ⟨st,g',h1,h2⟩:=I8 hu
    have hk: ∀h',k= .own h'->bo (3*h'+2)=σ (3*h'+2):=by
     rintro h' rfl
     rcases qE h2 with ⟨g2,k2,e2,rfl,_,h3⟩|⟨_,_,_,_,_,h3⟩|⟨_,_,_,_,_,h3⟩<;>cases h3
     exact ho _ _ _ h1
    cases k with
    | own h' =>
     rcases dp with _|⟨gv,ms⟩
     ·rfl
     ·simp only [hk h' rfl]
    | _=>rfl
  | _=>rfl
 ·rfl
 ·exact he
theorem KZ{fs:List (Nat×Nat)}: ∀{parts:List (Nat×Operand)} {cs:List (K×E)},(∀p∈parts,∀t,p.2= .tmp t->bo (3*t)=σ (3*t))->mw tb Γ gs bo fs parts cs=mw tb Γ gs σ fs parts cs
 | [],cs,_=>rfl
 | (f,x)::r,cs,h=>by
  unfold mw
  cases fs[f]? with
  | none=>rfl
  | some p =>
   obtain ⟨fo,ft⟩:=p
   simp only
   rw [Bt (fun t ht=>h (f,x) (by simp) t ht)]
   have ih: ∀cs,mw tb Γ gs bo fs r cs=mw tb Γ gs σ fs r cs:=fun cs=>KZ fun p hp=>h p (by simp [hp])
   simp only [ih]
theorem K0{el:Nat}: ∀{parts:List (Nat×Operand)} {n:Nat} {acc:E},(∀p∈parts,∀t,p.2= .tmp t->bo (3*t)=σ (3*t))->kM tb Γ gs bo el n parts acc=kM tb Γ gs σ el n parts acc
 | [],n,acc,_=>rfl
 | (f,x)::r,n,acc,h=>by
  unfold kM
  rw [Bt (fun t ht=>h (f,x) (by simp) t ht)]
  have ih: ∀n acc,kM tb Γ gs bo el n r acc=kM tb Γ gs σ el n r acc:=fun n acc=>K0 fun p hp=>h p (by simp [hp])
  simp only [ih]
theorem Aa: ∀{xs:List Operand} {Ts:List Nat},(∀x∈xs,∀t,x= .tmp t->bo (3*t)=σ (3*t))->jd tb Γ gs bo xs Ts=jd tb Γ gs σ xs Ts
 | [],[],_=>rfl
 | [],_::_,_=>rfl
 | _::_,[],_=>rfl
 | x::xs,T::Ts,h=>by
  unfold jd
  rw [Bt (fun t ht=>h x (by simp) t ht),Aa fun y hy=>h y (by simp [hy])]
theorem W5{dst:Option Nat}{g:Nat}{rt:List (Nat×Nat)}{ti:TI}{f:Nat}{args:List Operand}{Ts:List Nat}(h: ∀x∈args,∀t,x= .tmp t->bo (3*t)=σ (3*t))(hp: ∀x∈args,∀t,x= .tmp t-> ∀g id off,σ (3*t)= .ptr g id off->bo (3*id+1)=σ (3*id+1)) :
  xG tb Γ gs dst bo g rt ti f args Ts=xG tb Γ gs dst σ g rt ti f args Ts:=by
 unfold xG
 cases args with
 | nil=>cases Ts<;>rfl
 | cons x xs =>
  cases Ts with
  | nil=>rfl
  | cons T Ts =>
   simp only
   rw [Bt (fun t ht=>h x (by simp) t ht)]
   cases hi:yP (aQ tb σ T x) with
   | none=>simp only;rw [Aa h]
   | some gi =>
    obtain ⟨g,id⟩:=gi
    simp only
    have hx:bo (3*id+1)=σ (3*id+1):=by
     unfold yP at hi
     split at hi
     ·rename_i g2 NC hst
      simp only [Option.some.injEq,Prod.mk.injEq] at hi
      obtain ⟨rfl,rfl⟩:=hi
      obtain ⟨t,ht,hs⟩:=OX hst
      exact hp x (by simp) t ht _ _ _ hs
     ·simp at hi
    have e2:jd tb Γ gs bo xs Ts=jd tb Γ gs σ xs Ts:=Aa fun y hy=>h y (by simp [hy])
    have e3:xH tb Γ gs dst bo rt ti f xs Ts g id=xH tb Γ gs dst σ rt ti f xs Ts g id:=by unfold xH;rw [hx,e2]
    rw [hx,e3]
    have e:jd tb Γ [] bo xs Ts=jd tb Γ [] σ xs Ts:=Aa fun y hy=>h y (by simp [hy])
    rw [e]
theorem W4{dst:Option Nat}{g:Nat}{ti ui:TI}{s x:Option ST}(h: ∀gs g e,s=some (.v gs (.own g) e)->bo (3*g+2)=σ (3*g+2)):xF tb Γ gs dst bo g ti ui s x=xF tb Γ gs dst σ g ti ui s x:=by
 unfold xF
 cases gs with
 | cons _ _=>rfl
 | nil =>
  cases hu:dS [] s with
  | none=>rfl
  | some ke =>
   obtain ⟨k,e⟩:=ke
   obtain ⟨st,g',h1,h2⟩:=I8 hu
   have hk: ∀h',k= .own h'->bo (3*h'+2)=σ (3*h'+2):=by
    rintro h' rfl
    rcases qE h2 with ⟨g2,k2,e2,rfl,_,h3⟩|⟨_,_,_,_,_,h3⟩|⟨_,_,_,_,_,h3⟩<;>cases h3
    exact h _ _ _ h1
   rcases ti.vt with (⟨_|_|_|el⟩|_)|_<;>try rfl
   rcases ui.vt with (⟨_|_|_|xO⟩|_)|_<;>try rfl
   simp only
   cases dS [] x with
   | none=>rfl
   | some Z2 =>
    obtain ⟨k',e'⟩:=Z2
    cases tb.get el with
    | none=>rfl
    | some ei =>
     simp only
     cases k with
     | own h'=>simp only [hk h' rfl]
     | _=>rfl
theorem WZ{dst:Option Nat}{g:Nat}{ti ui:TI}{s x:Option ST}(h: ∀gs g e,s=some (.v gs (.own g) e)->bo (3*g+2)=σ (3*g+2))(hi: ∀gd g gv n i off l,x=some (.iv gd g gv n i off l)->bo (3*g+2)=σ (3*g+2)):xE tb Γ gs dst bo g ti ui s x=xE tb Γ gs dst σ g ti ui s x:=by
 unfold xE
 split
 ·rfl
 ·exact W4 h
theorem W9{dst:Option Nat}{g:Nat}{ti:TI}{x:Option ST}{lo hi:Option (Option ST)}(h: ∀gs g e,x=some (.v gs (.own g) e)->bo (3*g+2)=σ (3*g+2)):xL tb Γ gs dst bo g ti x lo hi=xL tb Γ gs dst σ g ti x lo hi:=by
 unfold xL
 split
 ·rfl
 ·rfl
theorem W8{tab:Nat->List CT}{dst:Option Nat}{f:Nat}{first xs:List Operand}(h: ∀x∈xs,∀t,x= .tmp t->bo (3*t)=σ (3*t))(hp: ∀x∈xs,∀t,x= .tmp t-> ∀gd id off,σ (3*t)= .ptr gd id off->bo (3*id+1)=σ (3*id+1)):CK tab Γ gs dst bo f first xs=CK tab Γ gs dst σ f first xs:=by
 rfl
theorem abG{cx:Cx}{g:Nat}{o:Oper}(h:Alike ops o σ bo):pK cx ops Γ g o bo=pK cx ops Γ g o σ:=by
 have hop: ∀(T:Nat) (x:Operand),x∈o.op.operands.toList->aQ cx.tb bo T x=aQ cx.tb σ T x:=fun T x hx=>Bt fun t ht=>h.t t (nQ hx ht)
 have Nh:looks o.op=true-> ∀(T:Nat) (x:Operand),x∈o.op.operands.toList-> ∀g id off,aQ cx.tb σ T x=some (.ptr g id off)->bo (3*id+1)=σ (3*id+1):=fun hl T x hx g id off he=>by
  obtain ⟨t,ht,hs⟩:=OX he
  exact h.p hl t (nQ hx ht) _ _ _ hs
 have Yp:looks o.op=true-> ∀(T:Nat) (x:Operand),x∈o.op.operands.toList-> ∀gd g gv n i off l,aQ cx.tb σ T x=some (.iv gd g gv n i off l)->bo (3*g+2)=σ (3*g+2):=fun hl T x hx gd g gv n i off l he=>by
  obtain ⟨t,ht,hs⟩:=abI he
  exact h.iv hl t (nQ hx ht) _ _ _ _ _ _ _ hs
 have MQ:looks o.op=true-> ∀(T:Nat) (x:Operand),x∈o.op.operands.toList-> ∀gd g gv n i off j m o2,aQ cx.tb σ T x=some (.ip gd g gv n i off j m o2)->bo (3*g+2)=σ (3*g+2):=fun hl T x hx gd g gv n i off j m o2 he=>by
  obtain ⟨t,ht,hs⟩:=abH he
  exact h.ip hl t (nQ hx ht) _ _ _ _ _ _ _ _ _ hs
 have hmp:looks o.op=true-> ∀(T:Nat) (x:Operand),x∈o.op.operands.toList-> ∀g0 g n i off,aQ cx.tb σ T x=some (.mp g0 g n i off)->bo (3*g+2)=σ (3*g+2):=fun hl T x hx g0 g n i off he=>by
  obtain ⟨t,ht,hs⟩:=abJ he
  exact h.m hl t (nQ hx ht) _ _ _ _ _ hs
 have how:looks o.op=true-> ∀(T:Nat) (x:Operand),x∈o.op.operands.toList-> ∀gs g e,aQ cx.tb σ T x=some (.v gs (.own g) e)->bo (3*g+2)=σ (3*g+2):=fun hl T x hx gs g e he=>by
  obtain ⟨t,ht,hs⟩:=abK he
  exact h.r hl t (nQ hx ht) _ _ _ hs
 unfold pK
 rw [XG h]
 cases hgs:qh cx.tb.tab Γ ops σ o with
 | none=>rfl
 | some gs =>
  simp only
  congr 1
  cases ho:o.op with
  | move x=>simp only;rw [hop _ x (by simp [ho,Op.operands])]
  | assign x=>simp only;rw [hop _ x (by simp [ho,Op.operands])]
  | load T x =>
   simp only
   cases cx.tb.get T with
   | none=>rfl
   | some ti=>simp only;exact W6 (hop _ x (by simp [ho,Op.operands])) (fun g id off he=>Nh (by rw [ho];rfl) 0 x (by simp [ho,Op.operands]) g id off he) (fun g0 g n i off he=>hmp (by rw [ho];rfl) 0 x (by simp [ho,Op.operands]) g0 g n i off he) fun gd g gv n i off j m o2 he=>MQ (by rw [ho];rfl) 0 x (by simp [ho,Op.operands]) gd g gv n i off j m o2 he
  | store T y x =>
   simp only
   rw [hop _ y (by simp [ho,Op.operands]),hop _ x (by simp [ho,Op.operands])]
   cases cx.tb.get T with
   | none=>rfl
   | some ti=>simp only;exact Xa (fun g0 g n i off he=>hmp (by rw [ho];rfl) 0 y (by simp [ho,Op.operands]) g0 g n i off he) (fun gd g gv n i off j m o2 he=>MQ (by rw [ho];rfl) 0 y (by simp [ho,Op.operands]) gd g gv n i off j m o2 he) (fun gs g e he=>how (by rw [ho];rfl) T x (by simp [ho,Op.operands]) gs g e he) (Xb fun g id off he=>Nh (by rw [ho];rfl) 0 y (by simp [ho,Op.operands]) g id off he)
  | fieldAddr T x f=>simp only;rw [hop _ x (by simp [ho,Op.operands])]
  | indexAddr T x i =>
   have hx:=hop T x (by simp [ho,Op.operands])
   have hi:=hop 0 i (by simp [ho,Op.operands])
   have hq: ∀ti,xI cx.tb Γ gs o.dst bo ti T x i=xI cx.tb Γ gs o.dst σ ti T x i:=by
    intro ti
    cases x<;>simp only [xI,hx,hi]
   simp only [hq]
  | index T x i=>simp only;rw [hop _ x (by simp [ho,Op.operands]),hop _ i (by simp [ho,Op.operands])]
  | box T x=>simp only;rw [hop _ x (by simp [ho,Op.operands])]
  | makeSlice T l cc=>simp only;rw [hop _ l (by simp [ho,Op.operands]),hop _ cc (by simp [ho,Op.operands])]
  | build T parts =>
   simp only
   cases cx.tb.get T with
   | none=>rfl
   | some ti =>
    simp only
    unfold CF
    cases ti.vt with
    | aC _=>rfl
    | one v =>
     cases v with
     | c _=>rfl
     | agg ts=>simp only;rw [KZ fun p hp t ht=>h.t t (nQ (x:=p.2) (by simp only [ho,Op.operands,List.mem_map];exact ⟨p,hp,rfl⟩) ht)]
  | buildSlice T len parts =>
   simp only
   cases cx.tb.get T with
   | none=>rfl
   | some ti =>
    simp only
    have vJ: ∀gs' el,kM cx.tb Γ gs' bo el 0 parts.toList (.bw el)=kM cx.tb Γ gs' σ el 0 parts.toList (.bw el):=fun gs' el =>
     K0 fun p hp t ht=>h.t t (nQ (x:=p.2) (by simp only [ho,Op.operands,List.mem_map];exact ⟨p,hp,rfl⟩) ht)
    unfold CH CG
    simp only [vJ]
  | slice T x lo hi mx =>
   cases mx with
   | some _=>rfl
   | none =>
    simp only
    rw [hop _ x (by simp [ho,Op.operands])]
    have e1:lo.map (aQ cx.tb bo 0)=lo.map (aQ cx.tb σ 0):=by
     cases lo with
     | none=>rfl
     | some y=>simp only [Option.map_some];rw [hop _ y (by simp [ho,Op.operands])]
    have e2:hi.map (aQ cx.tb bo 0)=hi.map (aQ cx.tb σ 0):=by
     cases hi with
     | none=>rfl
     | some y=>simp only [Option.map_some];rw [hop _ y (by simp [ho,Op.operands])]
    rw [e1,e2]
    cases cx.tb.get T with
    | none=>rfl
    | some ti=>exact W9 fun gs g e he=>how (by rw [ho];rfl) T x (by simp [ho,Op.operands]) gs g e he
  | convert S T x=>simp only;rw [hop _ x (by simp [ho,Op.operands])]
  | extract x i=>simp only;rw [hop _ x (by simp [ho,Op.operands])]
  | unOp op T x =>
   cases op<;>first|rfl|(simp only;rw [hop _ x (by simp [ho,Op.operands])])
  | pick x y z=>simp only;rw [hop _ x (by simp [ho,Op.operands]),hop _ y (by simp [ho,Op.operands]),hop _ z (by simp [ho,Op.operands])]
  | makeFunc fn first fW =>
   cases fn with
   | func f =>
    simp only
    have hc: ∀x∈fW.toList,x∈o.op.operands.toList:=fun x hx=>by rw [ho];simp only [Op.operands,Array.toList_append,List.mem_append];exact .inr hx
    exact W8 (fun x hx t ht=>h.t t (nQ (hc x hx) ht)) fun x hx t ht g id off he=>h.p (by rw [ho];rfl) t (nQ (hc x hx) ht) _ _ _ he
   | _=>rfl
  | nilCheck x=>simp only;rw [hop _ x (by simp [ho,Op.operands])]
  | binOp op T x y T'=>simp only;rw [hop _ x (by simp [ho,Op.operands]),hop _ y (by simp [ho,Op.operands])]
  | call cl =>
   have hargs: ∀x∈cl.args.toList,x∈o.op.operands.toList:=fun x hx=>by
    rw [ho]
    simp only [Op.operands,Call.operands]
    cases cl.callee<;>simp<;>first|exact .inr (by simpa using hx)|(simpa using hx)
   simp only
   cases hcl:cl.callee with
   | invoke r m=>rfl
   | value f =>
    cases f with
    | func f =>
     simp only
     cases cx.tb.get o.type with
     | none=>rfl
     | some ti =>
      simp only
      cases NH ti with
      | some nb=>simp only;unfold eNew;rw [Aa fun x hx t ht=>h.t t (nQ (hargs x hx) ht)]
      | none=>exact W5 (fun x hx t ht=>h.t t (nQ (hargs x hx) ht)) (fun x hx t ht g id off he=>h.p (by rw [ho];rfl) t (nQ (hargs x hx) ht) _ _ _ he)
    | tmp t =>
     simp only
     have hx:aQ cx.tb bo 0 (.tmp t)=aQ cx.tb σ 0 (.tmp t):=hop 0 (.tmp t) (by simp [ho,Op.operands,Call.operands,hcl])
     rw [hx]
     cases cx.tb.get o.type with
     | none=>rfl
     | some ti=>rfl
    | _=>rfl
   | builtin b =>
    cases b with
    | len =>
     simp only
     split
     ·rename_i x T har hat
      rw [hop _ x (hargs x (by rw [har];simp))]
     ·rfl
    | append =>
     simp only
     split
     ·rename_i x y T U har hat
      rw [hop _ x (hargs x (by rw [har];simp)),hop _ y (hargs y (by rw [har];simp))]
      split
      ·exact WZ (fun gs g e he=>how (by rw [ho];rfl) T x (hargs x (by rw [har];simp)) gs g e he) fun gd g gv n i off l he=>Yp (by rw [ho];rfl) U y (hargs y (by rw [har];simp)) gd g gv n i off l he
      ·rfl
     ·rfl
    | _=>rfl
  | _=>rfl
end
end
end Go.Proofs.YtimickglpboilaaGreatDoor
