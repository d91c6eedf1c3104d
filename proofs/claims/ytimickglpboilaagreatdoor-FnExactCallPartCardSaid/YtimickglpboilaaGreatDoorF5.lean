/- Each operation does to a world what the executor says it does: append; and all operations together. No program in sight. -/
import Derived.Test.YtimickglpboilaaGreatDoorF4
import Derived.Orders
set_option linter.unusedVariables false
set_option linter.unusedSimpArgs false
set_option linter.unusedSectionVars false
namespace Go.Proofs.YtimickglpboilaaGreatDoor
section
open Go.RowKit
variable [GC]
section
variable {w:World}{M:Addr->Prop}
theorem dF.cells: ∀{rows:List (List D)} {b o:Nat},dF w M rows b o-> ∃vs:List Value,vs.length=rows.flatten.length/\Rs w M rows.flatten vs/\ ∀i u,vs[i]? =some u->w.cell? ⟨b,o+i,none⟩=some u
 | [],_,_,_=>⟨[],rfl,rfl,fun i u h=>by simp at h⟩
 | r::l,b,o,⟨h1,h2⟩=>by
  obtain ⟨vs,e1,r1,c1⟩:=h1.cells
  obtain ⟨us,e2,r2,c2⟩:=dF.cells h2
  refine ⟨vs++us,by simp [e1,e2],by simpa using r1.append r2,fun i u hu=> ?_⟩
  rw [List.getElem?_append] at hu
  split at hu
  ·exact c1 i u hu
  ·have:=c2 _ _ hu
   rwa [show o+r.length+(i-vs.length)=o+i by omega] at this
theorem F9{n:Nat}: ∀{rows:List (List D)},(∀r∈rows,r.length=n)->rows.flatten.length=rows.length*n
 | [],_=>by simp
 | r::l,h=>by
  have ih:=F9 (rows:=l) (fun x hx=>h x (by simp [hx]))
  have hr:=h r (by simp)
  simp only [List.flatten_cons,List.length_append,List.length_cons,ih,hr,Nat.add_mul,Nat.one_mul]
  omega
theorem Bt{tab:Nat->List CT}{ts:List CT}: ∀{rows:List (List D)} {vs:List Value},dI tab ts rows->Rs w M rows.flatten vs-> ∀v∈vs,v.oneCell'=true
 | [],vs,_,h,v,hv=>by simp [Rs] at h;subst h;simp at hv
 | r::l,vs,ht,h,v,hv=>by
  simp only [dI] at ht
  simp only [List.flatten_cons] at h
  have h1:=h.take r.length
  have h2:=h.drop r.length
  rw [List.take_left' rfl] at h1
  rw [List.drop_left' rfl] at h2
  rw [<-List.take_append_drop r.length vs] at hv
  rcases List.mem_append.1 hv with hv|hv
  ·exact CA ht.1 h1 v hv
  ·exact Bt ht.2 h2 v hv
theorem dF.append: ∀{rows r2:List (List D)} {b o:Nat},dF w M rows b o->dF w M r2 b (o+rows.flatten.length)->dF w M (rows++r2) b o
 | [],_,_,_,_,h=>by simpa using h
 | r::l,r2,b,o,⟨h1,h2⟩,h=>⟨h1,dF.append h2 (by simpa [Nat.add_assoc] using h)⟩
theorem Md(n:Nat): ∀(r c:Nat),Builtin.growBy n r c+768<=(c+768)*2^r
 | 0,c=>by simp [Builtin.growBy]
 | r+1,c=>by
  have hp:0<2^r:=Nat.two_pow_pos r
  simp only [Builtin.growBy]
  split
  ·rw [Nat.pow_succ]
   have:(c+768)*1<=(c+768)*(2^r*2):=Nat.mul_le_mul_left _ (by omega)
   rwa [Nat.mul_one] at this
  ·refine Nat.le_trans (Md n r _) ?_
   rw [Nat.pow_succ,show (c+768)*(2^r*2)=((c+768)*2)*2^r by rw [Nat.mul_assoc,Nat.mul_comm 2]]
   exact Nat.mul_le_mul_right _ (by omega)
theorem Xn(n c:Nat):Builtin.growBy n 4 c<=16*(c+768):=by
 have h:=Md n 4 c
 have e2:(2:Nat)^4=16:=by decide
 have e:(c+768)*2^4=16*(c+768):=by rw [e2,Nat.mul_comm]
 rw [e] at h
 exact Nat.le_trans (Nat.le_add_right _ _) h
theorem aa4{need cap:Nat}(h:cap<need)(h':need<=4294967296):Builtin.nextslicecap need cap<=16*(4294967296+768):=by
 unfold Builtin.nextslicecap
 by_cases h1:need>2*cap
 ·rw [if_pos h1];omega
 ·rw [if_neg h1]
  by_cases h2:cap<256
  ·rw [if_pos h2];omega
  ·rw [if_neg h2]
   exact Nat.le_trans (Xn need cap) (Nat.mul_le_mul_left _ (by omega))
end
section
variable {P:Program}{c:SC}{F:Nat->Prop}{σ:Nat->ST}{bm:Nat->Nat}{tm:Nat->Value}{a:Act}{w w':World}{tb:TB}{Γ:List VT}{gs:Gd}
theorem aM.append(hs:aM c F σ bm tm a w){g n:Nat}(hg: ¬F g)(oh:Option Nat)(tU: ∀h,oh=some h->σ (3*h+2)= .live ⟨n,none⟩)(v':Value)(blk:Option Nat)
  (hfr:Fr c.B c.X w w') (hk:bo w (MM c.M0 bm tm σ) w' (MM c.M0 bm (aX tm g v') (aX (gK σ oh) (3*g+2) (.live ⟨n,none⟩))))
  (eS: ∀k,k<w.heap.size->some k≠blk->w'.heap[k]? =w.heap[k]?)
  (hblk: ∀b,blk=some b-> ∃h o s len cap,oh=some h/\tm h= .slice (some ⟨b,o,s⟩) len cap/\0<cap)
  (iG:lK c w' (aX tm g v') g ⟨n,none⟩) (hv': ∀b o s len cap,v'= .slice (some ⟨b,o,s⟩) len cap->0<cap->w.heap.size<=b\/blk=some b) :
  aM c (fun x=>F x\/x=g) (aX (gK σ oh) (3*g+2) (.live ⟨n,none⟩)) bm (aX tm g v') a w':=by
 have gu: ∀x,F x->aX tm g v' x=tm x:=fun x hx=>eD _ _ (fun e=>hg (e▸hx))
 have dU: ∀x m,σ (3*x+2)= .live m->aX tm g v' x=tm x/\ ∀y,cf (.live m) y->aX tm g v' y=tm y:=fun x m h=>⟨gu x (hs.f3 x m h),fun y hy=>gu y (hs.f1 (3*x+2) y (by rw [h];exact hy))⟩
 have u7: ∀id cs,σ (3*id+1)= .box cs->some (bm id)≠blk:=fun id cs hc e=>by
  obtain ⟨h,o,s,len,cap,h1,h2,h3⟩:=hblk _ e.symm
  exact hs.iC id cs h ⟨n,none⟩ _ hc (tU h h1) (.inl ⟨o,s,len,cap,h2,h3⟩) rfl
 have ru: ∀x m b,σ (3*x+2)= .live m->oh≠some x->db tm x m b->some b≠blk:=fun x m b hx hne hb e=>by
  obtain ⟨h,o',s',len',cap',h1,h2,h3⟩:=hblk _ e.symm
  exact hs.iD x m h ⟨n,none⟩ b b hx (tU h h1) (fun e=>hne (e▸h1)) hb (.inl ⟨o',s',len',cap',h2,h3⟩) rfl
 have tT: ∀b,db (aX tm g v') g ⟨n,none⟩ b->w.heap.size<=b\/blk=some b:=fun b hb=>by
  obtain ⟨o,s,len,cap,h1,h2⟩:=oF hb
  rw [cu] at h1
  exact hv' b o s len cap h1 h2
 refine hs.turn (fun t=>by rw [BV,KI]) (fun x hx=>⟨rfl,gu x hx⟩) (fun _ h=> .inl h) hfr hk ?_ ?_ ?_ ?_ ?_ ?_ ?_ ?_
 ·intro id cs h
  rw [nL,uS] at h
  refine (hs.box id cs h).keep hk rfl (eS _ (hs.box id cs h).lt (u7 id cs h)) fun x hx=>gu x ?_
  exact hs.f1 (3*id+1) x (by rw [h];exact hx)
 ·intro x m h
  by_cases e:x=g
  ·subst e;rw [cu] at h;simp at h;subst h;exact iG
  ·rw [jR _ e] at h
   obtain ⟨h1,h2⟩:=oN h
   exact (hs.live x m h1).keep (fun b hb=>eS _ ((hs.live x m h1).lt hb) (ru x m b h1 h2 hb)) (dU x m h1).1 (dU x m h1).2
 ·intro id id' cs cs' h h'
  rw [nL,uS] at h h'
  exact hs.kD id id' cs cs' h h'
 ·intro id cs x m b h hx hb
  rw [nL,uS] at h
  by_cases e:x=g
  ·subst e;rw [cu] at hx;simp at hx;subst hx
   rcases tT b hb with h1|h1
   ·have:=(hs.box id cs h).lt;omega
   ·exact fun e=>u7 id cs h (by rw [e,h1])
  ·rw [jR _ e] at hx
   obtain ⟨h1,h2⟩:=oN hx
   exact hs.iC id cs x m b h h1 ((db.congr (dU x m h1).1 (dU x m h1).2).1 hb)
 ·intro x m y m' b b' hx hy hne hb hb'
  by_cases e:x=g<;>by_cases e':y=g
  ·exact absurd (e.trans e'.symm) hne
  ·subst e;rw [cu] at hx;simp at hx;subst hx;rw [jR _ e'] at hy
   obtain ⟨h1,h2⟩:=oN hy
   have hb':=(db.congr (dU y m' h1).1 (dU y m' h1).2).1 hb'
   rcases tT b hb with h3|h3
   ·have:=(hs.live y m' h1).lt hb';omega
   ·exact fun q=>ru y m' b' h1 h2 hb' (by rw [<-q,h3])
  ·subst e';rw [cu] at hy;simp at hy;subst hy;rw [jR _ e] at hx
   obtain ⟨h1,h2⟩:=oN hx
   have hb:=(db.congr (dU x m h1).1 (dU x m h1).2).1 hb
   rcases tT b' hb' with h3|h3
   ·have:=(hs.live x m h1).lt hb;omega
   ·exact fun q=>ru x m b h1 h2 hb (by rw [q,h3])
  ·rw [jR _ e] at hx;rw [jR _ e'] at hy
   obtain ⟨h1,h2⟩:=oN hx
   obtain ⟨h3,h4⟩:=oN hy
   exact hs.iD x m y m' b b' h1 h3 hne ((db.congr (dU x m h1).1 (dU x m h1).2).1 hb) ((db.congr (dU y m' h3).1 (dU y m' h3).2).1 hb')
 ·intro l x h
  by_cases e:l=3*g+2
  ·subst e;rw [cu] at h;obtain ⟨_,_,h⟩:=h;cases h
  ·rw [eD _ _ e] at h;exact .inl (hs.f1 l x (KH h))
 ·intro id cs h;rw [nL,uS] at h;exact .inl (hs.f2 id cs h)
 ·intro x m h
  by_cases e:x=g
  ·exact .inr e
  ·rw [jR _ e] at h;exact .inl (hs.f3 x m (oN h).1)
theorem aM.aa3(hs:aM c F σ bm tm a w){g:Nat}{n':LV}(hg: ∀x,eG g x-> ¬F x){tm':Nat->Value}(hto: ∀x,¬eG g x->tm' x=tm x)(hb:Below w.heap.size w w')(tT: ∀b,db tm' g n' b->w.heap.size<=b)
  (hok:lK c w' tm' g n') (rA: ∀x,cf (.live n') x->eG g x):aM c (fun x=>F x\/eG g x) (aX σ (3*g+2) (.live n')) bm tm' a w':=by
 have gu: ∀x,F x->tm' x=tm x:=fun x hx=>hto x fun h=>hg x h hx
 have dU: ∀x m,σ (3*x+2)= .live m->tm' x=tm x/\ ∀y,cf (.live m) y->tm' y=tm y:=fun x m h=>⟨gu x (hs.f3 x m h),fun y hy=>gu y (hs.f1 (3*x+2) y (by rw [h];exact hy))⟩
 have hM: ∀p,p.block<w.heap.size->MM c.M0 bm tm' (aX σ (3*g+2) (.live n')) p->MM c.M0 bm tm σ p:=by
  rintro p hp (h|⟨id,cs,h1,h2⟩|⟨x,m,h1,h2⟩)
  ·exact .inl h
  ·rw [nL] at h1;exact .inr (.inl ⟨id,cs,h1,h2⟩)
  ·by_cases e:x=g
   ·subst e;rw [cu] at h1;simp at h1;subst h1
    have:=tT _ (D8 h2);omega
   ·rw [jR _ e] at h1
    exact .inr (.inr ⟨x,m,h1,kH.congr (dU x m h1).1 (dU x m h1).2 h2⟩)
 have hk:bo w (MM c.M0 bm tm σ) w' (MM c.M0 bm tm' (aX σ (3*g+2) (.live n'))):=bo.below hb hM
 refine hs.turn (fun t=>BV _ _ _) (fun x hx=>⟨rfl,gu x hx⟩) (fun _ h=> .inl h) (Fr.oY hb hs.hB) hk ?_ ?_ ?_ ?_ ?_ ?_ ?_ ?_
 ·intro id cs h
  rw [nL] at h
  exact (hs.box id cs h).keep hk rfl (hb.block _ (hs.box id cs h).lt) fun x hx=>gu x (hs.f1 (3*id+1) x (by rw [h];exact hx))
 ·intro x m h
  by_cases e:x=g
  ·subst e;rw [cu] at h;simp at h;subst h;exact hok
  ·rw [jR _ e] at h
   exact (hs.live x m h).keep (fun b hb'=>hb.block _ ((hs.live x m h).lt hb')) (dU x m h).1 (dU x m h).2
 ·intro id id' cs cs' h h'
  rw [nL] at h h'
  exact hs.kD id id' cs cs' h h'
 ·intro id cs x m b h hx hb'
  rw [nL] at h
  by_cases e:x=g
  ·subst e;rw [cu] at hx;simp at hx;subst hx
   have:=tT b hb'
   have:=(hs.box id cs h).lt;omega
  ·rw [jR _ e] at hx
   exact hs.iC id cs x m b h hx ((db.congr (dU x m hx).1 (dU x m hx).2).1 hb')
 ·intro x m y m' b b' hx hy hne h1 h2
  by_cases e:x=g<;>by_cases e':y=g
  ·exact absurd (e.trans e'.symm) hne
  ·subst e;rw [cu] at hx;simp at hx;subst hx;rw [jR _ e'] at hy
   have:=tT b h1
   have:=(hs.live y m' hy).lt ((db.congr (dU y m' hy).1 (dU y m' hy).2).1 h2)
   omega
  ·subst e';rw [cu] at hy;simp at hy;subst hy;rw [jR _ e] at hx
   have:=tT b' h2
   have:=(hs.live x m hx).lt ((db.congr (dU x m hx).1 (dU x m hx).2).1 h1)
   omega
  ·rw [jR _ e] at hx;rw [jR _ e'] at hy
   exact hs.iD x m y m' b b' hx hy hne ((db.congr (dU x m hx).1 (dU x m hx).2).1 h1) ((db.congr (dU y m' hy).1 (dU y m' hy).2).1 h2)
 ·intro l x h
  by_cases e:l=3*g+2
  ·subst e;rw [cu] at h;exact .inr (rA x h)
  ·rw [eD _ _ e] at h;exact .inl (hs.f1 l x h)
 ·intro id cs h;rw [nL] at h;exact .inl (hs.f2 id cs h)
 ·intro x m h
  by_cases e:x=g
  ·subst e;exact .inr (eG.self x)
  ·rw [jR _ e] at h;exact .inl (hs.f3 x m h)
theorem sj{oh:Option Nat}{p:Addr}{g n:Nat}{v':Value}(hs:aM c F σ bm tm a w)(hg: ¬F g)(h:MM c.M0 bm (aX tm g v') (aX (gK σ oh) (3*g+2) (.live ⟨n,none⟩)) p) :
  (MM c.M0 bm tm (gK σ oh) p)\/wI v' n p:=by
 rcases h with h|⟨id,cs,h1,h2⟩|⟨x,m,h1,h2⟩
 ·exact .inl (.inl h)
 ·rw [nL] at h1;exact .inl (.inr (.inl ⟨id,cs,h1,h2⟩))
 ·by_cases e:x=g
  ·subst e;rw [cu] at h1;simp at h1;subst h1
   have:=y5 h2
   rw [cu] at this
   exact .inr this
  ·rw [jR _ e] at h1
   obtain ⟨h3,_⟩:=oN h1
   refine .inl (.inr (.inr ⟨x,m,h1,kH.congr (eD _ _ e) (fun y hy=>eD _ _ fun e'=> ?_) h2⟩))
   subst e'
   exact hg (hs.f1 (3*x+2) _ (by rw [h3];exact hy))
theorem uw{oh:Option Nat}{p:Addr}(h:MM c.M0 bm tm (gK σ oh) p):MM c.M0 bm tm σ p:=by
 rcases h with h|⟨id,cs,h1,h2⟩|⟨x,m,h1,h2⟩
 ·exact .inl h
 ·rw [uS] at h1;exact .inr (.inl ⟨id,cs,h1,h2⟩)
 ·exact .inr (.inr ⟨x,m,(oN h1).1,h2⟩)
theorem II: ∀(l:List Value) (C:Array Value) (o i:Nat),i<o\/o+l.length<=i->(fK C o l)[i]? =C[i]?
 | [],_,_,_,_=>rfl
 | x::r,C,o,i,h=>by
  simp only [List.length_cons] at h
  unfold fK
  rw [II r _ _ _ (by omega)]
  simp [Array.getElem?_setIfInBounds];omega
theorem Qe: ∀(l:List Value) (C:Array Value) (o j:Nat) (u:Value),o+l.length<=C.size->l[j]? =some u->(fK C o l)[o+j]? =some u
 | [],_,_,_,_,_,h=>by simp at h
 | v::r,C,o,0,u,hs,h=>by
  simp only [List.length_cons] at hs
  simp at h;subst h
  unfold fK
  rw [II r _ _ _ (by omega)]
  simp [Array.getElem?_setIfInBounds];omega
 | v::r,C,o,j+1,u,hs,h=>by
  simp only [List.length_cons] at hs
  simp at h
  unfold fK
  have:=Qe r (C.setIfInBounds o v) (o+1) j u (by simp;omega) h
  rwa [show o+(j+1)=o+1+j by omega]
def E5(w:World)(M:Addr->Prop)(rows:List (List D))(ad:Option Addr)(len cap:Nat):Prop :=
 len=rows.length/\len<=cap/\cap<=maxLen/\(ad=none->cap=0)/\ ∀b o s,ad=some ⟨b,o,s⟩->(0<len->s=none)/\dF w M rows b o
theorem LN{M:Addr->Prop}{rows:List (List D)}{ad:Option Addr}{len cap n:Nat}(h:E5 w M rows ad len cap)(hn: ∀r∈rows,r.length=n) :
  ∃vs:List Value,vs.length=len*n/\Rs w M rows.flatten vs/\ ∀w1:World,w1.heap=w.heap->(Builtin.firstCells n len (.slice ad len cap)).run P w1= .ok vs.toArray w1:=by
 obtain ⟨h1,h2,h3,h4,h5⟩:=h
 rcases ad with _|⟨b,o,s⟩
 ·have:rows=[]:=List.eq_nil_of_length_eq_zero (by have:=h4 rfl;omega)
  subst this
  exact ⟨[],by simp at h1;simp [h1],rfl,fun w1 _=>by simp [Builtin.firstCells]⟩
 ·obtain ⟨vs,e,hr,hc⟩:=(h5 b o s rfl).2.cells
  have hlen:vs.length=len*n:=by rw [e,F9 hn,h1]
  refine ⟨vs,hlen,hr,fun w1 hw1=> ?_⟩
  by_cases h0:len=0
  ·subst h0
   have:vs=[]:=List.eq_nil_of_length_eq_zero (by simpa using hlen)
   subst this
   simp [Builtin.firstCells,loadCells,loadCellsFrom]
  ·have vG:=(h5 b o s rfl).1 (by omega);subst vG
   have:=run_loadCells_list (P:=P) (w:=w1) ⟨b,o,none⟩ vs (fun j u hu=>by
    rw [addr_add,World.cell?_of_block (w:=w) (by rw [hw1])];exact hc j u hu)
   rw [hlen] at this
   simpa [Builtin.firstCells] using this
theorem ack(aI:cL P tb tb=true)(hs:aM c F σ bm tm a w)(aB:bQ tb.tab Γ c.env){g n:Nat}(jL: ¬F g){o:Oper}{x y:Operand}{T U:Nat}{cl:Call}(ho:o.op= .call cl)(hcl:cl.callee= .builtin .append)(har:cl.args.toList=[x,y])(hat:cl.argTypes.toList=[T,U])
  (hd: ∀d,o.dst=some d->d<c.nt) {ti ui:TI} (aQ:tb.get T=some ti) (AW:tb.get U=some ui) {aS:aU}
  (h:xD tb Γ gs o.dst σ g ti ui (aT tb σ T x) (aT tb σ U y)=some aS):fp P c F σ bm tm a w g gs n o aS:=by
 have har':cl.args= #[x,y]:=by rw [<-Array.toList_inj,har]
 have hat':cl.argTypes= #[T,U]:=by rw [<-Array.toList_inj,hat]
 unfold xD at h
 split at h
 ·rename_i el xM hv hv'
  split at h
  ·rename_i k ex ky ey ei hx hy gq
   split at h
   ·rename_i hc
    obtain ⟨XW,XX,hby,aiR,GZ⟩:=hc
    split at h
    ·simp at h
    ·rename_i v1 hv1
     obtain ⟨j,hj,hjs,hjb⟩:=pJ aI gq hv1
     have Mx:ei.cells=v1.cells:=by simp [TI.cells,hv1]
     have htab:tb.tab el=v1.cells:=by simp [TB.tab,gq,Mx]
     rw [Mx] at h GZ
     obtain ⟨z0,hz0,hz1⟩: ∃z,j.zero=some z/\z.cells.size=v1.cells.length:=by
      cases v1 with
      | c t =>
       obtain ⟨i',d',hi',_,_,⟨z,hz,hzv⟩,_⟩:=fk aI gq hv1
       rw [hj] at hi';simp at hi';subst hi'
       refine ⟨z,hz,?_⟩
       cases t<;>cases z<;>simp [zeroV] at hzv<;>rfl
      | agg ts =>
       obtain ⟨i',f',cs',hi',_,_,hz,hzv,_⟩:=lG aI gq hv1
       rw [hj] at hi';simp at hi';subst hi'
       refine ⟨_,hz,?_⟩
       have:=(EO (w:=w) (M:=fun _=>False) (tm:=tm) (c:=c) hzv).1.length
       simpa [Value.cells,V1.cells] using this
     obtain ⟨_,d1,_,_,_,_,hd1,dM⟩:=fk aI aQ hv
     simp only [fO] at dM;subst dM
     obtain ⟨_,d2,_,_,_,_,jn,tL⟩:=fk aI AW hv'
     simp only [fO] at tL;subst tL
     have AY:=(cW hs hx).1 (aP _)
     have YU:=(cW hs hy).1 (aP _)
     obtain ⟨rows,hrows,ef,ad,len,cap,hval,hF⟩:=xN aB (nD XW) AY
     obtain ⟨wu,Nj,Nl,Ux,fW,V0,yG,Mf⟩:=xN aB (nD XX) YU
     have Xz:E5 w (MM c.M0 bm tm σ) rows ad len cap:=hF
     have XA:E5 w (MM c.M0 bm tm σ) wu Ux fW V0:=Mf
     have DC: ∀r∈rows,r.length=v1.cells.length:=fun r hr=>by rw [ef.len r hr,htab]
     have Ys: ∀r∈wu,r.length=v1.cells.length:=fun r hr=>by rw [Nl.len r hr,htab]
     obtain ⟨vx,YW,YX,YY⟩:=LN (P:=P) Xz DC
     obtain ⟨vy,DM,Ha,yH⟩:=LN (P:=P) XA Ys
     have hone:=Bt Nl Ha
     have iF:(E.app ex ey).den c.env= .sl (rows++wu):=by simp [E.den,hrows,Nj]
     have Dt:(rows++wu).flatten=rows.flatten++wu.flatten:=by simp
     obtain ⟨hl1,fG,MU,Du,Yg⟩:=hF
     obtain ⟨tS,hm2,hm3,hm4,hm5⟩:=Mf
     generalize hsz:v1.cells.length=sz at *
     have GX:len+fW<=cap->(fW=0\/ ∃b o' cells T0,ad=some ⟨b,o',none⟩/\w.heap[b]? =some (.cells cells T0 (0,0))/\o'+len*sz+fW*sz<=cells.size) ->
       ∃w',(execOp a.eval o).run P w= .ok (.value (.slice ad (len+fW) cap)) w'/\((fW=0/\w'=w)\/ ∃b o' cells T0,ad=some ⟨b,o',none⟩/\w.heap[b]? =some (.cells cells T0 (0,0))/\w'.heap[b]? =some (.cells (fK cells (o'+len*sz) vy) T0 (0,0))/\fD w w' b/\o'+len*sz+fW*sz<=cells.size):=by
      intro hle hroom
      rcases hroom with h0|⟨b,o',cells,T0,rfl,hblk,YD⟩
      ·subst h0
       have G9:vy=[]:=List.eq_nil_of_length_eq_zero (by simpa using DM)
       subst G9
       refine ⟨w,?_,.inl ⟨rfl,rfl⟩⟩
       rcases ad with _|ad
       ·simp [execOp,ho,resolve,hcl,invoke,builtin,Builtin.append_,har',hat',hval,yG,run_underlying hd1,run_underlying jn,run_sizeOf hj,hjs,Builtin.lenOf,fG,yH w rfl,show len<=cap from fG]
       ·simp [execOp,ho,resolve,hcl,invoke,builtin,Builtin.append_,har',hat',hval,yG,run_underlying hd1,run_underlying jn,run_sizeOf hj,hjs,Builtin.lenOf,fG,yH w rfl,show len<=cap from fG,storeCells]
      ·obtain ⟨w',h1,h2,h3⟩:=ze (P:=P) b T0 vy w cells (o'+len*sz) 0 hblk hone (by rw [DM];omega)
       refine ⟨w',?_,.inr ⟨b,o',cells,T0,rfl,hblk,by simpa using h2,h3,YD⟩⟩
       simp [execOp,ho,resolve,hcl,invoke,builtin,Builtin.append_,har',hat',hval,yG,run_underlying hd1,run_underlying jn,run_sizeOf hj,hjs,Builtin.lenOf,hle,yH w rfl,addr_add,h1]
     have DI:cap<len+fW->len+fW<=4294967296-> ∃(cells:Array Value) (nc:Nat),(execOp a.eval o).run P w= .ok (.value (.slice (some ⟨w.heap.size,0,none⟩) (len+fW) nc)) (w.drew.alloc (.cells cells el))/\len+fW<=nc/\nc<=maxLen/\cells.size=nc*sz/\ ∀(i:Nat) (u:Value),(vx++vy)[i]? =some u->cells[i]? =some u:=by
      intro hgt GD
      have hq: ¬(Builtin.nextslicecap (len+fW) cap*j.bytes>2^48):=by
       have h1:=aa4 hgt GD
       have h2:Builtin.nextslicecap (len+fW) cap*j.bytes<=(16*(4294967296+768))*1024:=Nat.mul_le_mul h1 (by omega)
       omega
      have XT: ¬(j.bytes=0):=by omega
      have hnl: ¬(len+fW<=cap):=by omega
      refine ⟨vx.toArray++vy.toArray++Builtin.zeroCells z0.cells ((len+fW+w.tape w.drawn (.appendCap (len+fW) cap el)%(2^63-(len+fW)))-(len+fW)),len+fW+w.tape w.drawn (.appendCap (len+fW) cap el)%(2^63-(len+fW)),?_,by omega,?_,?_,?_⟩
      ·have aiV:(w.drew).heap.size=w.heap.size:=rfl
       simp [execOp,ho,resolve,hcl,invoke,builtin,Builtin.append_,har',hat',hval,yG,run_underlying hd1,run_underlying jn,run_sizeOf hj,run_typeInfo hj,hjs,Builtin.lenOf,hnl,XT,Nat.not_lt.2 (Nat.not_lt.1 hq),Question.forced,Question.cut,zeroValue,hz0,newRow,YY w.drew rfl,yH w.drew rfl]
       rw [<-List.append_toArray,Array.append_assoc]
      ·have:=Nat.mod_lt (w.tape w.drawn (.appendCap (len+fW) cap el)) (show 0<2^63-(len+fW) by omega)
       unfold maxLen;omega
      ·simp [Builtin.zeroCells,YW,DM,hz1]
       rw [<-Nat.add_mul, <-Nat.add_mul]
      ·intro i u hu
       have hi:i<(vx++vy).length:=(List.getElem?_eq_some_iff.1 hu).1
       rw [Array.getElem?_append_left (by simpa using hi)]
       rw [List.append_toArray];simpa using hu
     have main: ∀oh:Option Nat,(∀h,oh=some h->σ (3*h+2)= .live ⟨sz,none⟩/\tm h= .slice ad len cap)->(oh=none->cap=0)->len+fW<=4294967296-> ∀(K:Act->World->Prop) (Q:Exit->Act->World->Prop),
       (∀cQ tm' a' w',aM c (fun x=>F x\/eG g x) (dm (aX (gK σ oh) (3*g+2) (.live ⟨sz,none⟩)) (wv o.dst (.v [] (.own g) (.app ex ey)))) cQ tm' a' w'->K a' w')->o.wp P a w K Q:=by
      intro oh tU Nf GD K Q hK
      have Yt: ∀h,oh=some h->σ (3*h+2)= .live ⟨sz,none⟩:=fun h e=>(tU h e).1
      have fin: ∀(v':Value) (w':World) (blk:Option Nat),(execOp a.eval o).run P w= .ok (.value v') w'->Fr c.B c.X w w' ->
        bo w (MM c.M0 bm tm σ) w' (MM c.M0 bm (aX tm g v') (aX (gK σ oh) (3*g+2) (.live ⟨sz,none⟩))) ->
        (∀k,k<w.heap.size->some k≠blk->w'.heap[k]? =w.heap[k]?) ->
        (∀b,blk=some b-> ∃h o s len cap,oh=some h/\tm h= .slice (some ⟨b,o,s⟩) len cap/\0<cap) ->
        lK c w' (aX tm g v') g ⟨sz,none⟩->(∀b o s len cap,v'= .slice (some ⟨b,o,s⟩) len cap->0<cap->w.heap.size<=b\/blk=some b) ->
        R w' (MM c.M0 bm (aX tm g v') (aX (gK σ oh) (3*g+2) (.live ⟨sz,none⟩))) (.sl (rows++wu)) v'->o.wp P a w K Q:=by
       intro v' w' blk hrun hfr hk eS hblk iG YQ hR
       unfold Oper.wp
       rw [hrun]
       refine hK _ _ _ _ (aM.tag ((hs.append jL oh Yt v' blk hfr hk eS hblk iG YQ).kZ hd (dV (aP _) ⟨?_,?_⟩) fun x hx=> ?_))
       ·rw [iF];exact hR
       ·rw [cu]
       ·exact .inr hx
      by_cases hle:len+fW<=cap
      ·
       by_cases h0:fW=0
       ·subst h0
        obtain ⟨w',hrun,hcase⟩:=GX hle (.inl rfl)
        have hw:w'=w:=by
         rcases hcase with ⟨_,h⟩|⟨b,o',cells,T0,h1,h2,h3,h4,h5⟩
         ·exact h
         ·have G9:vy=[]:=List.eq_nil_of_length_eq_zero (by simpa using DM)
          subst G9
          obtain ⟨w2,YI,hc2⟩:=GX hle (.inl rfl)
          have e1:=hrun.symm.trans YI
          simp only [Result.ok.injEq,true_and] at e1
          have:(execOp a.eval o).run P w= .ok (.value (.slice ad (len+0) cap)) w:=by
           rcases ad with _|ad
           ·simp [execOp,ho,resolve,hcl,invoke,builtin,Builtin.append_,har',hat',hval,yG,run_underlying hd1,run_underlying jn,run_sizeOf hj,hjs,Builtin.lenOf,fG,yH w rfl]
           ·simp [execOp,ho,resolve,hcl,invoke,builtin,Builtin.append_,har',hat',hval,yG,run_underlying hd1,run_underlying jn,run_sizeOf hj,hjs,Builtin.lenOf,fG,yH w rfl,storeCells]
          have e2:=hrun.symm.trans this
          simp only [Result.ok.injEq,true_and] at e2
          exact e2
        subst hw
        have vE:wu=[]:=List.eq_nil_of_length_eq_zero (by omega)
        subst vE
        simp only [Nat.add_zero] at hrun
        by_cases hlc:0<cap
        ·obtain ⟨h',rfl⟩: ∃h',oh=some h':=by
          cases oh with
          | none=>have:=Nf rfl;omega
          | some h'=>exact ⟨h',rfl⟩
         obtain ⟨hl',ht'⟩:=tU h' rfl
         rcases ad with _|⟨b,o',s⟩
         ·have:=Du rfl;omega
         refine fin _ _ (some b) hrun (Fr.refl _ _ _) (fun p v hp hn=>⟨hp,fun hm=> ?_⟩) (fun _ _ _=>rfl) (fun b' hb'=>⟨h',o',s,len,cap,rfl,by simp at hb';subst hb';exact ht',hlc⟩) ?_ (fun b' o2 s2 l2 c2 he _=> .inr (by simp at he;rw [he.1.1])) ?_
         ·rcases sj hs jL hm with h|h
          ·exact hn (uw h)
          ·exact hn (.inr (.inr ⟨h',⟨sz,none⟩,hl',vV (by rw [ht'];exact h)⟩))
         ·refine ⟨fun b' o2 s2 l2 c2 he hlt=> ?_,(fun e dp he=>by cases he),(fun e gv ms he=>by cases he)⟩
          rw [cu] at he
          exact (hs.live h' ⟨sz,none⟩ hl').sp b' o2 s2 l2 c2 (by rw [ht',he]) hlt
         ·rw [List.append_nil, <-hrows, <-hval]
          refine R.keep (fun p v hp hn=>⟨hp,fun hm=> ?_⟩) _ _ AY.rd
          rw [hval] at hm
          rcases sj hs jL hm with h|h
          ·exact hn (uw h)
          ·exact hn (.inr (.inr ⟨h',⟨sz,none⟩,hl',vV (by rw [ht'];exact h)⟩))
        ·have GP: ∀p,¬wI (.slice ad len cap) sz p:=by
          rintro p ⟨b,o',s,l2,c2,he,_,h1,h2⟩
          simp only [Value.slice.injEq] at he
          obtain ⟨_,rfl,rfl⟩:=he
          have e1:cap=0:=by omega
          rw [e1] at h2;omega
         have hkk:bo w' (MM c.M0 bm tm σ) w' (MM c.M0 bm (aX tm g (.slice ad len cap)) (aX (gK σ oh) (3*g+2) (.live ⟨sz,none⟩))):=fun p v hp hn=>⟨hp,fun hm=>by
          rcases sj hs jL hm with h|h
          ·exact hn (uw h)
          ·exact GP p h⟩
         refine fin _ _ none hrun (Fr.refl _ _ _) hkk (fun _ _ _=>rfl) (fun b' hb'=>by cases hb') ?_ (fun b' o2 s2 l2 c2 he hlt=>by simp only [Value.slice.injEq] at he;omega) ?_
         ·refine ⟨fun b' o2 s2 l2 c2 he hlt=> ?_,(fun e dp he=>by cases he),(fun e gv ms he=>by cases he)⟩
          rw [cu] at he;simp only [Value.slice.injEq] at he;omega
         ·rw [List.append_nil, <-hrows]
          have:=R.keep hkk _ _ AY.rd
          rwa [hval] at this
       ·
        have hlc:0<cap:=by omega
        obtain ⟨h',rfl⟩: ∃h',oh=some h':=by
         cases oh with
         | none=>have:=Nf rfl;omega
         | some h'=>exact ⟨h',rfl⟩
        obtain ⟨hl',ht'⟩:=tU h' rfl
        rcases ad with _|⟨b,o',s⟩
        ·have:=Du rfl;omega
        obtain ⟨vG,Af,cells,T0,hblk,hroom⟩:=(hs.live h' ⟨sz,none⟩ hl').sp b o' s len cap ht' hlc
        subst vG
        replace hroom:o'+cap*sz<=cells.size:=hroom
        have hmul:len*sz+fW*sz<=cap*sz:=by rw [<-Nat.add_mul];exact Nat.mul_le_mul_right _ hle
        obtain ⟨w',hrun,hcase⟩:=GX hle (.inr ⟨b,o',cells,T0,rfl,hblk,by omega⟩)
        rcases hcase with ⟨h,_⟩|⟨b1,o1,Fs,T1,h1,h2,h3,h4,h5⟩
        ·exact absurd h h0
        simp only [Option.some.injEq,Addr.mk.injEq,and_true] at h1
        obtain ⟨rfl,rfl⟩:=h1
        rw [hblk] at h2
        simp only [Option.some.injEq,Obj.cells.injEq] at h2
        obtain ⟨rfl,rfl,_⟩:=h2
        have hspare: ∀i,len*sz<=i->i<cap*sz->MM c.M0 bm tm σ ⟨b,o'+i,none⟩:=fun i hi1 hi2 =>
         .inr (.inr ⟨h',⟨sz,none⟩,hl',vV ⟨b,o',none,len,cap,ht',rfl,by show o'+len*sz<=o'+i;omega,by show o'+i<o'+cap*sz;omega⟩⟩)
        have Dq: ∀i,w'.cell? ⟨b,i,none⟩=(fK cells (o'+len*sz) vy)[i]? :=fun i=>cell_of_row w' b i _ _ _ h3
        have XU: ∀i,w.cell? ⟨b,i,none⟩=cells[i]? :=fun i=>cell_of_row w b i _ _ _ hblk
        have Dj: ∀p,p.block=b-> ¬MM c.M0 bm tm (gK σ (some h')) p:=by
         rintro p dY (h|⟨id,cs,q1,q2⟩|⟨x,m,q1,q2⟩)
         ·have:=hs.m0.1 p h;omega
         ·rw [uS] at q1
          exact hs.iC id cs h' ⟨sz,none⟩ b q1 hl' (.inl ⟨o',none,len,cap,ht',hlc⟩) (by rw [<-q2,dY])
         ·obtain ⟨q6,q7⟩:=oN q1
          exact hs.iD x m h' ⟨sz,none⟩ p.block b q6 hl' (fun e=>q7 (by rw [e])) (D8 q2) (.inl ⟨o',none,len,cap,ht',hlc⟩) dY
        have hkk:bo w (MM c.M0 bm tm σ) w' (MM c.M0 bm (aX tm g (.slice (some ⟨b,o',none⟩) (len+fW) cap)) (aX (gK σ (some h')) (3*g+2) (.live ⟨sz,none⟩))):=by
         intro p v hp hn
         constructor
         ·by_cases dY:p.block=b
          ·have hsp:=World.cell?_spot hp
           obtain ⟨pb,po,ps⟩:=p
           simp only at dY hsp;subst dY hsp
           rw [Dq,II]
           ·rw [<-XU];exact hp
           ·rcases Nat.lt_or_ge po (o'+len*sz) with h|h
            ·exact .inl h
            ·refine .inr ?_
             rcases Nat.lt_or_ge po (o'+len*sz+vy.length) with h6|h6
             ·refine absurd (hspare (po-o') (by omega) (by omega)) ?_
              rwa [show o'+(po-o')=po by omega]
             ·exact h6
          ·rw [<-hp];exact World.cell?_of_block (h4.block _ dY)
         ·intro hm
          rcases sj hs jL hm with h|⟨b2,o2,s2,l2,c2,q1,q2,q3,q4⟩
          ·exact hn (uw h)
          ·simp only [Value.slice.injEq,Option.some.injEq,Addr.mk.injEq] at q1
           obtain ⟨⟨rfl,rfl,rfl⟩,rfl,rfl⟩:=q1
           rw [Nat.add_mul] at q3
           exact hn (.inr (.inr ⟨h',⟨sz,none⟩,hl',vV ⟨b,o',none,len,cap,ht',q2,(by show o'+len*sz<=_;omega),q4⟩⟩))
        refine fin _ _ (some b) hrun (Fr.D7 h4 (.inl Af)) hkk (fun k _ hk=>h4.block k (fun e=>hk (by rw [e]))) (fun b' hb'=>⟨h',o',none,len,cap,rfl,by simp at hb';subst hb';exact ht',hlc⟩) ?_ (fun b' o2 s2 l2 c2 he _=> .inr (by simp at he;rw [he.1.1])) ?_
        ·refine ⟨fun b' o2 s2 l2 c2 he hlt=> ?_,(fun e dp he=>by cases he),(fun e gv ms he=>by cases he)⟩
         rw [cu] at he
         simp only [Value.slice.injEq,Option.some.injEq,Addr.mk.injEq] at he
         obtain ⟨⟨rfl,rfl,rfl⟩,rfl,rfl⟩:=he
         exact ⟨rfl,Af,_,T0,h3,by rw [BI];exact hroom⟩
        ·refine ⟨_,_,_,rfl,by simp;omega,hle,MU,(fun h=>by cases h),fun b2 o2 s2 he=> ?_⟩
         simp only [Option.some.injEq,Addr.mk.injEq] at he
         obtain ⟨rfl,rfl,rfl⟩:=he
         refine ⟨fun _=>rfl,dF.append (dF.keep hkk _ _ _ (Yg b o' none rfl).2) ?_⟩
         rw [F9 DC, <-hl1]
         refine dF.of_flat Ha hkk fun i u hu=> ?_
         have hi:i<vy.length:=(List.getElem?_eq_some_iff.1 hu).1
         refine ⟨by rw [Dq];exact Qe vy cells _ i u (by omega) hu,fun hm=> ?_⟩
         rcases sj hs jL hm with h|⟨b2,o2,s2,l2,c2,q1,q2,q3,q4⟩
         ·exact Dj _ rfl h
         ·simp only [Value.slice.injEq,Option.some.injEq,Addr.mk.injEq] at q1
          obtain ⟨⟨rfl,rfl,rfl⟩,rfl,rfl⟩:=q1
          simp only at q3
          rw [Nat.add_mul] at q3
          omega
      ·
       obtain ⟨cells,nc,hrun,hn1,hn2,DA,Yp⟩:=DI (by omega) GD
       have hb:Below w.heap.size w (w.drew.alloc (.cells cells el)):=((Below.refl _ _).drew).alloc (Nat.le_refl _) _
       have Dq: ∀i,(w.drew.alloc (.cells cells el)).cell? ⟨w.heap.size,i,none⟩=cells[i]? :=fun i=>by
        have:=World.cell?_alloc_new (w:=w.drew) cells el i
        exact this
       have hkk:bo w (MM c.M0 bm tm σ) (w.drew.alloc (.cells cells el)) (MM c.M0 bm (aX tm g (.slice (some ⟨w.heap.size,0,none⟩) (len+fW) nc)) (aX (gK σ oh) (3*g+2) (.live ⟨sz,none⟩))):=by
        refine bo.below hb fun p hp hm=> ?_
        rcases sj hs jL hm with h|⟨b2,o2,s2,l2,c2,q1,q2,q3,q4⟩
        ·exact uw h
        ·simp only [Value.slice.injEq,Option.some.injEq,Addr.mk.injEq] at q1
         omega
       refine fin _ _ none hrun (Fr.oY hb hs.hB) hkk (fun k hk _=>hb.block k hk) (fun b' hb'=>by cases hb') ?_ (fun b' o2 s2 l2 c2 he _=> .inl (by simp at he;omega)) ?_
       ·refine ⟨fun b' o2 s2 l2 c2 he hlt=> ?_,(fun e dp he=>by cases he),(fun e gv ms he=>by cases he)⟩
        rw [cu] at he
        simp only [Value.slice.injEq,Option.some.injEq,Addr.mk.injEq] at he
        obtain ⟨⟨rfl,rfl,rfl⟩,rfl,rfl⟩:=he
        exact ⟨rfl,hs.hB,cells,el,heap_alloc_new w.drew _,by show 0+nc*sz<=_;rw [DA];omega⟩
       ·refine ⟨_,_,_,rfl,by simp;omega,hn1,hn2,(fun h=>by cases h),fun b2 o2 s2 he=> ?_⟩
        simp only [Option.some.injEq,Addr.mk.injEq] at he
        obtain ⟨rfl,rfl,rfl⟩:=he
        refine ⟨fun _=>rfl,dF.of_flat (by rw [Dt];exact YX.append Ha) hkk fun i u hu=> ?_⟩
        have hi:i<(vx++vy).length:=(List.getElem?_eq_some_iff.1 hu).1
        rw [Nat.zero_add]
        refine ⟨by rw [Dq];exact Yp i u hu,fun hm=> ?_⟩
        rcases sj hs jL hm with h|⟨b2,o2,s2,l2,c2,q1,q2,q3,q4⟩
        ·have:=hs.EW _ (uw h)
         simp at this
        ·simp only [Value.slice.injEq,Option.some.injEq,Addr.mk.injEq] at q1
         obtain ⟨⟨rfl,rfl,rfl⟩,rfl,rfl⟩:=q1
         simp only [Nat.zero_add,Nat.add_mul] at q3
         simp only [List.length_append] at hi
         omega
     have MH:(∀r∈aS.rq,hO P c.env n r)->(Rq.cond [] (.few ex ey))∈aS.rq->len+fW<=4294967296:=fun hr hin=>by
      have:=hr _ hin (aP _)
      simp [E.den,hrows,Nj] at this
      omega
     cases k with
     | d=>simp at h
     | full =>
      simp only [Option.some.injEq] at h;subst h
      refine ⟨fun _ hr K Q hK=>main none (by simp) (fun _=> ?_) (MH hr (by simp)) K Q fun cQ tm' a' w' hS=>hK cQ tm' a' w' ?_,fun hn=>absurd (aP _) hn⟩
      ·obtain ⟨_,a2,he⟩:=AY
       rw [hval] at he
       simp only [Value.slice.injEq] at he
       omega
      ·rw [zp (by intro p hp d;simp at hp;subst hp;simp;omega)]
       exact hS
     | ag _=>simp at h
     | own h' =>
      simp only at h
      split at h
      ·rename_i m hm
       split at h
       ·rename_i Dz
        subst Dz
        simp only [Option.some.injEq] at h;subst h
        refine ⟨fun _ hr K Q hK=>main (some h') (fun q hq=> ?_) (by simp) (MH hr (by simp)) K Q fun cQ tm' a' w' hS=>hK cQ tm' a' w' ?_,fun hn=>absurd (aP _) hn⟩
        ·simp only [Option.some.injEq] at hq;subst hq
         exact ⟨hm,by rw [<-hval];exact AY.2.symm⟩
        ·rw [zp (by intro p hp d;simp at hp;rcases hp with rfl|rfl<;>simp<;>omega)]
         exact hS
       ·simp at h
      ·simp at h
   ·simp at h
  ·simp at h
 ·simp at h
theorem acq(aI:cL P tb tb=true)(hs:aM c F σ bm tm a w)(aB:bQ tb.tab Γ c.env){g n:Nat}(jL: ¬F g){o:Oper}{T len:Nat}{parts:Array (Nat×Operand)}(ho:o.op= .buildSlice T len parts)(hd: ∀d,o.dst=some d->d<c.nt){ti:TI}(aQ:tb.get T=some ti){aS:aU}
  (h:CQ tb Γ gs o.dst σ g ti len parts.toList=some aS):fp P c F σ bm tm a w g gs n o aS:=by
 unfold CQ at h
 split at h
 ·rename_i el hv
  split at h
  ·rename_i hcnd
   obtain ⟨hlen,hok⟩:=hcnd
   simp only [Option.map_eq_some_iff] at h
   obtain ⟨e,he,rfl⟩:=h
   refine ⟨fun _ _ K Q hK=> ?_,fun hn=>absurd (aP _) hn⟩
   obtain ⟨w',cells,h1,h2,h3,h3',h4⟩:=PT aI hs aB ho aQ hv hlen hok he (aP _)
   have Dj: ∀p,MM c.M0 bm (aX tm g (.slice (some ⟨w.heap.size,0,none⟩) len len)) (aX (gK σ none) (3*g+2) (.live ⟨(tb.tab el).length,none⟩)) p->MM c.M0 bm tm σ p:=fun p hp=>by
    rcases sj hs jL hp with h|⟨b2,o2,s2,l2,c2,q1,q2,q3,q4⟩
    ·exact uw h
    ·simp only [Value.slice.injEq] at q1
     obtain ⟨_,rfl,rfl⟩:=q1
     omega
   unfold Oper.wp
   rw [h1]
   refine hK bm (aX tm g (.slice (some ⟨w.heap.size,0,none⟩) len len)) _ _ ?_
   rw [zp (by intro p hp d;simp at hp;subst hp;simp;omega)]
   refine aM.tag ((hs.append jL none (by simp) _ none (Fr.oY h2 hs.hB) (bo.below h2 fun p _ h=>Dj p h) (fun k hk _=>h2.block k hk) (fun b hb=>by cases hb) ?_ (fun b' o2 s2 l2 c2 he _=> .inl (by simp at he;omega))).kZ hd (dV (aP _) ⟨h4 _ Dj,?_⟩) fun x hx=> ?_)
   ·refine ⟨fun b' o2 s2 l2 c2 he hlt=> ?_,(fun e dp he=>by cases he),(fun e gv ms he=>by cases he)⟩
    rw [cu] at he
    simp only [Value.slice.injEq,Option.some.injEq,Addr.mk.injEq] at he
    obtain ⟨⟨rfl,rfl,rfl⟩,rfl,rfl⟩:=he
    exact ⟨rfl,hs.hB,cells,el,h3,by show 0+len*(tb.tab el).length<=_;omega⟩
   ·rw [cu]
   ·exact .inr hx
  ·simp at h
 ·simp at h
theorem aaP{z:Array Value}{m n i j:Nat}(hz:z.size=n)(hi:i<m)(hj:j<n):(madeCells z (m*n))[i*n+j]? =z[j]? :=by
 have h1:i*n+j<m*n:=by
  have:(i+1)*n<=m*n:=Nat.mul_le_mul_right _ hi
  rw [Nat.add_mul,Nat.one_mul] at this
  omega
 simp only [madeCells,Array.getElem?_map,Array.getElem?_range,h1, ↓reduceIte,Option.map_some]
 rw [hz,Nat.mul_comm i n,Nat.mul_add_mod,Nat.mod_eq_of_lt hj]
 simp [hz,hj]
theorem SW: ∀{ts:List CT} {vs:List Value},lI ts vs=true->vs.length=ts.length
 | [],[],_=>rfl
 | t::ts,v::vs,h=>by
  simp only [lI,Bool.and_eq_true] at h
  simp [SW h.2]
 | [],_::_,h=>by simp [lI] at h
 | _::_,[],h=>by simp [lI] at h
theorem Jm: ∀{ts:List CT} {vs:List Value},lI ts vs=true-> ∀{j:Nat},j<ts.length-> ∃t u,ts[j]? =some t/\vs[j]? =some u/\zeroV t u=true
 | [],_,_,j,hj=>by simp at hj
 | t::ts,v::vs,h,j,hj=>by
  simp only [lI,Bool.and_eq_true] at h
  cases j with
  | zero=>exact ⟨t,v,rfl,rfl,h.1⟩
  | succ j=>simpa using Jm h.2 (j:=j) (by simpa using hj)
 | _::_,[],h,_,_=>by simp [lI] at h
theorem Kz: ∀{ts:List CT} {ms:List Nat},xz tb ts=some ms-> ∀(j:Nat) (t:CT),ts[j]? =some t->(ms.getD j 0=0->qf t=true)/\(ms.getD j 0≠0-> ∃e,t= .sl e)
 | [],ms,h,j,t,ht=>by simp at ht
 | t::ts,ms,h,j,t',ht=>by
  simp only [xz] at h
  split at h
  ·simp at h
  ·rename_i ms' hms
   cases j with
   | zero =>
    simp at ht;subst ht
    split at h
    ·rename_i e
     cases hc:(rH (tb.tab e)&&Nat.blt 0 (tb.tab e).length) with
     | false=>rw [hc] at h;simp at h
     | true =>
      rw [hc] at h
      simp only [cond_true,Option.some.injEq] at h;subst h
      simp only [Bool.and_eq_true] at hc
      have:=Nat.le_of_ble_eq_true hc.2
      refine ⟨fun h0=> ?_,fun _=>⟨e,rfl⟩⟩
      simp at h0
      rw [h0] at this;simp at this
    ·simp at h
    ·simp at h
    ·rename_i h1 h2 h3
     simp only [Option.some.injEq] at h;subst h
     refine ⟨fun _=> ?_,fun h0=>absurd rfl h0⟩
     cases t<;>simp [qf] at * <;>simp_all
   | succ j =>
    have key:=Kz hms j t' (by simpa using ht)
    split at h
    ·rename_i e
     cases hc:(rH (tb.tab e)&&Nat.blt 0 (tb.tab e).length) with
     | false=>rw [hc] at h;simp at h
     | true=>rw [hc] at h;simp only [cond_true,Option.some.injEq] at h;subst h;simpa using key
    ·simp at h
    ·simp at h
    ·simp only [Option.some.injEq] at h;subst h;simpa using key
theorem acH(aI:cL P tb tb=true)(hs:aM c F σ bm tm a w)(aB:bQ tb.tab Γ c.env){g n:Nat}(tR: ∀x,eG g x-> ¬F x){o:Oper}{T T1 T2:Nat}{l cc:Operand}(ho:o.op= .makeSlice T l cc)(hd: ∀d,o.dst=some d->d<c.nt){ti:TI}(aQ:tb.get T=some ti){aS:aU}
  (h:FT tb Γ gs o.dst g ti (aT tb σ T1 l) (aT tb σ T2 cc)=some aS):fp P c F σ bm tm a w g gs n o aS:=by
 unfold FT at h
 split at h
 ·rename_i el k1 en k2 ec hv hl hc
  split at h
  ·rename_i ei gq
   split at h
   ·simp at h
   ·rename_i v1 hv1
    split at h
    ·rename_i hcnd
     simp only [Option.some.injEq] at h;subst h
     obtain ⟨rfl,hint,hby,hpos,MY⟩:=hcnd
     refine ⟨fun _ hr K Q hK=> ?_,fun hn=>absurd (aP _) hn⟩
     have hin:hO P c.env n (.cond [] (.an (.ic .leq (.li .i64 0) en) (.ic .leq en (.li .i64 4294967296)))):=hr _ (by simp)
     replace hin:=hin (aP _)
     have hki:en.inf tb.tab Γ=some (.one (.c (.int .i64))):=by
      obtain ⟨k,hk⟩:=rE (show (isInt (en.inf tb.tab Γ)).isSome=true by rw [hint];rfl)
      rw [hk] at hint ⊢
      simp [isInt] at hint
      rw [hint]
     obtain ⟨m,hm,hmv,_⟩:=jE aB hki ((cW hs hl).1 (aP _))
     obtain ⟨m',hm',Ym,_⟩:=jE aB hki ((cW hs hc).1 (aP _))
     rw [hm] at hm';cases hm'
     simp only [E.den,hm,D.dE,D.fL,bb,D.bool.injEq,Bool.and_eq_true,decide_eq_true_eq] at hin
     obtain ⟨i',d,hi',_,_,_,XY,jo⟩:=fk aI aQ hv
     simp only [fO] at jo;subst jo
     have htab:tb.tab el=v1.cells:=by simp [TB.tab,gq,TI.cells,hv1]
     obtain ⟨j,z,hj,hjs,hjb,hz,hzl⟩: ∃(j:TypeInfo) (z:Value),P.info? el=some j/\j.size=v1.cells.length/\j.bytes=ei.bytes/\j.zero=some z/\lI v1.cells z.cells.toList=true:=by
      cases v1 with
      | c t =>
       obtain ⟨j,d',h1,h2,h3,⟨z,h4,h5⟩,h6,h7⟩:=fk aI gq hv1
       refine ⟨j,z,h1,h2,h3,h4,?_⟩
       have hc1:=(tg (w:=default) (M:=fun _=>False) (tab:=fun _=>[]) (Jl _ t) (EN (c:=⟨default,0,none,fun _=>False,0,[]⟩) (w:=default) (tm:=fun _=>undef) (M:=fun _=>False) h5).1).1
       rw [hc1]
       simp [V1.cells,lI,h5]
      | agg ts =>
       obtain ⟨j,fields,cs,h1,h2,h3,h4,h5,_⟩:=lG aI gq hv1
       exact ⟨j,.agg cs,h1,h2,h3,h4,h5⟩
     have hrun:=run_make (P:=P) w T el j z XY hj hz .i64 .i64 m m hin.1 (Int.le_refl _) (by
      rw [hjb]
      have h1:(ei.bytes:Int)*m<=1024*m:=Int.mul_le_mul_of_nonneg_right (by omega) hin.1
      omega) (by omega)
     have hrun':(execOp a.eval o).run P w= .ok (.value (.slice (some ⟨w.heap.size,0,none⟩) m.toNat m.toNat)) (w.alloc (.cells (madeCells z.cells (m.toNat*j.size)) el)):=by
      simp [execOp,ho,hmv,Ym,hrun]
     have hb:Below w.heap.size w (w.alloc (.cells (madeCells z.cells (m.toNat*j.size)) el)):=(Below.refl _ _).alloc (Nat.le_refl _) _
     have jM:m.toNat<=maxLen:=by unfold maxLen;omega
     have Ny:z.cells.toList.length=v1.cells.length:=SW hzl
     let tm':Nat->Value:=aX (aX tm g (.slice (some ⟨w.heap.size,0,none⟩) m.toNat m.toNat)) (g+1) (.tuple (madeCells z.cells (m.toNat*j.size)))
     have vJ:tm' g= .slice (some ⟨w.heap.size,0,none⟩) m.toNat m.toNat:=by
      show aX _ _ _ g=_
      rw [eD _ _ (by omega),cu]
     have G4:tm' (g+1)= .tuple (madeCells z.cells (m.toNat*j.size)):=cu _ _ _
     have hto: ∀x,¬eG g x->tm' x=tm x:=fun x hx=>by
      show aX _ _ _ x=_
      rw [eD _ _ fun e=>hx (by subst e;unfold eG j8;omega),eD _ _ fun e=>hx (by subst e;exact eG.self _)]
     have hcell: ∀i r,(List.replicate m.toNat (v1.cells.map jy))[i]? =some r-> ∀j' d',r[j']? =some d'->j'<v1.cells.length/\i<m.toNat/\ ∃t u,v1.cells[j']? =some t/\z.cells[j']? =some u/\zeroV t u=true/\d'=jy t/\(madeCells z.cells (m.toNat*j.size))[i*v1.cells.length+j']? =some u:=by
      intro i r hi j' d' hj'
      have hlt:=(List.getElem?_eq_some_iff.1 hi).1
      simp only [List.length_replicate] at hlt
      rw [List.getElem?_replicate_of_lt hlt] at hi
      simp only [Option.some.injEq] at hi;subst hi
      have hjn:=(List.getElem?_eq_some_iff.1 hj').1
      simp only [List.length_map] at hjn
      obtain ⟨t,u,h1,h2,h3⟩:=Jm hzl hjn
      refine ⟨hjn,hlt,t,u,h1,by simpa using h2,h3,?_,?_⟩
      ·simp [h1] at hj';exact hj'.symm
      ·rw [hjs,aaP (by rw [<-Array.length_toList,Ny]) hlt hjn];simpa using h2
     have Dx: ∀u∈(madeCells z.cells (m.toNat*j.size)).toList,∀b,¬bM u b:=by
      intro u hu b hb
      simp only [madeCells,Array.toList_map,List.mem_map] at hu
      obtain ⟨q,hq,rfl⟩:=hu
      obtain ⟨o1,s1,l1,c1,h1,h2⟩:=hb
      by_cases hz0:z.cells.size=0
      ·have:z.cells[q%z.cells.size]! =default:=by rw [getElem!_neg];omega
       rw [this] at h1;cases h1
      ·have hlt:q%z.cells.size<z.cells.size:=Nat.mod_lt _ (by omega)
       obtain ⟨t,u,h3,h4,h5⟩:=Jm hzl (show q%z.cells.size<v1.cells.length by rw [<-Ny];simpa using hlt)
       have:z.cells[q%z.cells.size]! =u:=by
        have h4':z.cells[q%z.cells.size]? =some u:=by simpa using h4
        rw [getElem!_def,h4']
       rw [this] at h1
       subst h1
       cases t<;>simp [zeroV] at h5
     have Dz: ∀ms,xz tb v1.cells=some ms-> ∀(j':Nat) (t:CT),v1.cells[j']? =some t->(ms.getD j' 0=0->qf t=true)/\(ms.getD j' 0≠0-> ∃e,t= .sl e):=fun ms hms=>Kz hms
     unfold Oper.wp
     rw [hrun']
     refine hK bm tm' _ _ ?_
     rw [zp (by intro p hp d;simp at hp;subst hp;simp;omega)]
     refine aM.kZ (hs.aa3 tR hto hb (fun b hbk=> ?_) ⟨?_,fun e dp he=> ?_,fun e gv ms he=> ?_⟩ fun x hx=> ?_) hd (dV (aP _) ⟨?_,vJ.symm⟩) fun x hx=> ?_
     ·rcases hbk with ⟨o1,s1,l1,c1,h1,h2⟩|⟨e,gv,ms,cells,u,h1,h2,h3,h4⟩
      ·rw [vJ] at h1
       simp only [Value.slice.injEq,Option.some.injEq,Addr.mk.injEq] at h1
       omega
      ·simp only [Option.some.injEq,Prod.mk.injEq] at h1
       obtain ⟨_,h1⟩:=h1
       split at h1
       ·cases h1
       ·simp only [Option.map_eq_some_iff,Prod.mk.injEq] at h1
        obtain ⟨_,_,rfl,_⟩:=h1
        rw [G4] at h2;cases h2
        exact absurd h4 (Dx u h3 b)
     ·intro b' o2 s2 l2 c2 he hlt
      rw [vJ] at he
      simp only [Value.slice.injEq,Option.some.injEq,Addr.mk.injEq] at he
      obtain ⟨⟨rfl,rfl,rfl⟩,rfl,rfl⟩:=he
      refine ⟨rfl,hs.hB,_,el,heap_alloc_new _ _,?_⟩
      rw [size_madeCells,hjs,htab]
      show 0+m.toNat*v1.cells.length<=_
      omega
     ·simp only [Option.some.injEq,Prod.mk.injEq] at he
      obtain ⟨rfl,rfl⟩:=he
      refine ⟨some ⟨w.heap.size,0,none⟩,m.toNat,m.toNat,List.replicate m.toNat (v1.cells.map jy),vJ,by simp [E.den,hm,htab],by simp,Nat.le_refl _,jM,(fun h=>by cases h),fun r hr=> ?_,fun b' o2 s2 he=>⟨(fun _=>by cases he;rfl),fun i r hi j' d' hj'=> ?_⟩⟩
      ·rw [List.eq_of_mem_replicate hr,htab];simp
      ·cases he
       obtain ⟨hjn,hlt,t,u,h1,h2,h3,h4,h5⟩:=hcell i r hi j' d' hj'
       refine ⟨u,?_,?_⟩
       ·rw [World.cell?_alloc_new,htab,Nat.zero_add];exact h5
       ·have Bc:=(EN (c:=⟨default,0,none,fun _=>False,0,[]⟩) (w:=default) (tm:=fun _=>undef) (M:=fun _=>False) h3).1
        have hlf:qf t=true->rZ d' u:=fun hl=>by rw [h4];exact HO (tab:=fun _=>[]) (Jl _ t) hl Bc
        rw [htab]
        split
        ·rename_i Dw
         refine hlf ?_
         simp only [rH,List.all_eq_true] at Dw
         exact Dw t (List.mem_of_getElem? h1)
        ·rename_i Dw
         obtain ⟨ms,hms⟩:=Option.isSome_iff_exists.1 ((htab▸MY).resolve_left Dw)
         rw [hms]
         refine ⟨fun h0=>hlf ((Dz ms hms j' t h1).1 h0),fun hne=> ?_⟩
         obtain ⟨e2,rfl⟩:=(Dz ms hms j' t h1).2 hne
         have hu:u= .slice none 0 0:=by
          simp only [zeroV] at h3
          split at h3
          all_goals first|rfl|simp_all
         subst hu
         refine ⟨⟨_,G4,h5⟩,(fun b o s len cap h=>by cases h),none,0,0,[],rfl,by rw [h4];rfl,rfl,Nat.le_refl _,Nat.zero_le _,(fun _=>rfl),(fun r hr=>by simp at hr),(fun b o s h=>by cases h)⟩
     ·simp only [Option.some.injEq,Prod.mk.injEq] at he
      obtain ⟨_,h1⟩:=he
      split at h1
      ·cases h1
      ·simp only [Option.map_eq_some_iff,Prod.mk.injEq] at h1
       obtain ⟨_,_,rfl,_⟩:=h1
       refine ⟨_,G4,fun u hu=>⟨0,fun b o s len cap h h'=>absurd ⟨o,s,len,cap,h,h'⟩ (Dx u hu b)⟩,fun k k' u u' b hk _ _ hb1=>absurd hb1 (Dx u (by rw [<-Array.getElem?_toList] at hk;exact List.mem_of_getElem? hk) b),fun u hu b hb1=>absurd hb1 (Dx u hu b)⟩
     ·obtain ⟨e,ms,hx⟩:=hx
      simp only [Option.some.injEq,Prod.mk.injEq] at hx
      obtain ⟨_,h1⟩:=hx
      split at h1
      ·cases h1
      ·simp only [Option.map_eq_some_iff,Prod.mk.injEq] at h1
       obtain ⟨_,_,rfl,_⟩:=h1
       unfold eG j8;omega
     ·exact ⟨some ⟨w.heap.size,0,none⟩,m.toNat,by simp [hm],by simp [hm],jM,(fun h=>by cases h),fun b o s h _=>by cases h;rfl⟩
     ·exact .inr (by obtain rfl:x=g:=hx;exact eG.self _)
    ·simp at h
  ·simp at h
 ·simp at h
theorem acj(aI:cL P tb tb=true)(hs:aM c F σ bm tm a w)(aB:bQ tb.tab Γ c.env){g n:Nat}(tR: ∀x,eG g x-> ¬F x){o:Oper}{x y:Operand}{T U:Nat}{cl:Call}(ho:o.op= .call cl)(hcl:cl.callee= .builtin .append)(har:cl.args.toList=[x,y])(hat:cl.argTypes.toList=[T,U])
  (hd: ∀d,o.dst=some d->d<c.nt) {ti ui:TI} (aQ:tb.get T=some ti) (AW:tb.get U=some ui) {aS:aU}
  (h:xC tb Γ gs o.dst σ g ti ui (aT tb σ T x) (aT tb σ U y)=some aS):fp P c F σ bm tm a w g gs n o aS:=by
 unfold xC at h
 split at h
 ·rename_i hy;exact (by simp [KP] at h)
 ·exact ack aI hs aB (tR g (eG.self g)) ho hcl har hat hd aQ AW h
theorem sSl(aI:cL P tb tb=true)(hs:aM c F σ bm tm a w)(aB:bQ tb.tab Γ c.env){g n:Nat}(jL: ¬F g){o:Oper}{x:Operand}{lo hi:Option Operand}{T:Nat}(ho:o.op= .slice T x lo hi none)(hd: ∀d,o.dst=some d->d<c.nt){ti:TI}(aQ:tb.get T=some ti){aS:aU}
  (h:xJ tb Γ gs o.dst σ g ti (aT tb σ T x) (lo.map (aT tb σ 0)) (hi.map (aT tb σ 0))=some aS):fp P c F σ bm tm a w g gs n o aS:=by
 unfold xJ at h
 split at h
 ·rename_i h' ex l hx hlo hhi
  split at h
  ·rename_i e he
   simp only [Option.some.injEq] at h;subst h
   cases lo with
   | none=>simp at hlo
   | some y =>
    cases hi with
    | some z=>simp at hhi
    | none =>
     simp only [Option.map_some,Option.some.injEq] at hlo
     subst hlo
     exact (by simp [KR] at he)
  ·exact fp.j6 hs hd (Qb aI hs aB ho aQ h)
 ·exact fp.j6 hs hd (Qb aI hs aB ho aQ h)
end
end
section
open Go.RowKit
variable [GC]
section
variable {P:Program}{c:SC}{F:Nat->Prop}{σ:Nat->ST}{bm:Nat->Nat}{tm:Nat->Value}{a:Act}{w:World}{cx:Cx}{Γ:List VT}{gs:Gd}{ops:Array Oper}
theorem SP(hs:aM c F σ bm tm a w)(aB:bQ cx.tb.tab Γ c.env){o:Oper}(h:pY cx.tb.tab Γ ops σ o=some gs):Region.wanted o (yielded ops a.tmps)=true↔bE c.env gs:=by
 unfold pY at h
 unfold Region.wanted
 split at h
 ·rename_i hg
  simp only [Option.some.injEq] at h;subst h
  simp [hg,aP]
 ·rename_i j b hg
  rw [hg]
  simp only
  split at h
  ·rename_i d hd
   split at h
   ·rename_i g' k e hσ
    cases hb:fu .bool (e.inf cx.tb.tab Γ)<;>rw [hb] at h<;>simp at h
    subst h
    have hr:=hs.tmps d
    rw [hσ] at hr
    rw [Ge]
    unfold yielded
    rw [hd]
    simp only [Option.bind_some]
    by_cases hg':bE c.env g'
    ·obtain ⟨x,hx,hv⟩:=tq aB (nD hb) (hr.1 hg')
     have hv':a.tmps[d]? =some (.bool x):=by
      simp only [Array.getD_eq_getD_getElem?] at hv
      cases hq:a.tmps[d]? with
      | none=>rw [hq] at hv;simp [undef] at hv
      | some z=>rw [hq] at hv;simp at hv;rw [hv]
     rw [hv',hx]
     simp [hg']
    ·have hv:=hr.2 hg'
     simp only [Array.getD_eq_getD_getElem?] at hv
     have hv':a.tmps[d]? =none\/a.tmps[d]? =some (.tuple #[]):=by
      cases hq:a.tmps[d]? with
      | none=>exact .inl rfl
      | some z=>rw [hq] at hv;simp [undef] at hv;exact .inr (by rw [hv])
     rcases hv' with hv'|hv'<;>rw [hv']<;>simp [hg']
   ·simp at h
  ·simp at h
theorem Ij(aI:cL P cx.tb cx.tb=true)(hnt:c.nt=cx.nt)(hs:aM c F σ bm tm a w)(aB:bQ cx.tb.tab Γ c.env){g:Nat}(tR: ∀x,eG g x-> ¬F x){o:Oper}{aS:aU}(h:oZ cx ops Γ g o σ=some aS) :
  ∃gs,pY cx.tb.tab Γ ops σ o=some gs/\fp P c F σ bm tm a w g gs Γ.length o aS:=by
 have hg: ¬F g:=tR g (eG.self g)
 unfold oZ at h
 split at h
 ·simp at h
 ·rename_i gs hgs
  refine ⟨gs,hgs,?_⟩
  cases jJ:xB cx.nt o.dst with
  | false=>rw [jJ] at h;simp at h
  | true =>
   rw [jJ] at h
   simp only [cond_true] at h
   have hd: ∀d,o.dst=some d->d<c.nt:=fun d he=>by rw [he] at jJ;simp only [xB] at jJ;rw [hnt];exact Nat.le_of_ble_eq_true jJ
   split at h
   ·rename_i x ho;exact fp.j6 hs hd (Qa hs (.inl ho) h)
   ·rename_i x ho;exact fp.j6 hs hd (Qa hs (.inr ho) h)
   ·rename_i T x ho
    split at h
    ·rename_i ti aQ;exact fp.j6 hs hd (sLd aI hs hs.gi aB ho aQ h)
    ·simp at h
   ·rename_i T y x ho
    split at h
    ·rename_i ti aQ;exact sSt aI hs aB hg ho aQ h
    ·simp at h
   ·rename_i T x f ho
    split at h
    ·rename_i ti aQ;exact fp.j6 hs hd (acz aI hs ho aQ h)
    ·simp at h
   ·rename_i T x i ho
    split at h
    ·rename_i ti aQ;exact fp.j6 hs hd (acC aI hs aB ho aQ h)
    ·simp at h
   ·rename_i T x i ho
    split at h
    ·rename_i ti aQ;exact fp.j6 hs hd (acN aI hs aB ho aQ h)
    ·simp at h
   ·rename_i T x ho;exact aco aI hs aB hg ho hd h
   ·rename_i T ho
    split at h
    ·rename_i ti aQ;exact aci aI hs hg ho hd aQ h
    ·simp at h
   ·rename_i T parts ho
    split at h
    ·rename_i ti aQ;exact fp.j6 hs hd (acp aI hs aB ho aQ h)
    ·simp at h
   ·rename_i T l cc ho
    split at h
    ·rename_i ti aQ;exact acH aI hs aB tR ho hd aQ h
    ·simp at h
   ·rename_i T len parts ho
    split at h
    ·rename_i ti aQ
     cases hb:(Nat.blt 0 len&&gs.isEmpty) with
     | true=>rw [hb] at h;exact acq aI hs aB hg ho hd aQ h
     | false=>rw [hb] at h;exact fp.j6 hs hd (acr aI hs aB ho aQ h)
    ·simp at h
   ·rename_i T x lo hi ho
    split at h
    ·rename_i ti aQ;exact sSl aI hs aB hg ho hd aQ h
    ·simp at h
   ·rename_i S T x ho
    split at h
    ·rename_i si ti hsi aQ;exact fp.j6 hs hd (acw aI hs aB ho hsi aQ h)
    ·simp at h
   ·rename_i x i ho;exact fp.j6 hs hd (acx hs aB ho h)
   ·rename_i T x ho;exact fp.j6 hs hd (acL hs aB ho h)
   ·rename_i T x ho;exact fp.j6 hs hd (acI hs aB ho h)
   ·rename_i x y z ho;exact fp.j6 hs hd (acM hs aB ho h)
   ·rename_i f first gb ho;exact (by simp [CV] at h)
   ·rename_i x ho;exact fp.j6 hs hd (acK hs ho h)
   ·rename_i op T x y T' ho;exact fp.j6 hs hd (acn aI hs aB ho h)
   ·rename_i cl ho
    split at h
    ·rename_i f hcl
     split at h
     ·rename_i ti aQ
      split at h
      ·exact acJ hs aB hg ho hcl hd rfl h
      ·exact acs hs aB tR ho hcl hd rfl h
     ·simp at h
    ·rename_i t hcl
     split at h
     ·rename_i ti aQ;exact (by simp [KQ] at h)
     ·simp at h
    ·rename_i hcl
     split at h
     ·rename_i x T har hat
      split at h
      ·rename_i ti aQ;exact fp.j6 hs hd (sLen aI hs aB ho hcl har hat aQ h)
      ·simp at h
     ·simp at h
    ·rename_i hcl
     split at h
     ·rename_i x y T U har hat
      split at h
      ·rename_i ti ui aQ AW;exact acj aI hs aB tR ho hcl har hat hd aQ AW h
      ·simp at h
     ·simp at h
    ·simp at h
   ·simp at h
theorem EK(aI:cL P cx.tb cx.tb=true)(hnt:c.nt=cx.nt)(hs:aM c F σ bm tm a w)(aB:bQ cx.tb.tab Γ c.env){g i:Nat}(hg: ∀x,eG g x-> ¬F x){o:Oper}(hi:ops[i]? =some o){aS:aU}(h:oZ cx ops Γ g o σ=some aS)
  (hr: ∀r∈aS.rq,hO P c.env Γ.length r) {Q:Exit->Act->World->Prop} {K:Act->World->Prop} (hK: ∀cQ tm' a' w',aM c (fun x=>F x\/eG g x) (dm σ aS.wr) cQ tm' a' w'->K a' w'):wpOp P ops Q i K a w:=by
 obtain ⟨gs,hgs,hok⟩:=Ij aI hnt hs aB hg h
 unfold wpOp
 rw [hi]
 simp only
 by_cases hw:bE c.env gs
 ·rw [if_pos ((SP hs aB hgs).2 hw)]
  exact .inl (hok.1 hw hr K Q hK)
 ·rw [if_neg (fun e=>hw ((SP hs aB hgs).1 e))]
  exact hK _ _ _ _ (hok.2 hw)
def qD(P:Program)(env:List D):Nat->List aU->Prop
 | _,[]=>True
 | n,e::r=>(∀q∈e.rq,hO P env n q)/\qD P env (n+(ia e.rq).length) r
theorem bQ.C8{tab:Nat->List CT}{Γ Δ:List VT}{env:List D}(h:bQ tab (Γ++Δ) env):bQ tab Γ env:=fun i t ht=>h i t (by rw [List.getElem?_append_left (List.getElem?_eq_some_iff.1 ht).1];exact ht)
theorem wo{ops:Array Oper}: ∀{l:List Oper} {ss:SS} {es:List aU} {s:SS},jw cx ops l ss=some (es,s)-> ∃Δ,s.Γ=ss.Γ++Δ/\s.nt=ss.nt+j8*l.length/\s.lv=ss.lv
 | [],ss,es,s,h=>by simp [jw] at h;obtain ⟨_,rfl⟩:=h;exact ⟨[],by simp⟩
 | o::r,ss,es,s,h=>by
  simp only [jw] at h
  split at h
  ·simp at h
  ·rename_i e he
   split at h
   ·simp at h
   ·rename_i es' s' hrec
    simp only [Option.some.injEq,Prod.mk.injEq] at h
    obtain ⟨rfl,rfl⟩:=h
    obtain ⟨Δ,h1,h2,h3⟩:=wo hrec
    exact ⟨ia e.rq++Δ,by rw [h1];simp [SS.step],by rw [h2];simp only [SS.step,List.length_cons,Nat.mul_add];omega,by rw [h3];rfl⟩
theorem BJ(ss:SS)(e:aU):(ss.step e).σ.get=dm ss.σ.get e.wr:=Sg.Mb _ _
def below(n:Nat):Nat->Prop:=fun x=>x<n
theorem Qd(aI:cL P cx.tb cx.tb=true)(hnt:c.nt=cx.nt){Q:Exit->Act->World->Prop}: ∀(l:List Oper) (k:Nat) (ss:SS) (es:List aU) (s:SS),(∀j,l[j]? =ops[k+j]?)->jw cx ops l ss=some (es,s)->bQ cx.tb.tab s.Γ c.env->qD P c.env ss.Γ.length es ->
  (∀cQ tm' a' w',aM c (below s.nt) s.σ.get cQ tm' a' w'->Q .normal a' w')-> ∀bm tm a w,aM c (below ss.nt) ss.σ.get bm tm a w->wpOps P ops Q (List.range' k l.length) a w
 | [],k,ss,es,s,hl,h,aB,hr,hQ,bm,tm,a,w,hs=>by
  simp [jw] at h;obtain ⟨_,rfl⟩:=h
  exact hQ _ _ _ _ hs
 | o::r,k,ss,es,s,hl,h,aB,hr,hQ,bm,tm,a,w,hs=>by
  simp only [jw] at h
  split at h
  ·simp at h
  ·rename_i e he
   split at h
   ·simp at h
   ·rename_i es' s' hrec
    simp only [Option.some.injEq,Prod.mk.injEq] at h
    obtain ⟨rfl,rfl⟩:=h
    obtain ⟨Δ,h1,h2,_⟩:=wo hrec
    have vM:bQ cx.tb.tab ss.Γ c.env:=by
     rw [h1] at aB
     simp only [SS.step,List.append_assoc] at aB
     exact aB.C8
    simp only [List.length_cons,List.range'_succ]
    rw [wpOps_cons]
    refine EK aI hnt hs vM (g:=ss.nt) (fun x hx=>by have:=hx.1;simp only [below];omega) (by have:=hl 0;simpa using this.symm) he hr.1 fun cQ tm' a' w' hS=> ?_
    refine Qd aI hnt r (k+1) (ss.step e) es' s' (fun j=>by have:=hl (j+1);simpa [Nat.add_assoc,Nat.add_comm 1 j] using this) hrec aB (by
     have:=hr.2
     simpa [SS.step] using this) hQ cQ tm' a' w' ?_
    rw [BJ]
    exact hS.mono fun x hx=>by simp only [below,SS.step,eG] at *;omega
theorem abL(aI:cL P cx.tb cx.tb=true)(hnt:c.nt=cx.nt){Q:Exit->Act->World->Prop}{id:Nat}{ss s:SS}{es:List aU}(h:jw cx ops ops.toList ss=some (es,s))(aB:bQ cx.tb.tab s.Γ c.env)(hr:qD P c.env ss.Γ.length es)
  (hQ: ∀cQ tm' a' w',aM c (below s.nt) s.σ.get cQ tm' a' w'->Q .normal a' w') (hs:aM c (below ss.nt) ss.σ.get bm tm a w):(Code.region id ops false).wp P Q a w:=by
 refine wp_region ?_
 have:=Qd (ops:=ops) aI hnt ops.toList 0 ss es s (fun j=>by simp) h aB hr hQ bm tm a w hs
 rw [Array.length_toList, <-List.range_eq_range'] at this
 exact this
end
end
section
open Go.RowKit
variable [GC]
section
variable {tb:TB}{Γ:List VT}{gs:Gd}{σ bn:Nat->ST}{ops:Array Oper}
theorem Bu{T:Nat}{x:Operand}(h: ∀t,x= .tmp t->bn (3*t)=σ (3*t)):aT tb bn T x=aT tb σ T x:=by
 cases x with
 | tmp t=>simp only [aT,h t rfl]
 | _=>rfl
theorem OT{T:Nat}{x:Operand}{g:Gd}{id off:Nat}(h:aT tb σ T x=some (.ptr g id off)): ∃t,x= .tmp t/\σ (3*t)= .ptr g id off:=by
 cases x with
 | tmp t=>simp only [aT,Option.some.injEq] at h;exact ⟨t,rfl,h⟩
 | const v =>
  simp only [aT] at h
  unfold uQ at h
  (repeat' split at h)<;>simp at h
 | _=>simp [aT] at h
theorem abl{T:Nat}{x:Operand}{g0:Gd}{g n:Nat}{i:E}{off:Nat}(h:aT tb σ T x=some (.mp g0 g n i off)): ∃t,x= .tmp t/\σ (3*t)= .mp g0 g n i off:=by
 cases x with
 | tmp t=>simp only [aT,Option.some.injEq] at h;exact ⟨t,rfl,h⟩
 | const v =>
  simp only [aT] at h
  unfold uQ at h
  (repeat' split at h)<;>simp at h
 | _=>simp [aT] at h
theorem abj{T:Nat}{x:Operand}{gd:Gd}{g gv n:Nat}{i:E}{off:Nat}{j:E}{m o2:Nat}(h:aT tb σ T x=some (.ip gd g gv n i off j m o2)): ∃t,x= .tmp t/\σ (3*t)= .ip gd g gv n i off j m o2:=by
 cases x with
 | tmp t=>simp only [aT,Option.some.injEq] at h;exact ⟨t,rfl,h⟩
 | const v =>
  simp only [aT] at h
  unfold uQ at h
  (repeat' split at h)<;>simp at h
 | _=>simp [aT] at h
theorem abk{T:Nat}{x:Operand}{gd:Gd}{g gv n:Nat}{i:E}{off:Nat}{l:E}(h:aT tb σ T x=some (.iv gd g gv n i off l)): ∃t,x= .tmp t/\σ (3*t)= .iv gd g gv n i off l:=by
 cases x with
 | tmp t=>simp only [aT,Option.some.injEq] at h;exact ⟨t,rfl,h⟩
 | const v =>
  simp only [aT] at h
  unfold uQ at h
  (repeat' split at h)<;>simp at h
 | _=>simp [aT] at h
theorem abm{T:Nat}{x:Operand}{gs:Gd}{g:Nat}{e:E}(h:aT tb σ T x=some (.v gs (.own g) e)): ∃t,x= .tmp t/\σ (3*t)= .v gs (.own g) e:=by
 cases x with
 | tmp t=>simp only [aT,Option.some.injEq] at h;exact ⟨t,rfl,h⟩
 | const v =>
  simp only [aT] at h
  unfold uQ at h
  (repeat' split at h)<;>simp at h
 | _=>simp [aT] at h
structure Alike(ops:Array Oper)(o:Oper)(σ bn:Nat->ST):Prop where
 t: ∀t∈tmpsOf ops o,bn (3*t)=σ (3*t)
 p:looks o.op=true-> ∀t∈tmpsOf ops o,∀g id off,σ (3*t)= .ptr g id off->bn (3*id+1)=σ (3*id+1)
 r:looks o.op=true-> ∀t∈tmpsOf ops o,∀gs g e,σ (3*t)= .v gs (.own g) e->bn (3*g+2)=σ (3*g+2)
 ip:looks o.op=true-> ∀t∈tmpsOf ops o,∀gd g gv n i off j m o2,σ (3*t)= .ip gd g gv n i off j m o2->bn (3*g+2)=σ (3*g+2)
 iv:looks o.op=true-> ∀t∈tmpsOf ops o,∀gd g gv n i off l,σ (3*t)= .iv gd g gv n i off l->bn (3*g+2)=σ (3*g+2)
 m:looks o.op=true-> ∀t∈tmpsOf ops o,∀g0 g n i off,σ (3*t)= .mp g0 g n i off->bn (3*g+2)=σ (3*g+2)
theorem KJ: ∀{l:List Nat} {t:Nat},t∈l-> ∀{gd:Gd} {g gv n:Nat} {i:E} {off:Nat} {j:E} {m o2:Nat},σ (3*t)= .ip gd g gv n i off j m o2->3*g+2∈kE σ l
 | [],t,h,_,_,_,_,_,_,_,_,_,_=>by simp at h
 | x::r,t,h,gd,g,gv,n,i,off,j,m,o2,he=>by
  unfold kE
  rcases List.mem_cons.1 h with rfl|h
  ·rw [he];simp
  ·have:=KJ h he
   split<;>simp [this]
theorem KL: ∀{l:List Nat} {t:Nat},t∈l-> ∀{gd:Gd} {g gv n:Nat} {i:E} {off:Nat} {le:E},σ (3*t)= .iv gd g gv n i off le->3*g+2∈kE σ l
 | [],t,h,_,_,_,_,_,_,_,_=>by simp at h
 | x::r,t,h,gd,g,gv,n,i,off,le,he=>by
  unfold kE
  rcases List.mem_cons.1 h with rfl|h
  ·rw [he];simp
  ·have:=KL h he
   split<;>simp [this]
theorem KM: ∀{l:List Nat} {t:Nat},t∈l-> ∀{g0:Gd} {g n:Nat} {i:E} {off:Nat},σ (3*t)= .mp g0 g n i off->3*g+2∈kE σ l
 | [],t,h,_,_,_,_,_,_=>by simp at h
 | x::r,t,h,g0,g,n,i,off,he=>by
  unfold kE
  rcases List.mem_cons.1 h with rfl|h
  ·rw [he];simp
  ·have:=KM h he
   split<;>simp [this]
theorem KO: ∀{l:List Nat} {t:Nat},t∈l-> ∀{g:Gd} {id off:Nat},σ (3*t)= .ptr g id off->3*id+1∈kE σ l
 | [],t,h,_,_,_,_=>by simp at h
 | x::r,t,h,g,id,off,he=>by
  unfold kE
  rcases List.mem_cons.1 h with rfl|h
  ·rw [he];simp
  ·have:=KO h he
   split<;>simp [this]
theorem KN: ∀{l:List Nat} {t:Nat},t∈l-> ∀{gs:Gd} {g:Nat} {e:E},σ (3*t)= .v gs (.own g) e->3*g+2∈kE σ l
 | [],t,h,_,_,_,_=>by simp at h
 | x::r,t,h,gs,g,e,he=>by
  unfold kE
  rcases List.mem_cons.1 h with rfl|h
  ·rw [he];simp
  ·have:=KN h he
   split<;>simp [this]
theorem Alike.of{o:Oper}(h: ∀l∈readsOf ops σ o,bn l=σ l):Alike ops o σ bn where
 t:=fun t ht=>h _ (by unfold readsOf;simp only [List.mem_append,List.mem_map];exact .inl ⟨t,ht,rfl⟩)
 p:=fun hl t ht g id off he=>h _ (by unfold readsOf;rw [hl];simp only [List.mem_append,cond_true];exact .inr (KO ht he))
 r:=fun hl t ht gs g e he=>h _ (by unfold readsOf;rw [hl];simp only [List.mem_append,cond_true];exact .inr (KN ht he))
 ip:=fun hl t ht gd g gv n i off j m o2 he=>h _ (by unfold readsOf;rw [hl];simp only [List.mem_append,cond_true];exact .inr (KJ ht he))
 iv:=fun hl t ht gd g gv n i off l he=>h _ (by unfold readsOf;rw [hl];simp only [List.mem_append,cond_true];exact .inr (KL ht he))
 m:=fun hl t ht g0 g n i off he=>h _ (by unfold readsOf;rw [hl];simp only [List.mem_append,cond_true];exact .inr (KM ht he))
theorem nF{o:Oper}{x:Operand}{t:Nat}(hx:x∈o.op.operands.toList)(e:x= .tmp t):t∈tmpsOf ops o:=by
 unfold tmpsOf
 simp only [List.mem_append,List.mem_filterMap]
 exact .inl ⟨x,hx,by rw [e]⟩
theorem Xo{tab:Nat->List CT}{o:Oper}(h:Alike ops o σ bn):pY tab Γ ops bn o=pY tab Γ ops σ o:=by
 unfold pY
 cases hg:o.guard with
 | none=>rfl
 | some jb =>
  obtain ⟨j,b⟩:=jb
  simp only
  cases hd:(ops[j]?).bind (·.dst) with
  | none=>rfl
  | some d =>
   simp only
   rw [h.t d (by unfold tmpsOf;simp only [List.mem_append,hg];exact .inr (by simp [hd]))]
theorem WJ{tab:Nat->List CT}{dst:Option Nat}{ti:TI}{s:Option ST}(h: ∀g id off,s=some (.ptr g id off)->bn (3*id+1)=σ (3*id+1)):xI tab Γ gs dst bn ti s=xI tab Γ gs dst σ ti s:=by
 unfold xI
 cases hb:s.bind (under gs) with
 | none=>rfl
 | some st =>
  cases st with
  | ptr g id off =>
   simp only
   obtain ⟨st0,h1,h2⟩:=oJ hb
   rcases qu h2 with ⟨_,_,_,_,_,h3⟩|⟨g',i',o',rfl,_,h3⟩|⟨_,_,_,_,_,h3⟩<;>cases h3
   rw [h _ _ _ h1]
  | _=>rfl
theorem WI{dst:Option Nat}{ti:TI}{x:Operand}(h1:aT tb bn 0 x=aT tb σ 0 x)(h: ∀g id off,aT tb σ 0 x=some (.ptr g id off)->bn (3*id+1)=σ (3*id+1))(hm: ∀g0 g n i off,aT tb σ 0 x=some (.mp g0 g n i off)->bn (3*g+2)=σ (3*g+2))(hp: ∀gd g gv n i off j m o2,aT tb σ 0 x=some (.ip gd g gv n i off j m o2)->bn (3*g+2)=σ (3*g+2)):xH tb Γ gs dst bn ti x=xH tb Γ gs dst σ ti x:=by
 have hl:=WJ (tab:=tb.tab) (Γ:=Γ) (gs:=gs) (dst:=dst) (ti:=ti) h
 cases x with
 | global g=>rfl
 | _ =>
  simp only [xH]
  rw [h1]
  revert hl hm hp
  generalize aT tb σ 0 _=s
  intro hm hp hl
  split
  ·rfl
  ·rfl
  ·rfl
  ·exact hl
theorem WO{tab:Nat->List CT}{dst:Option Nat}{ti:TI}{s x:Option ST}(h: ∀g id off,s=some (.ptr g id off)->bn (3*id+1)=σ (3*id+1)):th tab Γ gs dst bn ti s x=th tab Γ gs dst σ ti s x:=by
 unfold th
 cases gs with
 | cons _ _=>rfl
 | nil =>
  cases dst with
  | some _=>rfl
  | none =>
   cases hb:s.bind (under []) with
   | none=>rfl
   | some st =>
    cases st with
    | ptr g id off =>
     obtain ⟨st0,h1,h2⟩:=oJ hb
     rcases qu h2 with ⟨_,_,_,_,_,h3⟩|⟨g',i',o',rfl,_,h3⟩|⟨_,_,_,_,_,h3⟩<;>cases h3
     cases hx:eA [] x with
     | none=>rfl
     | some ke =>
      obtain ⟨k,e⟩:=ke
      simp only
      rw [h _ _ _ h1]
    | _=>cases hx:eA [] x<;>rfl
theorem WN{dst:Option Nat}{g0:Nat}{ti:TI}{s x:Option ST}(hm: ∀g0 g n i off,s=some (.mp g0 g n i off)->bn (3*g+2)=σ (3*g+2))(hp: ∀gd g gv n i off j m o2,s=some (.ip gd g gv n i off j m o2)->bn (3*g+2)=σ (3*g+2))
  (ho: ∀gs g e,x=some (.v gs (.own g) e)->bn (3*g+2)=σ (3*g+2)) (he:th tb.tab Γ gs dst bn ti s x=th tb.tab Γ gs dst σ ti s x):xK tb Γ gs dst bn g0 ti s x=xK tb Γ gs dst σ g0 ti s x:=by
 unfold xK
 split
 ·rename_i g n i off
  unfold CU
  rw [hm _ _ _ _ _ rfl]
  cases hst:σ (3*g+2) with
  | live m =>
   obtain ⟨n',_|⟨e0,dp⟩⟩:=m
   ·rfl
   cases hu:eA [] x with
   | none=>rfl
   | some ke =>
    obtain ⟨k,e⟩:=ke
    obtain ⟨st,g',h1,h2⟩:=I9 hu
    have hk: ∀h',k= .own h'->bn (3*h'+2)=σ (3*h'+2):=by
     rintro h' rfl
     rcases qu h2 with ⟨g2,k2,e2,rfl,_,h3⟩|⟨_,_,_,_,_,h3⟩|⟨_,_,_,_,_,h3⟩<;>cases h3
     exact ho _ _ _ h1
    cases k with
    | own h' =>
     rcases dp with _|⟨gv,ms⟩
     ·rfl
     ·simp only [hk h' rfl]
    | _=>rfl
  | _=>rfl
 ·rfl
 ·exact he
theorem KX{fs:List (Nat×Nat)}: ∀{parts:List (Nat×Operand)} {cs:List (K×E)},(∀p∈parts,∀t,p.2= .tmp t->bn (3*t)=σ (3*t))->mr tb Γ gs bn fs parts cs=mr tb Γ gs σ fs parts cs
 | [],cs,_=>rfl
 | (f,x)::r,cs,h=>by
  unfold mr
  cases fs[f]? with
  | none=>rfl
  | some p =>
   obtain ⟨fo,ft⟩:=p
   simp only
   rw [Bu (fun t ht=>h (f,x) (by simp) t ht)]
   have ih: ∀cs,mr tb Γ gs bn fs r cs=mr tb Γ gs σ fs r cs:=fun cs=>KX fun p hp=>h p (by simp [hp])
   simp only [ih]
theorem KY{el:Nat}: ∀{parts:List (Nat×Operand)} {n:Nat} {acc:E},(∀p∈parts,∀t,p.2= .tmp t->bn (3*t)=σ (3*t))->kQ tb Γ gs bn el n parts acc=kQ tb Γ gs σ el n parts acc
 | [],n,acc,_=>rfl
 | (f,x)::r,n,acc,h=>by
  unfold kQ
  rw [Bu (fun t ht=>h (f,x) (by simp) t ht)]
  have ih: ∀n acc,kQ tb Γ gs bn el n r acc=kQ tb Γ gs σ el n r acc:=fun n acc=>KY fun p hp=>h p (by simp [hp])
  simp only [ih]
theorem zZ: ∀{xs:List Operand} {Ts:List Nat},(∀x∈xs,∀t,x= .tmp t->bn (3*t)=σ (3*t))->ji tb Γ gs bn xs Ts=ji tb Γ gs σ xs Ts
 | [],[],_=>rfl
 | [],_::_,_=>rfl
 | _::_,[],_=>rfl
 | x::xs,T::Ts,h=>by
  unfold ji
  rw [Bu (fun t ht=>h x (by simp) t ht),zZ fun y hy=>h y (by simp [hy])]
theorem WH{dst:Option Nat}{g:Nat}{rt:List (Nat×Nat)}{ti:TI}{f:Nat}{args:List Operand}{Ts:List Nat}(h: ∀x∈args,∀t,x= .tmp t->bn (3*t)=σ (3*t))(hp: ∀x∈args,∀t,x= .tmp t-> ∀g id off,σ (3*t)= .ptr g id off->bn (3*id+1)=σ (3*id+1)) :
  xE tb Γ gs dst bn g rt ti f args Ts=xE tb Γ gs dst σ g rt ti f args Ts:=by
 unfold xE
 cases args with
 | nil=>cases Ts<;>rfl
 | cons x xs =>
  cases Ts with
  | nil=>rfl
  | cons T Ts =>
   simp only
   rw [Bu (fun t ht=>h x (by simp) t ht)]
   cases hi:yM (aT tb σ T x) with
   | none=>simp only;rw [zZ h]
   | some gi =>
    obtain ⟨g,id⟩:=gi
    simp only
    have hx:bn (3*id+1)=σ (3*id+1):=by
     unfold yM at hi
     split at hi
     ·rename_i g2 NB hst
      simp only [Option.some.injEq,Prod.mk.injEq] at hi
      obtain ⟨rfl,rfl⟩:=hi
      obtain ⟨t,ht,hs⟩:=OT hst
      exact hp x (by simp) t ht _ _ _ hs
     ·simp at hi
    have e2:ji tb Γ gs bn xs Ts=ji tb Γ gs σ xs Ts:=zZ fun y hy=>h y (by simp [hy])
    have e3:xF tb Γ gs dst bn rt ti f xs Ts g id=xF tb Γ gs dst σ rt ti f xs Ts g id:=by unfold xF;rw [hx,e2]
    rw [hx,e3]
    have e:ji tb Γ [] bn xs Ts=ji tb Γ [] σ xs Ts:=zZ fun y hy=>h y (by simp [hy])
    rw [e]
theorem WG{dst:Option Nat}{g:Nat}{ti ui:TI}{s x:Option ST}(h: ∀gs g e,s=some (.v gs (.own g) e)->bn (3*g+2)=σ (3*g+2)):xD tb Γ gs dst bn g ti ui s x=xD tb Γ gs dst σ g ti ui s x:=by
 unfold xD
 cases gs with
 | cons _ _=>rfl
 | nil =>
  cases hu:eA [] s with
  | none=>rfl
  | some ke =>
   obtain ⟨k,e⟩:=ke
   obtain ⟨st,g',h1,h2⟩:=I9 hu
   have hk: ∀h',k= .own h'->bn (3*h'+2)=σ (3*h'+2):=by
    rintro h' rfl
    rcases qu h2 with ⟨g2,k2,e2,rfl,_,h3⟩|⟨_,_,_,_,_,h3⟩|⟨_,_,_,_,_,h3⟩<;>cases h3
    exact h _ _ _ h1
   rcases ti.vt with (⟨_|_|_|el⟩|_)|_<;>try rfl
   rcases ui.vt with (⟨_|_|_|xM⟩|_)|_<;>try rfl
   simp only
   cases eA [] x with
   | none=>rfl
   | some ZN =>
    obtain ⟨k',e'⟩:=ZN
    cases tb.get el with
    | none=>rfl
    | some ei =>
     simp only
     cases k with
     | own h'=>simp only [hk h' rfl]
     | _=>rfl
theorem WE{dst:Option Nat}{g:Nat}{ti ui:TI}{s x:Option ST}(h: ∀gs g e,s=some (.v gs (.own g) e)->bn (3*g+2)=σ (3*g+2))(hi: ∀gd g gv n i off l,x=some (.iv gd g gv n i off l)->bn (3*g+2)=σ (3*g+2)):xC tb Γ gs dst bn g ti ui s x=xC tb Γ gs dst σ g ti ui s x:=by
 unfold xC
 split
 ·rfl
 ·exact WG h
theorem WM{dst:Option Nat}{g:Nat}{ti:TI}{x:Option ST}{lo hi:Option (Option ST)}(h: ∀gs g e,x=some (.v gs (.own g) e)->bn (3*g+2)=σ (3*g+2)):xJ tb Γ gs dst bn g ti x lo hi=xJ tb Γ gs dst σ g ti x lo hi:=by
 unfold xJ
 split
 ·rfl
 ·rfl
theorem WK{tab:Nat->List CT}{dst:Option Nat}{f:Nat}{first xs:List Operand}(h: ∀x∈xs,∀t,x= .tmp t->bn (3*t)=σ (3*t))(hp: ∀x∈xs,∀t,x= .tmp t-> ∀gd id off,σ (3*t)= .ptr gd id off->bn (3*id+1)=σ (3*id+1)):CV tab Γ gs dst bn f first xs=CV tab Γ gs dst σ f first xs:=by
 rfl
theorem abh{cx:Cx}{g:Nat}{o:Oper}(h:Alike ops o σ bn):oZ cx ops Γ g o bn=oZ cx ops Γ g o σ:=by
 have hop: ∀(T:Nat) (x:Operand),x∈o.op.operands.toList->aT cx.tb bn T x=aT cx.tb σ T x:=fun T x hx=>Bu fun t ht=>h.t t (nF hx ht)
 have Ng:looks o.op=true-> ∀(T:Nat) (x:Operand),x∈o.op.operands.toList-> ∀g id off,aT cx.tb σ T x=some (.ptr g id off)->bn (3*id+1)=σ (3*id+1):=fun hl T x hx g id off he=>by
  obtain ⟨t,ht,hs⟩:=OT he
  exact h.p hl t (nF hx ht) _ _ _ hs
 have Ya:looks o.op=true-> ∀(T:Nat) (x:Operand),x∈o.op.operands.toList-> ∀gd g gv n i off l,aT cx.tb σ T x=some (.iv gd g gv n i off l)->bn (3*g+2)=σ (3*g+2):=fun hl T x hx gd g gv n i off l he=>by
  obtain ⟨t,ht,hs⟩:=abk he
  exact h.iv hl t (nF hx ht) _ _ _ _ _ _ _ hs
 have MP:looks o.op=true-> ∀(T:Nat) (x:Operand),x∈o.op.operands.toList-> ∀gd g gv n i off j m o2,aT cx.tb σ T x=some (.ip gd g gv n i off j m o2)->bn (3*g+2)=σ (3*g+2):=fun hl T x hx gd g gv n i off j m o2 he=>by
  obtain ⟨t,ht,hs⟩:=abj he
  exact h.ip hl t (nF hx ht) _ _ _ _ _ _ _ _ _ hs
 have hmp:looks o.op=true-> ∀(T:Nat) (x:Operand),x∈o.op.operands.toList-> ∀g0 g n i off,aT cx.tb σ T x=some (.mp g0 g n i off)->bn (3*g+2)=σ (3*g+2):=fun hl T x hx g0 g n i off he=>by
  obtain ⟨t,ht,hs⟩:=abl he
  exact h.m hl t (nF hx ht) _ _ _ _ _ hs
 have how:looks o.op=true-> ∀(T:Nat) (x:Operand),x∈o.op.operands.toList-> ∀gs g e,aT cx.tb σ T x=some (.v gs (.own g) e)->bn (3*g+2)=σ (3*g+2):=fun hl T x hx gs g e he=>by
  obtain ⟨t,ht,hs⟩:=abm he
  exact h.r hl t (nF hx ht) _ _ _ hs
 unfold oZ
 rw [Xo h]
 cases hgs:pY cx.tb.tab Γ ops σ o with
 | none=>rfl
 | some gs =>
  simp only
  congr 1
  cases ho:o.op with
  | move x=>simp only;rw [hop _ x (by simp [ho,Op.operands])]
  | assign x=>simp only;rw [hop _ x (by simp [ho,Op.operands])]
  | load T x =>
   simp only
   cases cx.tb.get T with
   | none=>rfl
   | some ti=>simp only;exact WI (hop _ x (by simp [ho,Op.operands])) (fun g id off he=>Ng (by rw [ho];rfl) 0 x (by simp [ho,Op.operands]) g id off he) (fun g0 g n i off he=>hmp (by rw [ho];rfl) 0 x (by simp [ho,Op.operands]) g0 g n i off he) fun gd g gv n i off j m o2 he=>MP (by rw [ho];rfl) 0 x (by simp [ho,Op.operands]) gd g gv n i off j m o2 he
  | store T y x =>
   simp only
   rw [hop _ y (by simp [ho,Op.operands]),hop _ x (by simp [ho,Op.operands])]
   cases cx.tb.get T with
   | none=>rfl
   | some ti=>simp only;exact WN (fun g0 g n i off he=>hmp (by rw [ho];rfl) 0 y (by simp [ho,Op.operands]) g0 g n i off he) (fun gd g gv n i off j m o2 he=>MP (by rw [ho];rfl) 0 y (by simp [ho,Op.operands]) gd g gv n i off j m o2 he) (fun gs g e he=>how (by rw [ho];rfl) T x (by simp [ho,Op.operands]) gs g e he) (WO fun g id off he=>Ng (by rw [ho];rfl) 0 y (by simp [ho,Op.operands]) g id off he)
  | fieldAddr T x f=>simp only;rw [hop _ x (by simp [ho,Op.operands])]
  | indexAddr T x i =>
   have hx:=hop T x (by simp [ho,Op.operands])
   have hi:=hop 0 i (by simp [ho,Op.operands])
   have hq: ∀ti,xG cx.tb Γ gs o.dst bn ti T x i=xG cx.tb Γ gs o.dst σ ti T x i:=by
    intro ti
    cases x<;>simp only [xG,hx,hi]
   simp only [hq]
  | index T x i=>simp only;rw [hop _ x (by simp [ho,Op.operands]),hop _ i (by simp [ho,Op.operands])]
  | box T x=>simp only;rw [hop _ x (by simp [ho,Op.operands])]
  | makeSlice T l cc=>simp only;rw [hop _ l (by simp [ho,Op.operands]),hop _ cc (by simp [ho,Op.operands])]
  | build T parts =>
   simp only
   cases cx.tb.get T with
   | none=>rfl
   | some ti =>
    simp only
    unfold CP
    cases ti.vt with
    | aE _=>rfl
    | one v =>
     cases v with
     | c _=>rfl
     | agg ts=>simp only;rw [KX fun p hp t ht=>h.t t (nF (x:=p.2) (by simp only [ho,Op.operands,List.mem_map];exact ⟨p,hp,rfl⟩) ht)]
  | buildSlice T len parts =>
   simp only
   cases cx.tb.get T with
   | none=>rfl
   | some ti =>
    simp only
    have vD: ∀gs' el,kQ cx.tb Γ gs' bn el 0 parts.toList (.bJ el)=kQ cx.tb Γ gs' σ el 0 parts.toList (.bJ el):=fun gs' el =>
     KY fun p hp t ht=>h.t t (nF (x:=p.2) (by simp only [ho,Op.operands,List.mem_map];exact ⟨p,hp,rfl⟩) ht)
    unfold CR CQ
    simp only [vD]
  | slice T x lo hi mx =>
   cases mx with
   | some _=>rfl
   | none =>
    simp only
    rw [hop _ x (by simp [ho,Op.operands])]
    have e1:lo.map (aT cx.tb bn 0)=lo.map (aT cx.tb σ 0):=by
     cases lo with
     | none=>rfl
     | some y=>simp only [Option.map_some];rw [hop _ y (by simp [ho,Op.operands])]
    have e2:hi.map (aT cx.tb bn 0)=hi.map (aT cx.tb σ 0):=by
     cases hi with
     | none=>rfl
     | some y=>simp only [Option.map_some];rw [hop _ y (by simp [ho,Op.operands])]
    rw [e1,e2]
    cases cx.tb.get T with
    | none=>rfl
    | some ti=>exact WM fun gs g e he=>how (by rw [ho];rfl) T x (by simp [ho,Op.operands]) gs g e he
  | convert S T x=>simp only;rw [hop _ x (by simp [ho,Op.operands])]
  | extract x i=>simp only;rw [hop _ x (by simp [ho,Op.operands])]
  | unOp op T x =>
   cases op<;>first|rfl|(simp only;rw [hop _ x (by simp [ho,Op.operands])])
  | pick x y z=>simp only;rw [hop _ x (by simp [ho,Op.operands]),hop _ y (by simp [ho,Op.operands]),hop _ z (by simp [ho,Op.operands])]
  | makeFunc fn first gb =>
   cases fn with
   | func f =>
    simp only
    have hc: ∀x∈gb.toList,x∈o.op.operands.toList:=fun x hx=>by rw [ho];simp only [Op.operands,Array.toList_append,List.mem_append];exact .inr hx
    exact WK (fun x hx t ht=>h.t t (nF (hc x hx) ht)) fun x hx t ht g id off he=>h.p (by rw [ho];rfl) t (nF (hc x hx) ht) _ _ _ he
   | _=>rfl
  | nilCheck x=>simp only;rw [hop _ x (by simp [ho,Op.operands])]
  | binOp op T x y T'=>simp only;rw [hop _ x (by simp [ho,Op.operands]),hop _ y (by simp [ho,Op.operands])]
  | call cl =>
   have hargs: ∀x∈cl.args.toList,x∈o.op.operands.toList:=fun x hx=>by
    rw [ho]
    simp only [Op.operands,Call.operands]
    cases cl.callee<;>simp<;>first|exact .inr (by simpa using hx)|(simpa using hx)
   simp only
   cases hcl:cl.callee with
   | invoke r m=>rfl
   | value f =>
    cases f with
    | func f =>
     simp only
     cases cx.tb.get o.type with
     | none=>rfl
     | some ti =>
      simp only
      cases NF ti with
      | some nb=>simp only;unfold eNew;rw [zZ fun x hx t ht=>h.t t (nF (hargs x hx) ht)]
      | none=>exact WH (fun x hx t ht=>h.t t (nF (hargs x hx) ht)) (fun x hx t ht g id off he=>h.p (by rw [ho];rfl) t (nF (hargs x hx) ht) _ _ _ he)
    | tmp t =>
     simp only
     have hx:aT cx.tb bn 0 (.tmp t)=aT cx.tb σ 0 (.tmp t):=hop 0 (.tmp t) (by simp [ho,Op.operands,Call.operands,hcl])
     rw [hx]
     cases cx.tb.get o.type with
     | none=>rfl
     | some ti=>rfl
    | _=>rfl
   | builtin b =>
    cases b with
    | len =>
     simp only
     split
     ·rename_i x T har hat
      rw [hop _ x (hargs x (by rw [har];simp))]
     ·rfl
    | append =>
     simp only
     split
     ·rename_i x y T U har hat
      rw [hop _ x (hargs x (by rw [har];simp)),hop _ y (hargs y (by rw [har];simp))]
      split
      ·exact WE (fun gs g e he=>how (by rw [ho];rfl) T x (hargs x (by rw [har];simp)) gs g e he) fun gd g gv n i off l he=>Ya (by rw [ho];rfl) U y (hargs y (by rw [har];simp)) gd g gv n i off l he
      ·rfl
     ·rfl
    | _=>rfl
  | _=>rfl
end
end
end Go.Proofs.YtimickglpboilaaGreatDoor
