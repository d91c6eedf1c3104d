/- Each operation does to a world what the executor says it does: boxes, stores, calls. No program in sight. -/
import Derived.Test.YtimickglpboilaaGreatDoorG3
set_option linter.unusedVariables false
set_option linter.unusedSimpArgs false
set_option linter.unusedSectionVars false
namespace Go.Proofs.YtimickglpboilaaGreatDoor
open Go.RowKit
variable [GC]
section
variable {P:Program}{c:SC}{F:Nat->Prop}{σ:Nat->ST}{bm:Nat->Nat}{tm:Nat->Value}{a:Act}{w:World}{tb:TB}{Γ:List VT}{gs:Gd}
def ef(g:Nat):Nat->Prop:=fun x=>g<=x/\x<g+jX
theorem ef.self(g:Nat):ef g g:=⟨Nat.le_refl _,by unfold jX;omega⟩
theorem aL.tag{g:Nat}(h:aL c (fun x=>F x\/x=g) σ bm tm a w):aL c (fun x=>F x\/ef g x) σ bm tm a w :=
 h.mono fun x hx=>hx.imp id (fun e=>by subst e;exact ef.self x)
def fc(P:Program)(c:SC)(F:Nat->Prop)(σ:Nat->ST)(bm:Nat->Nat)(tm:Nat->Value)(a:Act)(w:World)(g:Nat)(gs:Gd)(n:Nat)(o:Oper)(aP:aT):Prop :=
 (bB c.env gs->(∀r∈aP.rq,gU P c.env n r)-> ∀(K:Act->World->Prop) (Q:Exit->Act->World->Prop),
  (∀cG tm' a' w',aL c (fun x=>F x\/ef g x) (cY σ aP.wr) cG tm' a' w'->K a' w')->o.wp P a w K Q) /\
 (¬bB c.env gs->aL c (fun x=>F x\/ef g x) (cY σ aP.wr) bm tm (a.put o.dst undef) w)
theorem fc.jU(hs:aL c F σ bm tm a w){g n:Nat}{o:Oper}{aP:aT}(hd: ∀d,o.dst=some d->d<c.nt)(h:ia P c F gs σ bm tm a w n o aP):fc P c F σ bm tm a w g gs n o aP:=by
 obtain ⟨st,hwr,hst,hm,hrun⟩:=h
 refine ⟨fun hg hr K Q hK=> ?_,fun hg=> ?_⟩
 ·obtain ⟨v,w',h1,h2,h3⟩:=hrun hg hr
  unfold Oper.wp
  rw [h1]
  refine hK bm tm _ _ ?_
  rw [hwr]
  exact ((hs.grow h2).kT hd h3 hm).mono fun x hx=> .inl hx
 ·rw [hwr]
  exact (hs.kT hd (DX hst hg) hm).mono fun x hx=> .inl hx
theorem QY{l l':Nat}(h:l≠l')(s s':ST):aV (aV σ l s) l' s'=aV (aV σ l' s') l s:=by
 funext x
 simp only [aV]
 by_cases h1:x=l<;>by_cases h2:x=l'<;>simp_all
theorem BP{dst:Option Nat}{st s:ST}{g:Nat}:cY σ (wv dst st++[(3*g+1,s)])=cY (aV σ (3*g+1) s) (wv dst st):=by
 cases dst with
 | none=>rfl
 | some d=>exact QY (by omega) _ _
theorem Iq{M:Addr->Prop}{k:K}{e:E}{v:Value}(h:bD w M tm c.env k e v):ck w M tm c.env [(k,e)] [v]:=⟨v,[],rfl,h,rfl⟩
theorem Co(hs:aL c F σ bm tm a w){g:Nat}(hg: ¬F g){dst:Option Nat}(hd: ∀d,dst=some d->d<c.nt){cs:List (K×E)}{vs:List Value}{T:TypeId}(hv:ck w (MM c.M0 bm tm σ) tm c.env cs vs)(hm: ∀x,(∃y∈cs,y.1.has x)->F x) :
  aL c (fun x=>F x\/ef g x) (cY σ (wv dst (.ptr [] g 0)++[(3*g+1,.box cs)])) (aV bm g w.heap.size) tm (a.put dst (.pointer (some ⟨w.heap.size,0,none⟩))) (w.alloc (.cells vs.toArray T)):=by
 rw [BP]
 refine aL.tag ((hs.abp hg hv hm).kT hd ⟨fun _=>by rw [cm],fun h=>absurd (aK _) h⟩ fun x hx=> ?_)
 simp only [bX] at hx
 exact .inr hx
theorem acY(aH:cD P tb tb=true)(hs:aL c F σ bm tm a w)(aB:bL tb.tab Γ c.env){g n:Nat}(hg: ¬F g){o:Oper}{x:Operand}{T:Nat}(ho:o.op= .box T x)(hd: ∀d,o.dst=some d->d<c.nt){aP:aT}
  (h:Fv tb.tab Γ gs o.dst g (aQ tb σ T x)=some aP):fc P c F σ bm tm a w g gs n o aP:=by
 unfold Fv at h
 split at h
 ·rename_i k e hx
  have fe:=(cL hs hx).1 (aK _)
  have rJ:=(cL hs hx).2
  refine ⟨fun _ _ K Q hK=> ?_,fun hn=>absurd (aK _) hn⟩
  split at h
  ·rename_i t he
   simp only [Option.some.injEq] at h;subst h
   have hc:=(tz (E.cP aB e _ he) fe.rd).1
   have hrun:(execOp a.eval o).run P w= .ok (.value (.pointer (some ⟨w.heap.size,0,none⟩))) (w.alloc (.cells [a.eval x].toArray T)):=by
    simp [execOp,ho,Instr.box,newVar,newRow,hc]
   unfold Oper.wp;rw [hrun]
   exact hK _ _ _ _ (Co hs hg hd (Iq fe) fun y ⟨z,hz,hy⟩=>by simp at hz;subst hz;exact rJ y hy)
  ·rename_i ts he
   simp only [Option.some.injEq] at h;subst h
   obtain ⟨l,hl,hlt⟩:=gV (E.cP aB e _ he)
   have jl:=fe.rd
   rw [hl] at jl
   obtain ⟨vs,hvs,hrs⟩:=jl
   have hrun:(execOp a.eval o).run P w= .ok (.value (.pointer (some ⟨w.heap.size,0,none⟩))) (w.alloc (.cells vs.toList.toArray T)):=by
    simp [execOp,ho,Instr.box,newVar,newRow,hvs,Value.cells]
   unfold Oper.wp;rw [hrun]
   refine hK _ _ _ _ (Co hs hg hd (by rw [<-hlt.length];exact Ip hl hrs (by rw [hvs] at fe;simpa using fe)) fun y hy=>rJ y (ES hy))
  ·simp at h
 ·simp at h
theorem acT(aH:cD P tb tb=true)(hs:aL c F σ bm tm a w){g n:Nat}(hg: ¬F g){o:Oper}{T:Nat}(ho:o.op= .alloc T)(hd: ∀d,o.dst=some d->d<c.nt){ti:TI}(aM:tb.get T=some ti){aP:aT}
  (h:Fs gs o.dst g ti=some aP):fc P c F σ bm tm a w g gs n o aP:=by
 unfold Fs at h
 split at h
 ·rename_i v hv
  simp only [Option.some.injEq] at h;subst h
  refine ⟨fun _ _ K Q hK=> ?_,fun hn=>absurd (aK _) hn⟩
  have hno: ∀x,(∃y∈v.cells.map sA,y.1.has x)->F x:=fun y ⟨z,hz,hy⟩=>by
   simp only [List.mem_map] at hz
   obtain ⟨t,_,rfl⟩:=hz
   cases t<;>simp [sA,Go.Proofs.YtimickglpboilaaGreatDoor.K.has] at hy
  cases v with
  | c t =>
   obtain ⟨i,d,hi,_,_,⟨z,hz,hzv⟩,_⟩:=eZ aH aM hv
   have Bd:=(EA (w:=w) (M:=MM c.M0 bm tm σ) (tm:=tm) (c:=c) hzv).2
   have Zm:z.cells= #[z]:=by cases t<;>cases z<;>simp [zeroV] at hzv<;>rfl
   have hrun:(execOp a.eval o).run P w= .ok (.value (.pointer (some ⟨w.heap.size,0,none⟩))) (w.alloc (.cells [z].toArray T)):=by
    simp [execOp,ho,Instr.alloc,zeroValue,run_typeInfo hi,hz,newVar,newRow,Zm]
   unfold Oper.wp;rw [hrun]
   exact hK _ _ _ _ (Co hs hg hd (cs:=[sA t]) (Iq Bd) hno)
  | agg ts =>
   obtain ⟨i,f,cs,hi,_,_,hz,hzv,_⟩:=kY aH aM hv
   have Bd:=(EB (w:=w) (M:=MM c.M0 bm tm σ) (tm:=tm) (c:=c) hzv).2
   have hrun:(execOp a.eval o).run P w= .ok (.value (.pointer (some ⟨w.heap.size,0,none⟩))) (w.alloc (.cells cs.toList.toArray T)):=by
    simp [execOp,ho,Instr.alloc,zeroValue,run_typeInfo hi,hz,newVar,newRow,Value.cells]
   unfold Oper.wp;rw [hrun]
   exact hK _ _ _ _ (Co hs hg hd Bd hno)
 ·simp at h
theorem adr(aH:cD P tb tb=true)(hs:aL c F σ bm tm a w)(aB:bL tb.tab Γ c.env){g n:Nat}{o:Oper}{y x:Operand}{T T1 T2:Nat}(ho:o.op= .store T y x){ti:TI}(aM:tb.get T=some ti){aP:aT}
  (h:tA tb.tab Γ gs o.dst σ ti (aQ tb σ T1 y) (aQ tb σ T2 x)=some aP):fc P c F σ bm tm a w g gs n o aP:=by
 unfold tA at h
 split at h
 ·rename_i dst g' id off k e jB hy hx
  obtain ⟨st,h2,h3⟩:=oT hy
  have hp:=zp h3 (mO hs h2).1 (aK _)
  have fe:=(cL hs hx).1 (aK _)
  have rJ:=(cL hs hx).2
  refine ⟨fun _ _ K Q hK=> ?_,fun hn=>absurd (aK _) hn⟩
  split at h
  ·rename_i cs eI
   obtain ⟨vs,T0,hblk,hrel,jy⟩:=hs.box id cs eI
   have hgo: ∀(news:List (Go.Proofs.YtimickglpboilaaGreatDoor.K×E)) (vals:List Value) (i:TypeInfo),P.info? T=some i->(a.eval x).cells.toList=vals->vals.length=i.size->(∀v∈vals,v.oneCell'=true)->off+vals.length<=cs.length->ck w (MM c.M0 bm tm σ) tm c.env news vals->(∀q,(∃z∈news,z.1.has q)->F q) ->
     aP=⟨[(3*id+1,.box (iQ cs off news))],[]⟩->o.wp P a w K Q:=by
    intro news vals i hi hcl rH hone hle hnew hnm AA
    subst AA
    have hlen:=hrel.length
    obtain ⟨w',h1,h4,h5⟩:=zi (P:=P) (bm id) T0 vals w vs.toArray off 0 hblk hone (by simp;omega)
    have hsz:(a.eval x).cells.size=i.size:=by rw [<-Array.length_toList,hcl,rH]
    have hrun:(execOp a.eval o).run P w= .ok .skip w':=by
     simp [execOp,ho,hp,Instr.storeAt,Instr.sureAddr,storeVar,run_sizeOf hi,hsz,hcl,h1]
    unfold Oper.wp;rw [hrun]
    simp only [Oper.upon,jB,Act.put]
    refine hK bm tm a w' (aL.mono (F:=F) ?_ fun x hx=> .inl hx)
    refine hs.D9 eI (Fr.DR h5 (jy.imp (fun h=>h) (fun h=>h.2))) (fun k _ hk=>h5.block k hk) (fun M' jf hk=> ?_) fun q ⟨z,hz,hq⟩=> ?_
    ·refine ⟨(fH vs.toArray off vals).toList,T0,by simpa using h4,?_,jy⟩
     rw [wH]
     exact ck.keep (tm':=tm) hk (fun _ _=>rfl) (ck.iQ hnew off hrel)
    ·rcases Hw _ _ _ hz with hz|hz
     ·exact hs.f1 (3*id+1) q (by rw [eI];exact ⟨z,hz,hq⟩)
     ·exact hnm q ⟨z,hz,hq⟩
   split at h
   ·rename_i t t' hv he
    split at h
    ·rename_i hoff
     simp only [Option.some.injEq] at h
     obtain ⟨i,d,hi,hsz,_⟩:=eZ aH aM hv
     obtain ⟨hc1,hc2⟩:=tz (E.cP aB e _ he) fe.rd
     exact hgo [(k,e)] [a.eval x] i hi (by rw [hc1]) (by simp [hsz]) (by simpa using hc2) (by simp only [List.length_cons,List.length_nil];omega) (Iq fe) (fun q ⟨z,hz,hq⟩=>by simp at hz;subst hz;exact rJ q hq) (by rw [<-h];rfl)
    ·simp at h
   ·rename_i ts us hv he
    split at h
    ·rename_i hc
     simp only [Option.some.injEq] at h
     obtain ⟨i,f,z,hi,hsz,_⟩:=kY aH aM hv
     obtain ⟨l,hl,hlt⟩:=gV (E.cP aB e _ he)
     have jl:=fe.rd
     rw [hl] at jl
     obtain ⟨BU,rL,hrs⟩:=jl
     have hl1:=hrs.length
     have fD:=hlt.length
     refine hgo (apart k ts.length e) BU.toList i hi (by rw [rL];rfl) (by rw [hl1,fD,hsz];exact hc.1.symm) (Cy hlt hrs) (by rw [hl1,fD, <-hc.1];exact hc.2) ?_ (fun q hq=>rJ q (ES hq)) h.symm
     rw [hc.1, <-fD];exact Ip hl hrs (by rw [rL] at fe;simpa using fe)
    ·simp at h
   ·simp at h
  ·simp at h
 ·simp at h
def gG(σ:Nat->ST):Option Nat->Nat->ST
 | none=>σ
 | some h=>aV σ (3*h+2) .un
theorem KJ{oh:Option Nat}(t:Nat):gG σ oh (3*t)=σ (3*t):=by cases oh<;>simp only [gG];exact BQ _ _ _
theorem uY{oh:Option Nat}(id:Nat):gG σ oh (3*id+1)=σ (3*id+1):=by cases oh<;>simp only [gG];exact nY _ _ _
theorem oX{oh:Option Nat}{g:Nat}{n:LV}(h:gG σ oh (3*g+2)= .live n):σ (3*g+2)= .live n/\oh≠some g:=by
 cases oh with
 | none=>exact ⟨h,by simp⟩
 | some k =>
  simp only [gG] at h
  by_cases e:g=k
  ·subst e;rw [cm] at h;cases h
  ·rw [jL _ e] at h;exact ⟨h,fun x=>e (by simpa using x.symm)⟩
theorem KI{oh:Option Nat}{l x:Nat}(h:bX (gG σ oh l) x):bX (σ l) x:=by
 cases oh with
 | none=>exact h
 | some k =>
  simp only [gG] at h
  by_cases e:l=3*k+2
  ·subst e;rw [cm] at h;exact h.elim
  ·rwa [dW _ _ e] at h
theorem kC.congr{tm':Nat->Value}{g:Nat}{n:LV}{p:Addr}(ht:tm' g=tm g)(hv: ∀x,bX (.live n) x->tm' x=tm x)(h:kC tm' g n p):kC tm g n p:=by
 unfold kC at *
 rw [ht] at h
 rcases h with h|⟨e,gv,ms,cells,u,h1,h2,h3⟩
 ·exact .inl h
 ·exact .inr ⟨e,gv,ms,cells,u,h1,by rw [<-hv gv ⟨e,ms,h1⟩];exact h2,h3⟩
theorem aL.Qk{w':World}(hs:aL c F σ bm tm a w){F':Nat->Prop}{g:Nat}{n0 n':LV}(oh:Option Nat)(hg:σ (3*g+2)= .live n0)(hb0:n0.body≠none)
  (ub: ∀h,oh=some h->h≠g/\ ∃nh,σ (3*h+2)= .live nh/\nh.body≠none) {tm':Nat->Value} (gh: ∀x,F x->tm' x=tm x) (hF: ∀x,F x->F' x)
  (hblk: ∀b,cR tm' g n' b->cR tm g n0 b\/ ∃h nh,oh=some h/\σ (3*h+2)= .live nh/\cR tm h nh b)
  (hfr:Fr c.B c.X w w') (eE: ∀k,k<w.heap.size-> ¬cR tm g n0 k->w'.heap[k]? =w.heap[k]?)
  (hok:lE c w' tm' g n') (rJ: ∀x,bX (.live n') x->F' x) :
  aL c F' (aV (gG σ oh) (3*g+2) (.live n')) bm tm' a w':=by
 have hlo: ∀x m,x≠g->aV (gG σ oh) (3*g+2) (.live n') (3*x+2)= .live m->σ (3*x+2)= .live m/\oh≠some x:=fun x m e h=>by
  rw [jL _ e] at h;exact oX h
 have hbx: ∀id cs,aV (gG σ oh) (3*g+2) (.live n') (3*id+1)= .box cs->σ (3*id+1)= .box cs:=fun id cs h=>by
  rw [nY,uY] at h;exact h
 have dI: ∀x m,σ (3*x+2)= .live m->tm' x=tm x/\ ∀y,bX (.live m) y->tm' y=tm y:=fun x m h=>⟨gh x (hs.f3 x m h),fun y hy=>gh y (hs.f1 (3*x+2) y (by rw [h];exact hy))⟩
 have hM: ∀p,MM c.M0 bm tm' (aV (gG σ oh) (3*g+2) (.live n')) p->MM c.M0 bm tm σ p:=by
  rintro p (h|⟨id,cs,h1,h2⟩|⟨x,m,h1,h2⟩)
  ·exact .inl h
  ·exact .inr (.inl ⟨id,cs,hbx id cs h1,h2⟩)
  ·by_cases e:x=g
   ·subst e;rw [cm] at h1;simp at h1;subst h1
    rcases hblk _ (DS h2) with h|⟨h',nh,q1,q2,q3⟩
    ·exact .inr (.inr ⟨x,_,hg,Ih hb0 h⟩)
    ·obtain ⟨_,nh',q4,q5⟩:=ub h' q1
     rw [q2] at q4;cases q4
     exact .inr (.inr ⟨h',nh,q2,Ih q5 q3⟩)
   ·obtain ⟨q1,_⟩:=hlo x m e h1
    exact .inr (.inr ⟨x,m,q1,kC.congr (dI x m q1).1 (dI x m q1).2 h2⟩)
 have hk:bb w (MM c.M0 bm tm σ) w' (MM c.M0 bm tm' (aV (gG σ oh) (3*g+2) (.live n'))):=fun p v hp hn=>by
  refine ⟨?_,fun h=>hn (hM p h)⟩
  rw [<-hp]
  exact World.cell?_of_block (eE _ (block_lt_of_cell hp) fun hb=>hn (.inr (.inr ⟨g,_,hg,Ih hb0 hb⟩)))
 have hb1: ∀id cs b,σ (3*id+1)= .box cs->cR tm' g n' b->bm id≠b:=fun id cs b h hb=>by
  rcases hblk b hb with h1|⟨h',nh,_,q2,q3⟩
  ·exact hs.iz id cs g n0 b h hg h1
  ·exact hs.iz id cs h' nh b h q2 q3
 have hb2: ∀x m b b',x≠g->oh≠some x->σ (3*x+2)= .live m->cR tm x m b->cR tm' g n' b'->b≠b':=fun x m b b' e hx h hb hb'=>by
  rcases hblk b' hb' with h1|⟨h',nh,q1,q2,q3⟩
  ·exact hs.iA x m g n0 b b' h hg e hb h1
  ·exact hs.iA x m h' nh b b' h q2 (fun e'=>hx (by rw [e'];exact q1)) hb q3
 refine hs.turn (fun t=>by rw [BQ,KJ]) (fun x hx=>⟨rfl,gh x hx⟩) hF hfr hk ?_ ?_ ?_ ?_ ?_ ?_ ?_ ?_
 ·intro id cs h
  have h:=hbx id cs h
  exact (hs.box id cs h).keep hk rfl (eE _ (hs.box id cs h).lt fun hb=>hs.iz id cs g n0 _ h hg hb rfl) fun x hx=>gh x (hs.f1 (3*id+1) x (by rw [h];exact hx))
 ·intro x m h
  by_cases e:x=g
  ·subst e;rw [cm] at h;simp at h;subst h;exact hok
  ·obtain ⟨q1,_⟩:=hlo x m e h
   exact (hs.live x m q1).keep (fun b hb=>eE _ ((hs.live x m q1).lt hb) fun hb'=>hs.iA x m g n0 b b q1 hg e hb hb' rfl) (dI x m q1).1 (dI x m q1).2
 ·intro id id' cs cs' h h'
  exact hs.kp id id' cs cs' (hbx _ _ h) (hbx _ _ h')
 ·intro id cs x m b h hx hb
  by_cases e:x=g
  ·subst e;rw [cm] at hx;simp at hx;subst hx;exact hb1 id cs b (hbx _ _ h) hb
  ·obtain ⟨q1,_⟩:=hlo x m e hx
   exact hs.iz id cs x m b (hbx _ _ h) q1 ((cR.congr (dI x m q1).1 (dI x m q1).2).1 hb)
 ·intro x m y m' b b' hx hy hne hb hb'
  by_cases e:x=g<;>by_cases e':y=g
  ·exact absurd (e.trans e'.symm) hne
  ·subst e;rw [cm] at hx;simp at hx;subst hx
   obtain ⟨q1,q2⟩:=hlo y m' e' hy
   exact (hb2 y m' b' b e' q2 q1 ((cR.congr (dI y m' q1).1 (dI y m' q1).2).1 hb') hb).symm
  ·subst e';rw [cm] at hy;simp at hy;subst hy
   obtain ⟨q1,q2⟩:=hlo x m e hx
   exact hb2 x m b b' e q2 q1 ((cR.congr (dI x m q1).1 (dI x m q1).2).1 hb) hb'
  ·obtain ⟨q1,_⟩:=hlo x m e hx
   obtain ⟨p1,_⟩:=hlo y m' e' hy
   exact hs.iA x m y m' b b' q1 p1 hne ((cR.congr (dI x m q1).1 (dI x m q1).2).1 hb) ((cR.congr (dI y m' p1).1 (dI y m' p1).2).1 hb')
 ·intro l x h
  by_cases e:l=3*g+2
  ·subst e;rw [cm] at h;exact rJ x h
  ·rw [dW _ _ e] at h;exact hF _ (hs.f1 l x (KI h))
 ·intro id cs h;exact hF _ (hs.f2 id cs (hbx _ _ h))
 ·intro x m h
  by_cases e:x=g
  ·subst e;exact hF _ (hs.f3 x n0 hg)
  ·exact hF _ (hs.f3 x m (hlo x m e h).1)
theorem adx{α:Type}{l r:List α}{off:Nat}(hr:off+r.length<=l.length): ∀j x,(oM l off r)[j]? =some x->(off<=j/\j<off+r.length/\r[j-off]? =some x)\/((j<off\/off+r.length<=j)/\l[j]? =some x):=by
 intro j x h
 rw [BD] at h
 split at h
 ·rename_i hc;exact .inl ⟨hc.1,hc.2.1,h⟩
 ·rename_i hc
  refine .inr ⟨?_,h⟩
  have:=(List.getElem?_eq_some_iff.1 h).1
  omega
theorem adv(C:Array Value)(o:Nat)(vals:List Value)(x:Nat):(fH C o vals)[x]? =if o<=x/\x<o+vals.length/\x<C.size then vals[x-o]? else C[x]? :=by
 have: ∀(l:List Value) (cs:List Value) (q:Nat),iQ cs q l=oM cs q l:=by
  intro l
  induction l with
  | nil=>intro cs q;rfl
  | cons y l ih=>intro cs q;simp [iQ,oM,ih]
 rw [<-Array.getElem?_toList,wH,this,BD]
 simp
theorem om.aV{w':World}{v:Value}{n:Nat}{Q Q':Nat->Nat->D->Value->Prop}{d0:D}{k off:Nat}{l:List D}(hb:om w v n Q d0){b o len cap:Nat}(hv:v= .slice (some ⟨b,o,none⟩) len cap)(hk:k<len){C:Array Value}{T:TypeId}
  {vals:List Value} (hw:w.heap[b]? =some (.cells C T (0,0))) (hl:vals.length=l.length) (hoff:off+vals.length<=n) (hsz:o+cap*n<=C.size)
  (hnew: ∀(j:Nat) (d:D),l[j]? =some d-> ∃u,vals[j]? =some u/\Q' k (off+j) d u) (hold: ∀(i j:Nat) (d:D) (u:Value),j<n->i≠k\/j<off\/off+l.length<=j->Q i j d u->Q' i j d u)
  (hw':w'.heap[b]? =some (.cells (fH C (o+k*n+off) vals) T (0,0))):om w' v n Q' (.sl (mZ d0.mc k off l)):=by
 obtain ⟨a',len',cap',rows,h1,h2,h3,h4,h5,h6,h7,h8⟩:=hb
 rw [hv] at h1
 simp only [Value.slice.injEq] at h1
 obtain ⟨rfl,rfl,rfl⟩:=h1
 subst h2
 have hkl:k<rows.length:=by omega
 have p2:rows[k]? =some rows[k]:=List.getElem?_eq_getElem hkl
 have p3:rows[k].length=n:=h7 _ (List.getElem_mem hkl)
 have p6:=(h8 b o none rfl).2 k _ p2
 refine ⟨_,len,cap,mZ rows k off l,hv,rfl,by simp [mZ];exact h3,h4,h5,h6,?_,fun b' o' s' he=>⟨fun _=>by cases he;rfl,?_⟩⟩
 ·intro z hz
  unfold mZ at hz
  rcases List.mem_or_eq_of_mem_set hz with h|h
  ·exact h7 z h
  ·subst h;rw [DL];simpa [List.getD,p2] using p3
 ·cases he
  intro x z hz j d hj
  have hx:x<rows.length:=by
   have:=(List.getElem?_eq_some_iff.1 hz).1
   simpa [mZ] using this
  have hw0: ∀q,w.cell? ⟨b,q,none⟩=C[q]? :=fun q=>cell_of_row w b q _ T _ hw
  have hw1: ∀q,w'.cell? ⟨b,q,none⟩=(fH C (o+k*n+off) vals)[q]? :=fun q=>cell_of_row w' b q _ T _ hw'
  have hzl:z.length=n:=by
   have:z∈mZ rows k off l:=List.mem_of_getElem? hz
   unfold mZ at this
   rcases List.mem_or_eq_of_mem_set this with h|h
   ·exact h7 z h
   ·subst h;rw [DL];simpa [List.getD,p2] using p3
  have hjn:j<n:=by rw [<-hzl];exact (List.getElem?_eq_some_iff.1 hj).1
  rw [hw1,adv]
  unfold mZ at hz
  rw [List.getElem?_set] at hz
  by_cases e:k=x
  ·subst e
   rw [if_pos rfl,if_pos hx] at hz
   simp only [Option.some.injEq] at hz
   subst hz
   simp only [List.getD,p2,Option.getD_some] at hj
   rcases adx (by rw [<-hl,p3];exact hoff) j d hj with ⟨q1,q2,q3⟩|⟨q1,q2⟩
   ·obtain ⟨u,hu,hlf⟩:=hnew _ d q3
    refine ⟨u,?_,by rwa [show off+(j-off)=j by omega] at hlf⟩
    have hb2:k*n+n<=cap*n:=by
     have:(k+1)*n<=cap*n:=Nat.mul_le_mul_right _ (by omega)
     rwa [Nat.add_mul,Nat.one_mul] at this
    rw [if_pos (by omega), <-hu]
    congr 1;omega
   ·obtain ⟨u,hu,hlf⟩:=p6 j d q2
    refine ⟨u,?_,hold _ _ _ _ hjn (.inr q1) hlf⟩
    rw [hw0] at hu
    rw [if_neg (by omega)];exact hu
  ·rw [if_neg e] at hz
   obtain ⟨u,hu,hlf⟩:=(h8 b o none rfl).2 x z hz j d hj
   refine ⟨u,?_,hold _ _ _ _ hjn (.inl (fun h=>e h.symm)) hlf⟩
   rw [hw0] at hu
   have hne: ¬(o+k*n+off<=o+x*n+j/\o+x*n+j<o+k*n+off+vals.length/\o+x*n+j<C.size):=by
    rintro ⟨g1,g2,_⟩
    rcases Nat.lt_or_gt_of_ne e with h|h
    ·have:(k+1)*n<=x*n:=Nat.mul_le_mul_right _ h
     rw [Nat.add_mul,Nat.one_mul] at this
     omega
    ·have:(x+1)*n<=k*n:=Nat.mul_le_mul_right _ h
     rw [Nat.add_mul,Nat.one_mul] at this
     omega
   rw [if_neg hne];exact hu
theorem oR.store{w':World}{B n b:Nat}{v:Value}{C:Array Value}{T:TypeId}{o:Nat}{vals:List Value}(h:oR B w v n)(h1:gx w w' b)(hw:w.heap[b]? =some (.cells C T (0,0)))(hw':w'.heap[b]? =some (.cells (fH C o vals) T (0,0))):oR B w' v n:=fun b' o' s len cap he hl=>by
 obtain ⟨q1,q2,cells,T',q3,q4⟩:=h b' o' s len cap he hl
 refine ⟨q1,q2,?_⟩
 by_cases e:b'=b
 ·subst e
  rw [hw] at q3
  simp only [Option.some.injEq,Obj.cells.injEq] at q3
  obtain ⟨rfl,rfl,_⟩:=q3
  exact ⟨_,T,hw',by rw [BG];exact q4⟩
 ·exact ⟨cells,T',by rw [h1.block _ e];exact q3,q4⟩
theorem Hq{tab:Nat->List CT}{t:CT}{d:D}{v:Value}{M:Addr->Prop}(ht:bM tab t d)(hl:qq t=true)(h:R w M d v):sD d v:=by
 cases t with
 | bool=>obtain ⟨b,rfl⟩:=nF ht;exact fun _ _=>h
 | int k=>obtain ⟨n,rfl⟩:=oA ht;exact fun _ _=>h
 | str=>obtain ⟨s,rfl⟩:=mD ht;exact fun _ _=>h
 | sl e=>simp [qq] at hl
 | mem=>simp [qq] at hl
 | fn=>simp [qq] at hl
theorem Ob{tab:Nat->List CT}{M:Addr->Prop}: ∀{ts:List CT} {l:List D} {vs:List Value},bf tab ts l->rQ ts=true->Rs w M l vs-> ∀(j:Nat) (d:D),l[j]? =some d-> ∃u,vs[j]? =some u/\sD d u
 | [],[],_,_,_,_,j,d,hd=>by simp at hd
 | t::ts,d::ds,vs,ht,hl,⟨u,q,e,h1,h2⟩,j,d',hd=>by
  subst e
  simp only [bf] at ht
  simp only [rQ,List.all_cons,Bool.and_eq_true] at hl
  cases j with
  | zero=>simp at hd;subst hd;exact ⟨u,rfl,Hq ht.1 hl.1 h1⟩
  | succ j=>simp at hd;simpa using Ob ht.2 hl.2 h2 j d' hd
 | [],_::_,_,h,_,_,_,_,_=>by simp [bf] at h
 | _::_,[],_,h,_,_,_,_,_=>by simp [bf] at h
theorem abl{n i j k off:Nat}(hj:j<n)(ho:off<n)(h:i*n+j=k*n+off):i=k/\j=off:=by
 rcases Nat.lt_trichotomy i k with e|e|e
 ·have:(i+1)*n<=k*n:=Nat.mul_le_mul_right _ e
  rw [Nat.add_mul,Nat.one_mul] at this
  omega
 ·subst e;omega
 ·have:(k+1)*n<=i*n:=Nat.mul_le_mul_right _ e
  rw [Nat.add_mul,Nat.one_mul] at this
  omega
theorem adh(aH:cD P tb tb=true)(hs:aL c F σ bm tm a w)(aB:bL tb.tab Γ c.env){g0 n:Nat}(hg0: ¬F g0){o:Oper}{y x:Operand}{T T1 T2:Nat}(ho:o.op= .store T y x)(jB:o.dst=none){ti:TI}(aM:tb.get T=some ti){g m:Nat}{i:E}{off:Nat}(hy:aQ tb σ T1 y=some (.mp [] g m i off)){aP:aT}
  (h:CJ tb Γ σ g0 ti g m i off (aQ tb σ T2 x)=some aP):fc P c F σ bm tm a w g0 [] n o aP:=by
 unfold CJ at h
 split at h
 ·rename_i n' e dp k ex hlv hx
  split at h
  ·rename_i el mL
   split at h
   ·rename_i hc
    obtain ⟨rfl,hn⟩:=hc
    obtain ⟨h4,_⟩:=mO hs hy
    obtain ⟨b,o',len,cap,q1,q2,q3,q4⟩:=h4.1 (aK _)
    have fe:=(cL hs hx).1 (aK _)
    have iC:=hs.live g _ hlv
    obtain ⟨_,_,amy,r0,e0,hd0,hr0,akd,_,_,hlc,_⟩:=PG (iC.bd e dp rfl) q1 q3
    have hcap:0<cap:=by omega
    have Ar:bi (tm g) b:=⟨o',none,len,cap,q1,hcap⟩
    obtain ⟨_,Ag,C,T0,hblk,hsz⟩:=iC.sp b o' none len cap q1 hcap
    simp only at hsz
    have iB: ∀r:E,(E.aV e i r off).den c.env= .sl (mZ (e.den c.env).mc (i.den c.env).cw.toNat off (r.den c.env).il):=fun _=>rfl
    have hb2:(i.den c.env).cw.toNat*m+m<=cap*m:=by
     have:((i.den c.env).cw.toNat+1)*m<=cap*m:=Nat.mul_le_mul_right _ (by omega)
     rwa [Nat.add_mul,Nat.one_mul] at this
    have hst: ∀(vals:List Value) (i':TypeInfo),P.info? T=some i'->(a.eval x).cells.toList=vals->vals.length=i'.size->(∀v∈vals,v.oneCell'=true)->off+vals.length<=m ->
      ∃w',(execOp a.eval o).run P w= .ok .skip w'/\w'.heap[b]? =some (.cells (fH C (o'+(i.den c.env).cw.toNat*m+off) vals) T0 (0,0))/\gx w w' b:=by
     intro vals i' hi hcl rH hone hle
     obtain ⟨w',h1,h4,h5⟩:=zi (P:=P) b T0 vals w C (o'+(i.den c.env).cw.toNat*m+off) 0 hblk hone (by omega)
     have yH:(a.eval x).cells.size=i'.size:=by rw [<-Array.length_toList,hcl,rH]
     rw [Nat.add_zero] at h4
     exact ⟨w',by simp [execOp,ho,q4,Instr.storeAt,Instr.sureAddr,storeVar,run_sizeOf hi,yH,hcl,h1],h4,h5⟩
    refine ⟨fun _ _ K Q hK=> ?_,fun hn=>absurd (aK _) hn⟩
    have hgo: ∀(r:E) (vals:List Value) (i':TypeInfo),P.info? T=some i'->(a.eval x).cells.toList=vals->vals.length=i'.size->(∀v∈vals,v.oneCell'=true)->off+vals.length<=m->vals.length=(r.den c.env).il.length->CV dp off vals.length=true ->
      (∀(j:Nat) (d:D),(r.den c.env).il[j]? =some d-> ∃u,vals[j]? =some u/\sD d u)->aP=⟨[(3*g+2,.live ⟨m,some (.aV e i r off,dp)⟩)],[]⟩->o.wp P a w K Q:=by
     intro r vals i' hi hcl rH hone hle hrl Df Yw AA
     subst AA
     obtain ⟨w',hrun,h4,h5⟩:=hst vals i' hi hcl rH hone hle
     unfold Oper.wp;rw [hrun]
     simp only [Oper.upon,jB,Act.put]
     refine hK bm tm a w' (aL.mono (F:=F) ?_ fun x hx=> .inl hx)
     have AG: ∀gv ms cells u b',dp=some (gv,ms)->tm gv= .tuple cells->u∈cells.toList->bi u b'->w'.heap[b']? =w.heap[b']? :=fun gv ms cells u b' hd hcl hu q9=>by
      subst hd
      obtain ⟨cells',z1,_,_,z4⟩:=iC.dp e gv ms rfl
      rw [hcl] at z1;cases z1
      exact h5.block _ fun eb=>z4 u hu b' q9 (eb▸Ar)
     refine hs.Qk none hlv (by simp) (by simp) (fun _ _=>rfl) (fun _ h=>h) (fun b' hb'=> .inl ?_) (Fr.DR h5 (.inl Ag)) (fun k hk hnb=>h5.block _ fun e'=>hnb (e'▸ .inl Ar)) ⟨?_,fun e' nA he'=> ?_,fun e' gv ms he'=> ?_⟩ fun z hz=> ?_
     ·rcases hb' with hb'|⟨e',gv,ms,cells,u,z1,z2⟩
      ·exact .inl hb'
      ·simp only [Option.some.injEq,Prod.mk.injEq] at z1
       exact .inr ⟨e,gv,ms,cells,u,by rw [z1.2],z2⟩
     ·exact iC.sp.store h5 hblk h4
     ·simp only [Option.some.injEq,Prod.mk.injEq] at he'
      obtain ⟨rfl,rfl⟩:=he'
      rw [iB]
      refine (iC.bd e dp rfl).aV q1 q3 hblk hrl hle hsz (fun j d hj=> ?_) (fun i2 j2 d u hj2 _ hq=> ?_) h4
      ·obtain ⟨u,hu,hlf⟩:=Yw j d hj
       refine ⟨u,hu,?_⟩
       rcases dp with _|⟨gv,ms⟩
       ·exact hlf
       ·have hjl:=(List.getElem?_eq_some_iff.1 hu).1
        simp only [CV,List.all_eq_true,List.mem_range] at Df
        exact ⟨fun _=>hlf,fun hne=>absurd (Nat.eq_of_beq_eq_true (Df j hjl)) hne⟩
      ·exact hq.keep (fun _ _ _=>rfl) AG
     ·simp only [Option.some.injEq,Prod.mk.injEq] at he'
      obtain ⟨cells,z1,z2,z3,z4⟩:=iC.dp e gv ms (by rw [he'.2])
      refine ⟨cells,z1,fun u hu=> ?_,z3,z4⟩
      obtain ⟨m',hm'⟩:=z2 u hu
      exact ⟨m',hm'.store h5 hblk h4⟩
     ·obtain ⟨e',ms,hz⟩:=hz
      simp only [Option.some.injEq,Prod.mk.injEq] at hz
      exact hs.f1 (3*g+2) z (by rw [hlv];exact ⟨e,ms,by rw [hz.2]⟩)
    split at h
    ·
     rename_i t0 hv he
     rcases dp with _|⟨gv,ms⟩
     ·cases k<;>simp at h
     cases k with
     | own hh =>
      simp only at h
      split at h
      ·rename_i mm e' yE
       split at h
       ·rename_i xO aj3
        split at h
        ·rename_i hc
         simp only [Option.some.injEq] at h;subst h
         obtain ⟨hel,hms,hm0,hne⟩:=hc
         obtain ⟨i',d,hi,AW,_⟩:=eZ aH aM hv
         obtain ⟨hc1,hc2⟩:=tz (E.cP aB ex _ he) fe.rd
         have Nf:off<m:=by rw [<-hn];exact (List.getElem?_eq_some_iff.1 hel).1
         obtain ⟨w',hrun,h4,h5⟩:=hst [a.eval x] i' hi (by rw [hc1]) (by simp [AW]) (by simpa using hc2) (by simp only [List.length_cons,List.length_nil];omega)
         have mM:a.eval x=tm hh:=fe.2
         have Gx:=hs.live hh _ yE
         obtain ⟨cells,z1,z2,z3,z4⟩:=iC.dp e gv ms rfl
         have Mf: ∀z,F z->aV tm g0 (.tuple (cells.setIfInBounds ((i.den c.env).cw.toNat*m+off) (tm hh))) z=tm z:=fun z hz=>dW _ _ fun e=>hg0 (e▸hz)
         have Dx:aV tm g0 (.tuple (cells.setIfInBounds ((i.den c.env).cw.toNat*m+off) (tm hh))) g=tm g:=Mf g (hs.f3 g _ hlv)
         have Gy: ∀u∈(cells.setIfInBounds ((i.den c.env).cw.toNat*m+off) (tm hh)).toList,u∈cells.toList\/u=tm hh:=fun u hu=>by
          rw [Array.toList_setIfInBounds] at hu
          exact List.mem_or_eq_of_mem_set hu
         have Ga: ∀b',bi (tm hh) b'->b'≠b:=fun b' hb' e'=>hs.iA hh _ g _ b' b yE hlv hne (.inl hb') (.inl Ar) e'
         have Mo: ∀u∈cells.toList,∀b',bi u b'-> ¬bi (tm hh) b':=fun u hu b' hb' vl=>hs.iA hh _ g _ b' b' yE hlv hne (.inl vl) (.inr ⟨e,gv,ms,cells,u,rfl,z1,hu,hb'⟩) rfl
         have AG: ∀u∈cells.toList,∀b',bi u b'->w'.heap[b']? =w.heap[b']? :=fun u hu b' hb'=>h5.block _ fun eb=>z4 u hu b' hb' (eb▸Ar)
         unfold Oper.wp;rw [hrun]
         simp only [Oper.upon,jB,Act.put]
         refine hK bm (aV tm g0 (.tuple (cells.setIfInBounds ((i.den c.env).cw.toNat*m+off) (tm hh)))) a w' ?_
         show aL c _ (aV (gG σ (some hh)) (3*g+2) _) bm _ a w'
         refine hs.Qk (some hh) hlv (by simp) (fun h1 tS=> ?_) Mf (fun _ h=> .inl h) (fun b' hb'=> ?_) (Fr.DR h5 (.inl Ag)) (fun k hk hnb=>h5.block _ fun e'=>hnb (e'▸ .inl Ar)) ⟨?_,fun e1 WX tS=> ?_,fun e1 XH ms1 tS=> ?_⟩ fun z hz=> ?_
         ·simp only [Option.some.injEq] at tS;subst tS
          exact ⟨hne,_,yE,by simp⟩
         ·rcases hb' with hb'|⟨e1,XH,ms1,E9,u,y1,y2,y3,y4⟩
          ·rw [Dx] at hb';exact .inl (.inl hb')
          ·simp only [Option.some.injEq,Prod.mk.injEq] at y1
           obtain ⟨_,rfl,rfl⟩:=y1
           rw [cm] at y2;cases y2
           rcases Gy u y3 with h|rfl
           ·exact .inl (.inr ⟨e,gv,ms,cells,u,rfl,z1,h,y4⟩)
           ·exact .inr ⟨hh,_,rfl,yE,.inl y4⟩
         ·rw [Dx];exact iC.sp.store h5 hblk h4
         ·simp only [Option.some.injEq,Prod.mk.injEq] at tS
          obtain ⟨rfl,rfl⟩:=tS
          rw [iB,Dx]
          refine (iC.bd e _ rfl).aV q1 q3 hblk (by simp [E.den]) (by simp only [List.length_cons,List.length_nil];omega) hsz (fun j d hj=> ?_) (fun i2 j2 d u hj2 hij hq=> ?_) h4
          ·cases j with
           | succ j=>simp [E.den] at hj
           | zero =>
            simp [E.den] at hj;subst hj
            refine ⟨_,rfl,fun h0=>absurd (hms▸h0) (by simpa using hm0),fun _=>⟨⟨_,cm _ _ _,?_⟩,?_,?_⟩⟩
            ·have hcs:(i.den c.env).cw.toNat*m+off<cells.size:=by
              obtain ⟨_,_,amz,r1,_,w1,w2,w3,_,_,_,w5⟩:=PG (iC.bd e _ rfl) q1 q3
              obtain ⟨u1,_,hu1⟩:=w5 off _ (List.getElem?_eq_getElem (show off<r1.length by rw [w3];exact Nf))
              obtain ⟨⟨E9,c1,c2⟩,_⟩:=hu1.2 (by rw [hms];exact hm0)
              rw [z1] at c1;cases c1
              exact (Array.getElem?_eq_some_iff.1 c2).1
             rw [Nat.add_zero,mM]
             simp [hcs]
            ·rw [Nat.add_zero,hms,mM]
             exact Gx.sp.keep fun b' hb'=>h5.block _ (Ga b' hb')
            ·rw [Nat.add_zero,hms,mM]
             exact (Gx.bd e' none rfl).keep (fun b' hb'=>h5.block _ (Ga b' hb')) fun _ _ _ _ h=>h
          ·refine ⟨hq.1,fun YC=> ?_⟩
           obtain ⟨⟨E9,c1,c2⟩,c3,c4⟩:=hq.2 YC
           rw [z1] at c1;cases c1
           have hu:u∈cells.toList:=by rw [<-Array.getElem?_toList] at c2;exact List.mem_of_getElem? c2
           refine ⟨⟨_,cm _ _ _,?_⟩,c3.keep (AG u hu),c4.keep (AG u hu) fun _ _ _ _ h=>h⟩
           have YF:(i.den c.env).cw.toNat*m+off≠i2*m+j2:=fun e2=>by
            obtain ⟨e3,e4⟩:=abl hj2 Nf e2.symm
            rcases hij with h|h|h
            ·exact h e3
            ·omega
            ·simp only [E.den,D.kH,List.length_cons,List.length_nil] at h
             omega
           rw [Array.getElem?_setIfInBounds_ne YF]
           exact c2
         ·simp only [Option.some.injEq,Prod.mk.injEq] at tS
          obtain ⟨_,rfl,rfl⟩:=tS
          refine ⟨_,cm _ _ _,fun u hu=> ?_,fun k k' u u' b' hk hk' hkk hb' vl=> ?_,fun u hu b' hb'=> ?_⟩
          ·rcases Gy u hu with h|rfl
           ·obtain ⟨m',hm'⟩:=z2 u h
            exact ⟨m',hm'.keep (AG u h)⟩
           ·exact ⟨_,Gx.sp.keep fun b' hb'=>h5.block _ (Ga b' hb')⟩
          ·have hget: ∀q v,(cells.setIfInBounds ((i.den c.env).cw.toNat*m+off) (tm hh))[q]? =some v->(q=(i.den c.env).cw.toNat*m+off/\v=tm hh)\/(q≠(i.den c.env).cw.toNat*m+off/\cells[q]? =some v):=fun q v hq=>by
            rw [Array.getElem?_setIfInBounds] at hq
            split at hq
            ·rename_i e3
             split at hq
             ·simp only [Option.some.injEq] at hq;exact .inl ⟨e3.symm,hq.symm⟩
             ·cases hq
            ·rename_i e3;exact .inr ⟨fun e4=>e3 e4.symm,hq⟩
           have hmem: ∀q v,cells[q]? =some v->v∈cells.toList:=fun q v hq=>by rw [<-Array.getElem?_toList] at hq;exact List.mem_of_getElem? hq
           rcases hget k u hk with ⟨e3,rfl⟩|⟨e3,hk⟩<;>rcases hget k' u' hk' with ⟨e4,rfl⟩|⟨e4,hk'⟩
           ·omega
           ·exact Mo u' (hmem _ _ hk') b' vl hb'
           ·exact Mo u (hmem _ _ hk) b' hb' vl
           ·exact z3 k k' u u' b' hk hk' hkk hb' vl
          ·rw [Dx]
           rcases Gy u hu with h|rfl
           ·exact z4 u h b' hb'
           ·exact fun vl=>hs.iA hh _ g _ b' b' yE hlv hne (.inl hb') (.inl vl) rfl
         ·obtain ⟨e1,ms1,hz⟩:=hz
          simp only [Option.some.injEq,Prod.mk.injEq] at hz
          exact .inr (by rw [<-hz.2.1];exact ef.self g0)
        ·simp at h
       ·simp at h
      ·simp at h
     | _=>simp at h
    ·rename_i t0 t _ hv he
     split at h
     ·rename_i hc
      simp only [Option.some.injEq] at h
      obtain ⟨i',d,hi,AW,_⟩:=eZ aH aM hv
      have hty:=E.cP aB ex _ he
      obtain ⟨hc1,hc2⟩:=tz hty fe.rd
      have hlt:=(List.getElem?_eq_some_iff.1 hc.1).1
      refine hgo (.ah ex) [a.eval x] i' hi (by rw [hc1]) (by simp [AW]) (by simpa using hc2) (by simp only [List.length_cons,List.length_nil];omega) rfl hc.2.2 ?_ h.symm
      intro j d' hd
      cases j with
      | zero=>simp [E.den] at hd;subst hd;exact ⟨_,rfl,Hq hty hc.2.1 fe.rd⟩
      | succ j=>simp [E.den] at hd
     ·simp at h
    ·rename_i ts us hv he
     split at h
     ·rename_i hc
      simp only [Option.some.injEq] at h
      obtain ⟨i',f,z,hi,AW,_⟩:=kY aH aM hv
      obtain ⟨l,hl,hlt⟩:=gV (E.cP aB ex _ he)
      have jl:=fe.rd
      rw [hl] at jl
      obtain ⟨BU,rL,hrs⟩:=jl
      have hl1:=hrs.length
      have fD:=hlt.length
      refine hgo ex BU.toList i' hi (by rw [rL];rfl) (by rw [hl1,fD,AW];exact hc.2.1.symm) (Cy hlt hrs) (by rw [hl1,fD];exact hc.2.2.1) (by rw [hl];exact hl1) (by rw [hl1,fD];exact hc.2.2.2.2) ?_ h.symm
      intro j d hd
      rw [hl] at hd
      exact Ob hlt hc.2.2.2.1 hrs j d hd
     ·simp at h
    ·simp at h
   ·simp at h
  ·simp at h
 ·simp at h
theorem sSt(aH:cD P tb tb=true)(hs:aL c F σ bm tm a w)(aB:bL tb.tab Γ c.env){g n:Nat}(hg: ¬F g){o:Oper}{y x:Operand}{T T1 T2:Nat}(ho:o.op= .store T y x){ti:TI}(aM:tb.get T=some ti){aP:aT}
  (h:xM tb Γ gs o.dst σ g ti (aQ tb σ T1 y) (aQ tb σ T2 x)=some aP):fc P c F σ bm tm a w g gs n o aP:=by
 unfold xM at h
 split at h
 ·rename_i g' m i off jB hy
  exact adh aH hs aB hg ho jB aM hy h
 ·rename_i g' gv m i off j m2 o2 jB hy
  exact (by simp [KW] at h)
 ·exact adr aH hs aB ho aM h
theorem xu(hs:aL c F σ bm tm a w)(hg:bB c.env gs): ∀(xs:List Operand) (Ts:List Nat) (es:List E),jd tb Γ gs σ xs Ts=some es->Rs w (MM c.M0 bm tm σ) (es.map (·.den c.env)) (xs.map a.eval)
 | [],[],es,h=>by simp [jd] at h;subst h;rfl
 | x::xs,T::Ts,es,h=>by
  simp only [jd] at h
  split at h
  ·rename_i k e es' h1 h2
   simp only [Option.some.injEq] at h;subst h
   exact ⟨_,_,rfl,((cL hs h1).1 hg).rd,xu hs hg xs Ts es' h2⟩
  ·simp at h
 | [],_::_,es,h=>by simp [jd] at h
 | _::_,[],es,h=>by simp [jd] at h
theorem wG{f:FuncId}(hf:iy P f=true){o:Oper}{cl:Call}(ho:o.op= .call cl)(hcl:cl.callee= .value (.func f)):(execOp a.eval o).run P w= .ok (.enter f (cl.args.map a.eval)) w:=by
 unfold iy at hf
 split at hf
 ·rename_i fn hfn
  simp only [Bool.and_eq_true,Bool.not_eq_true'] at hf
  obtain ⟨h1,h2⟩:=hf
  obtain ⟨b,hb⟩:=Option.isSome_iff_exists.1 h2
  have h1':(fn.name= "runtime.NumGoroutine")=False:=by
   apply eq_false
   intro e
   rw [e] at h1
   exact absurd h1 (by decide)
  simp [execOp,ho,resolve,hcl,Deferred.ofValue,Act.eval,invoke,callFunc,hfn,hb,h1']
 ·simp at hf
theorem Qc(hs:aL c F σ bm tm a w)(hg:bB c.env gs){g n:Nat}{o:Oper}{cl:Call}{f:FuncId}(ho:o.op= .call cl)(hcl:cl.callee= .value (.func f))(hd: ∀d,o.dst=some d->d<c.nt){es:List E}{Ts:List Nat}{vt:VT}
  (hes:jd tb Γ gs σ cl.args.toList Ts=some es) (hr:gU P c.env n (.call gs f none es vt [])) (K:Act->World->Prop) (Q:Exit->Act->World->Prop)
  (hK: ∀cG tm' a' w',aL c (fun x=>F x\/ef g x) (cY σ (wv o.dst (.v gs .d (.var n)))) cG tm' a' w'->K a' w'):o.wp P a w K Q:=by
 obtain ⟨hf,hrun⟩:=hr hg
 have hargs:=xu hs hg _ _ _ hes
 unfold Oper.wp
 rw [wG hf ho hcl]
 simp only [Oper.upon]
 have:=hrun w (MM c.M0 bm tm σ) 0 (cl.args.toList.map a.eval) hs.lZ hargs (fun cs h=>by simp at h)
 simp only [Option.map_none] at this
 have e:(cl.args.toList.map a.eval).toArray=cl.args.map a.eval:=by rw [<-Array.toList_inj];simp
 rw [e] at this
 refine this.mono ?_
 rintro e' w' ⟨v,rfl,h1,h2,_⟩
 refine hK bm tm _ _ (((hs.grow h2.jI).kT hd (dJ (k:= .d) (e:= .var n) hg h1) fun x hx=>by simp [bX,Go.Proofs.YtimickglpboilaaGreatDoor.K.has] at hx).mono fun x hx=> .inl hx)
theorem zf{M:Addr->Prop}: ∀(nb:List CT) (m:Nat) (us:List Value),Rs w M ((List.range nb.length).map fun j=>c.env.getD (m+j) .un) us->ck w M tm c.env (vars m nb) us
 | [],m,us,h=>by simpa [Rs,vars,ck] using h
 | t::nb,m,us,h=>by
  simp only [List.length_cons,List.range_succ_eq_map,List.map_cons,List.map_map] at h
  obtain ⟨v,q,rfl,h1,h2⟩:=h
  refine ⟨v,q,rfl,by simpa [bD,E.den] using h1,zf nb (m+1) q ?_⟩
  simpa [Function.comp_def,Nat.add_assoc,Nat.add_comm 1] using h2
theorem BV: ∀(nb:List CT) (m:Nat) (q:Nat),¬ ∃z∈vars m nb,z.1.has q
 | [],_,_,⟨z,hz,_⟩=>by simp [vars] at hz
 | t::nb,m,q,⟨z,hz,hq⟩=>by
  simp only [vars,List.mem_cons] at hz
  rcases hz with rfl|hz
  ·cases hq
  ·exact BV nb (m+1) q ⟨z,hz,hq⟩
theorem adk(hs:aL c F σ bm tm a w)(aB:bL tb.tab Γ c.env){g n:Nat}(jD: ¬F g){o:Oper}{cl:Call}{f:FuncId}{nb:List CT}(ho:o.op= .call cl)(hcl:cl.callee= .value (.func f))(hd: ∀d,o.dst=some d->d<c.nt)(hn:n=Γ.length){aP:aT}
  (h:eNew tb Γ gs o.dst σ g nb f cl.args.toList cl.argTypes.toList=some aP):fc P c F σ bm tm a w g gs n o aP:=by
 subst hn
 unfold eNew at h
 split at h
 ·rename_i es hes
  simp only [Option.some.injEq] at h;subst h
  refine ⟨fun hg hr K Q hK=> ?_,fun hn=>absurd (aK _) hn⟩
  have rK:gU P c.env Γ.length (.new f es nb):=hr _ (by simp)
  obtain ⟨hf,hrun⟩:=rK
  have hargs:=xu hs (aK _) _ _ _ hes
  unfold Oper.wp
  rw [wG hf ho hcl]
  simp only [Oper.upon]
  have:=hrun w (MM c.M0 bm tm σ) (cl.args.toList.map a.eval) hs.lZ hargs
  have e:(cl.args.toList.map a.eval).toArray=cl.args.map a.eval:=by rw [<-Array.toList_inj];simp
  rw [e] at this
  refine this.mono ?_
  rintro e' w' ⟨g0,us,T,rfl,h1,h2,h3,h4⟩
  refine hK (aV bm g g0) tm _ w' ?_
  rw [BP]
  refine aL.tag ((hs.abq jD h4 h1 h2 (zf nb _ us h3) fun q hq=>absurd hq (BV _ _ _)).kT hd ⟨fun _=>by rw [cm],fun h=>absurd (aK _) h⟩ fun x hx=> ?_)
  simp only [bX] at hx;exact .inr hx
 ·simp at h
theorem zu{dst:Option Nat}{st:ST}: ∀{wP:List (Nat×ST)} {σ:Nat->ST},(∀p∈wP,∀d,p.1≠3*d)->cY σ (wv dst st++wP)=cY (cY σ wP) (wv dst st):=by
 intro wP σ h
 cases dst with
 | none=>rfl
 | some d =>
  show cY (aV σ (3*d) st) wP=aV (cY σ wP) (3*d) st
  induction wP generalizing σ with
  | nil=>rfl
  | cons p r ih =>
   obtain ⟨l,s⟩:=p
   show cY (aV (aV σ (3*d) st) l s) r=_
   rw [QY (Ne.symm (h (l,s) (by simp) d))]
   exact ih fun q hq=>h q (by simp [hq])
theorem Iy: ∀{rt:List (Nat×Nat)} {g:Nat} {σ:Nat->ST} (t:Nat),cY σ (iP g rt) (3*t)=σ (3*t)
 | [],_,_,_=>rfl
 | (q,m)::r,g,σ,t=>by
  show cY (aV σ (3*g+2) (.live ⟨m,none⟩)) (iP (g+1) r) (3*t)=_
  rw [Iy t,BQ]
theorem wF: ∀{rt:List (Nat×Nat)} {g:Nat} {σ:Nat->ST} (t:Nat),cY σ (iP g rt) (3*t+1)=σ (3*t+1)
 | [],_,_,_=>rfl
 | (q,m)::r,g,σ,t=>by
  show cY (aV σ (3*g+2) (.live ⟨m,none⟩)) (iP (g+1) r) (3*t+1)=_
  rw [wF t,nY]
theorem Ix: ∀{rt:List (Nat×Nat)} {g:Nat} {σ:Nat->ST} (x:Nat),cY σ (iP g rt) (3*x+2)=if g<=x/\x<g+rt.length then .live ⟨(rt.getD (x-g) (0,0)).2,none⟩ else σ (3*x+2)
 | [],g,σ,x=>by rw [if_neg (by simp only [List.length_nil];omega)];rfl
 | (q,m)::r,g,σ,x=>by
  show cY (aV σ (3*g+2) (.live ⟨m,none⟩)) (iP (g+1) r) (3*x+2)=_
  rw [Ix x]
  by_cases h:x=g
  ·subst h
   rw [if_neg (by omega),cm,if_pos (by simp only [List.length_cons];omega)];simp
  ·rw [jL _ h]
   by_cases h1:g+1<=x/\x<g+1+r.length
   ·rw [if_pos h1,if_pos (by simp only [List.length_cons];omega),show x-g=(x-(g+1))+1 by omega];rfl
   ·rw [if_neg h1,if_neg (by simp only [List.length_cons];omega)]
def kG(tm:Nat->Value)(g:Nat)(v:Value)(rt:List (Nat×Nat)):Nat->Value:=fun x=>if g<=x/\x<g+rt.length then kW v (rt.getD (x-g) (0,0)) else tm x
def lG(σ:Nat->ST)(cs:List (K×E)):Option Nat->Nat->ST
 | none=>σ
 | some id=>aV σ (3*id+1) (.box cs)
theorem aL.PD{w':World}(hs:aL c F σ bm tm a w){g:Nat}(hg: ∀x,ef g x-> ¬F x){rt:List (Nat×Nat)}(hl:rt.length<=jX){v:Value}(dw:uM w.heap.size w' v rt)(jG:Option Nat){cs':List (K×E)}
  (hid: ∀id,jG=some id-> ∃cs,σ (3*id+1)= .box cs) (hfr:Fr c.B c.X w w') (eE: ∀k,k<w.heap.size->(∀id,jG=some id->k≠bm id)->w'.heap[k]? =w.heap[k]?)
  (eI: ∀id M' tm',jG=some id->(∀p,M' p->MM c.M0 bm tm σ p\/iK v rt p)->mg c w' M' bm tm' id cs') (hno: ∀x,¬ ∃z∈cs',z.1.has x) :
  aL c (fun x=>F x\/ef g x) (cY (lG σ cs' jG) (iP g rt)) bm (kG tm g v rt) a w'/\(∀p,MM c.M0 bm (kG tm g v rt) (cY (lG σ cs' jG) (iP g rt)) p->MM c.M0 bm tm σ p\/iK v rt p):=by
 have Mn: ∀t,lG σ cs' jG (3*t)=σ (3*t):=fun t=>by cases jG with|none=>rfl|some id=>exact Er _ _ _
 have Mm: ∀t,lG σ cs' jG (3*t+2)=σ (3*t+2):=fun t=>by cases jG with|none=>rfl|some id=>exact jZ _ _ _
 have Ml: ∀id cs,lG σ cs' jG (3*id+1)= .box cs->(jG=some id/\cs=cs')\/(jG≠some id/\σ (3*id+1)= .box cs):=fun id cs h=>by
  cases jG with
  | none=>exact .inr ⟨by simp,h⟩
  | some i =>
   simp only [lG] at h
   by_cases e:id=i
   ·subst e;rw [cm] at h;simp at h;exact .inl ⟨rfl,h.symm⟩
   ·rw [fI _ e] at h;exact .inr ⟨fun e'=>e (by simp at e';exact e'.symm),h⟩
 have Aq: ∀id cs,lG σ cs' jG (3*id+1)= .box cs-> ∃cs0,σ (3*id+1)= .box cs0:=fun id cs h=>by
  rcases Ml id cs h with ⟨h1,_⟩|⟨_,h1⟩
  ·exact hid id h1
  ·exact ⟨cs,h1⟩
 have hin: ∀x,g<=x/\x<g+rt.length-> ∃y,rt[x-g]? =some y/\rt.getD (x-g) (0,0)=y/\y∈rt:=fun x hx=>by
  have:x-g<rt.length:=by omega
  exact ⟨rt[x-g],List.getElem?_eq_getElem this,by simp [List.getD,List.getElem?_eq_getElem this],List.getElem_mem this⟩
 have hlv: ∀x n,cY (lG σ cs' jG) (iP g rt) (3*x+2)= .live n->(∃y,rt[x-g]? =some y/\y∈rt/\(g<=x/\x<g+rt.length)/\(⟨y.2,none⟩:LV)=n/\kG tm g v rt x=kW v y)\/(¬(g<=x/\x<g+rt.length)/\σ (3*x+2)= .live n/\kG tm g v rt x=tm x):=fun x n h=>by
  rw [Ix] at h
  by_cases hc:g<=x/\x<g+rt.length
  ·obtain ⟨y,h1,h2,h3⟩:=hin x hc
   rw [if_pos hc,h2] at h
   simp at h
   exact .inl ⟨y,h1,h3,hc,h,by unfold kG;rw [if_pos hc,h2]⟩
  ·rw [if_neg hc,Mm] at h
   exact .inr ⟨hc,h,if_neg hc⟩
 have gh: ∀x,F x->kG tm g v rt x=tm x:=fun x hx=>if_neg fun hc=>hg x ⟨hc.1,by omega⟩ hx
 have qZ: ∀p,MM c.M0 bm (kG tm g v rt) (cY (lG σ cs' jG) (iP g rt)) p->MM c.M0 bm tm σ p\/iK v rt p:=by
  rintro p (h|⟨id,cs,h1,h2⟩|⟨x,n,h1,h2⟩)
  ·exact .inl (.inl h)
  ·rw [wF] at h1
   obtain ⟨cs0,h3⟩:=Aq id cs h1
   exact .inl (.inr (.inl ⟨id,cs0,h3,h2⟩))
  ·rcases hlv x n h1 with ⟨y,q1,q2,q3,q4,q5⟩|⟨q1,q2,q3⟩
   ·rw [<-q4] at h2;exact .inr ⟨y,q2,by have:=y7 h2;rwa [q5] at this⟩
   ·exact .inl (.inr (.inr ⟨x,n,q2,kC.congr q3 (fun y hy=>gh y (hs.f1 (3*x+2) y (by rw [q2];exact hy))) h2⟩))
 have hnew: ∀y∈rt,∀b o s len cap,kW v y= .slice (some ⟨b,o,s⟩) len cap->0<cap->w.heap.size<=b:=fun y hy b o s len cap he hlt=>(dw.1 y hy b o s len cap he hlt).2.1
 have hk:bb w (MM c.M0 bm tm σ) w' (MM c.M0 bm (kG tm g v rt) (cY (lG σ cs' jG) (iP g rt))):=fun p u hp hn=>by
  have hlt:=block_lt_of_cell hp
  refine ⟨?_,fun h=> ?_⟩
  ·rw [<-hp]
   refine World.cell?_of_block (eE _ hlt fun id hi e=> ?_)
   obtain ⟨cs,hc⟩:=hid id hi
   exact hn (.inr (.inl ⟨id,cs,hc,e⟩))
  ·rcases qZ p h with h|⟨y,hy,h⟩
   ·exact hn h
   ·obtain ⟨o,s,len,cap,h1,h2⟩:=zl h
    have:=hnew y hy _ _ _ _ _ h1 h2
    omega
 refine ⟨?_,qZ⟩
 refine hs.turn (fun t=>by rw [Iy,Mn]) (fun x hx=>⟨rfl,gh x hx⟩) (fun _ h=> .inl h) hfr hk ?_ ?_ ?_ ?_ ?_ ?_ ?_ ?_
 ·intro id cs h
  rw [wF] at h
  rcases Ml id cs h with ⟨h1,rfl⟩|⟨h1,h2⟩
  ·exact eI id _ _ h1 qZ
  ·refine (hs.box id cs h2).keep hk rfl (eE _ (hs.box id cs h2).lt fun i hi e=> ?_) fun x hx=>gh x (hs.f1 (3*id+1) x (by rw [h2];exact hx))
   obtain ⟨cs0,hc⟩:=hid i hi
   exact hs.kp id i cs cs0 h2 hc (fun e'=>h1 (by rw [e'];exact hi)) e
 ·intro x n h
  rcases hlv x n h with ⟨y,q1,q2,q3,q4,q5⟩|⟨q1,q2,q3⟩
  ·subst q4
   refine ⟨fun b o s len cap he hlt=> ?_,(fun e dp he=>by cases he),(fun e gv ms he=>by cases he)⟩
   rw [q5] at he
   obtain ⟨z1,z2,z3⟩:=dw.1 y q2 b o s len cap he hlt
   exact ⟨z1,Nat.le_trans hs.hB z2,z3⟩
  ·refine (hs.live x n q2).keep (fun b hb=>eE _ ((hs.live x n q2).lt hb) fun i hi e=> ?_) q3 fun y hy=>gh y (hs.f1 (3*x+2) y (by rw [q2];exact hy))
   obtain ⟨cs0,hc⟩:=hid i hi
   exact hs.iz i cs0 x n b hc q2 hb e.symm
 ·intro i j cs1 jv h h' hne
  rw [wF] at h h'
  obtain ⟨d,hd⟩:=Aq i cs1 h
  obtain ⟨d',hd'⟩:=Aq j jv h'
  exact hs.kp i j d d' hd hd' hne
 ·intro i cs1 x n b h hx hb
  rw [wF] at h
  obtain ⟨d,hd⟩:=Aq i cs1 h
  rcases hlv x n hx with ⟨y,q1,q2,q3,q4,q5⟩|⟨q1,q2,q3⟩
  ·subst q4
   obtain ⟨o,s,len,cap,he,hlt⟩:=oO hb
   rw [q5] at he
   have:=hnew y q2 b o s len cap he hlt
   have:=(hs.box i d hd).lt
   omega
  ·exact hs.iz i d x n b hd q2 ((cR.congr q3 fun y hy=>gh y (hs.f1 (3*x+2) y (by rw [q2];exact hy))).1 hb)
 ·intro x n y m b b' hx hy hne hb hb'
  rcases hlv x n hx with ⟨x1,q1,q2,q3,q4,q5⟩|⟨q1,q2,q3⟩<;>rcases hlv y m hy with ⟨y1,p1,p2,p3,p4,p5⟩|⟨p1,p2,p3⟩
  ·subst q4 p4
   obtain ⟨o,s,len,cap,he,hlt⟩:=oO hb
   obtain ⟨o',s',len',cap',he',vF⟩:=oO hb'
   rw [q5] at he;rw [p5] at he'
   exact dw.2 _ _ x1 y1 q1 p1 (by omega) _ _ _ _ _ _ _ _ _ _ he hlt he' vF
  ·subst q4
   obtain ⟨o,s,len,cap,he,hlt⟩:=oO hb
   rw [q5] at he
   have h1:=hnew x1 q2 b o s len cap he hlt
   have h2:=(hs.live y m p2).lt ((cR.congr p3 fun z hz=>gh z (hs.f1 (3*y+2) z (by rw [p2];exact hz))).1 hb')
   omega
  ·subst p4
   obtain ⟨o,s,len,cap,he,hlt⟩:=oO hb'
   rw [p5] at he
   have h1:=hnew y1 p2 b' o s len cap he hlt
   have h2:=(hs.live x n q2).lt ((cR.congr q3 fun z hz=>gh z (hs.f1 (3*x+2) z (by rw [q2];exact hz))).1 hb)
   omega
  ·exact hs.iA x n y m b b' q2 p2 hne ((cR.congr q3 fun z hz=>gh z (hs.f1 (3*x+2) z (by rw [q2];exact hz))).1 hb) ((cR.congr p3 fun z hz=>gh z (hs.f1 (3*y+2) z (by rw [p2];exact hz))).1 hb')
 ·intro l x h
  refine .inl ?_
  have h3:l=3*(l/3)\/l=3*(l/3)+1\/l=3*(l/3)+2:=by omega
  rcases h3 with e|e|e
  ·rw [e,Iy,Mn] at h;exact hs.f1 _ x h
  ·rw [e,wF] at h
   generalize hst:lG σ cs' jG (3*(l/3)+1)=st at h
   cases jG with
   | none=>rw [<-hst] at h;exact hs.f1 _ x h
   | some id =>
    by_cases e':l/3=id
    ·simp only [lG] at hst
     rw [e',cm] at hst
     subst hst
     exact absurd h (hno x)
    ·simp only [lG] at hst
     rw [fI _ e'] at hst
     rw [<-hst] at h;exact hs.f1 _ x h
  ·rw [e,Ix] at h
   split at h
   ·obtain ⟨_,_,h⟩:=h;cases h
   ·rw [Mm] at h;exact hs.f1 _ x h
 ·intro id cs h
  rw [wF] at h
  obtain ⟨d,hd⟩:=Aq id cs h
  exact .inl (hs.f2 id d hd)
 ·intro x n h
  rcases hlv x n h with ⟨y,q1,q2,q3,q4,q5⟩|⟨q1,q2,q3⟩
  ·exact .inr ⟨q3.1,by omega⟩
  ·exact .inl (hs.f3 x n q2)
theorem Iv: ∀{rt:List (Nat×Nat)} {g p x:Nat},mQ g rt p= .own x-> ∃i y,rt[i]? =some y/\y.1=p/\x=g+i
 | [],g,p,x,h=>by simp [mQ] at h
 | (q,m)::r,g,p,x,h=>by
  simp only [mQ] at h
  cases e:Nat.beq q p with
  | true =>
   rw [e] at h;simp only [cond_true,KK.own.injEq] at h
   exact ⟨0,(q,m),rfl,Nat.eq_of_beq_eq_true e,by omega⟩
  | false =>
   rw [e] at h;simp only [cond_false] at h
   obtain ⟨i,y,h1,h2,h3⟩:=Iv h
   exact ⟨i+1,y,by simpa using h1,h2,by omega⟩
theorem PL{rt:List (Nat×Nat)}{g p:Nat}{v u:Value}(hu:(iV v)[p]? =some u):lV (kG tm g v rt) (mQ g rt p) u:=by
 cases h:mQ g rt p with
 | d=>trivial
 | full =>
  exfalso
  have: ∀(rt:List (Nat×Nat)) (g:Nat),mQ g rt p≠ .full:=by
   intro rt
   induction rt with
   | nil=>intro g h;simp [mQ] at h
   | cons a r ih =>
    intro g h
    obtain ⟨q,m⟩:=a
    simp only [mQ] at h
    cases e:Nat.beq q p with
    | true=>rw [e] at h;simp at h
    | false=>rw [e] at h;exact ih _ h
  exact this rt g h
 | own x =>
  obtain ⟨i,y,h1,h2,rfl⟩:=Iv h
  have hi:i<rt.length:=(List.getElem?_eq_some_iff.1 h1).1
  show u=kG tm g v rt (g+i)
  unfold kG
  rw [if_pos (by omega),show g+i-g=i by omega]
  simp only [List.getD,h1,Option.getD_some,kW,h2,hu]
theorem PN{rt:List (Nat×Nat)}{g:Nat}{v:Value}{vt:VT}{e:E}{M:Addr->Prop}{w:World}(hty:xp vt (e.den c.env))(hr:R w M (e.den c.env) v):bD w M (kG tm g v rt) c.env (wE g rt vt) e v:=by
 have Bn: ∀(n j:Nat) (kk:KK) (u:Value),((List.range n).map (mQ g rt))[j]? =some kk->(iV v)[j]? =some u->lV (kG tm g v rt) kk u:=fun n j kk u h1 h2=>by
  simp only [List.getElem?_map,Option.map_eq_some_iff] at h1
  obtain ⟨j',hj',rfl⟩:=h1
  have:j'=j:=by
   rw [List.getElem?_eq_some_iff] at hj'
   obtain ⟨_,q2⟩:=hj'
   simpa using q2.symm
  subst this
  exact PL h2
 rcases vt with (t|ts)|vs
 ·exact bD.of hr (PL (by rw [D.Bs hty hr];rfl))
 ·exact ⟨hr,Bn _⟩
 ·exact ⟨hr,Bn _⟩
theorem PM{rt:List (Nat×Nat)}{g x:Nat}{vt:VT}(h:(wE g rt vt).has x):g<=x/\x<g+rt.length:=by
 have key: ∀p,mQ g rt p= .own x->g<=x/\x<g+rt.length:=fun p hp=>by
  obtain ⟨i,y,h1,_,rfl⟩:=Iv hp
  have:i<rt.length:=(List.getElem?_eq_some_iff.1 h1).1
  omega
 have Bn: ∀n,KK.own x∈(List.range n).map (mQ g rt)->g<=x/\x<g+rt.length:=fun n hn=>by
  obtain ⟨p,_,hp⟩:=List.mem_map.1 hn
  exact key p hp
 rcases vt with (t|ts)|vs
 ·exact key 0 (K.Mv h)
 ·exact Bn _ h
 ·exact Bn _ h
theorem Iw: ∀{rt:List (Nat×Nat)} {g:Nat},∀p∈iP g rt,∀d,p.1≠3*d
 | [],_,p,h,_=>by simp [iP] at h
 | (q,m)::r,g,p,h,d=>by
  simp only [iP,List.mem_cons] at h
  rcases h with rfl|h
  ·show 3*g+2≠3*d;omega
  ·exact Iw p h d
theorem ac4(hs:aL c F σ bm tm a w){g n:Nat}(jD: ∀x,ef g x-> ¬F x){o:Oper}{cl:Call}{f:FuncId}(ho:o.op= .call cl)(hcl:cl.callee= .value (.func f))(hd: ∀d,o.dst=some d->d<c.nt){es:List E}{Ts:List Nat}{vt:VT}{rt:List (Nat×Nat)}(hl:rt.length<=jX)
  (hes:jd tb Γ [] σ cl.args.toList Ts=some es) (hr:gU P c.env n (.gA f none es vt [] rt)) (K:Act->World->Prop) (Q:Exit->Act->World->Prop)
  (hK: ∀cG tm' a' w',aL c (fun x=>F x\/ef g x) (cY σ (wv o.dst (.v [] (wE g rt vt) (.var n))++iP g rt)) cG tm' a' w'->K a' w'):o.wp P a w K Q:=by
 obtain ⟨hsh,hf,hrun⟩:=hr
 have hargs:=xu hs (aK _) _ _ _ hes
 unfold Oper.wp
 rw [wG hf ho hcl]
 simp only [Oper.upon]
 have:=hrun w (MM c.M0 bm tm σ) 0 (cl.args.toList.map a.eval) hs.lZ hargs (fun cs h=>by simp at h)
 simp only [Option.map_none] at this
 have e:(cl.args.toList.map a.eval).toArray=cl.args.map a.eval:=by rw [<-Array.toList_inj];simp
 rw [e] at this
 refine this.mono ?_
 rintro e' w' ⟨v,rfl,h1,h2,h3,_⟩
 obtain ⟨hS,qZ⟩:=hs.PD jD hl h3 none (cs':=[]) (fun id h=>by simp at h) (Fr.pJ h2.jI hs.hB) (fun k hk _=>h2.block k hk (by simp)) (fun id M' tm' h=>by simp at h) (fun x ⟨z,hz,_⟩=>by simp at hz)
 refine hK bm (kG tm g v rt) _ w' ?_
 rw [zu Iw]
 have hk:bb w' (fun p=>MM c.M0 bm tm σ p\/iK v rt p) w' (MM c.M0 bm (kG tm g v rt) (cY σ (iP g rt))):=fun p u hp hn=>⟨hp,fun h=>hn (qZ p h)⟩
 refine hS.kT hd (dJ (aK _) (PN (vt:=vt) (e:= .var n) hsh (R.keep hk _ _ h1))) fun x hx=> .inr ?_
 have:=PM (show (wE g rt vt).has x from hx)
 exact ⟨this.1,by omega⟩
theorem Ma{env:List D}(aB:bL tb.tab Γ env): ∀(gs:Gd),gs.all (fun x=>fg .bool (x.1.inf tb.tab Γ))=true->(((qW gs).den env).iZ=true↔bB env gs)
 | [],_=>by simp [qW,E.den,bB]
 | (c,b)::r,h=>by
  simp only [List.all_cons,Bool.and_eq_true] at h
  have ih:=Ma aB r h.2
  have hc:c.inf tb.tab Γ=some (.one (.c .bool)):=by simpa [fg] using h.1
  obtain ⟨x,hx⟩: ∃x,c.den env= .bool x:=nF (E.cP aB c _ hc)
  have e:bB env ((c,b)::r)↔c.den env= .bool b/\bB env r:=by simp [bB]
  rw [e, <-ih,hx]
  cases b<;>simp [qW,E.den,hx]
theorem Pw{M:Addr->Prop}{g:E}(hg:(g.den c.env).iZ=true): ∀{xs ys:List (K×E)} {vs:List Value},xs.length=ys.length->ck w M tm c.env xs vs->ck w M tm c.env (qu g xs ys) vs
 | [],[],_,_,h=>h
 | x::r,y::q,vs,hl,⟨v,z,e,h1,h2⟩=>⟨v,z,e,by simp only [bD,E.den,hg,cond_true];exact h1.rd,Pw hg (by simpa using hl) h2⟩
 | [],_::_,_,hl,_=>by simp at hl
 | _::_,[],_,hl,_=>by simp at hl
theorem Px{M:Addr->Prop}{g:E}(hg:(g.den c.env).iZ=false): ∀{xs ys:List (K×E)} {vs:List Value},xs.length=ys.length->ck w M tm c.env ys vs->ck w M tm c.env (qu g xs ys) vs
 | [],[],_,_,h=>h
 | x::r,y::q,vs,hl,⟨v,z,e,h1,h2⟩=>⟨v,z,e,by simp only [bD,E.den,hg,cond_false];exact h1.rd,Px hg (by simpa using hl) h2⟩
 | [],_::_,_,hl,_=>by simp at hl
 | _::_,[],_,hl,_=>by simp at hl
theorem HE(g:E): ∀(xs ys:List (K×E)) (q:Nat),¬ ∃z∈qu g xs ys,z.1.has q
 | [],_,_,⟨z,hz,_⟩=>by simp [qu] at hz
 | _::_,[],_,⟨z,hz,_⟩=>by simp [qu] at hz
 | x::r,y::p,q,⟨z,hz,hq⟩=>by
  simp only [qu,List.mem_cons] at hz
  rcases hz with rfl|hz
  ·cases hq
  ·exact HE g r p q ⟨z,hz,hq⟩
theorem ND: ∀{cs:List (K×E)} {nb:List CT},yM tb.tab Γ cs=some nb->nb.length=cs.length
 | [],nb,h=>by simp [yM] at h;subst h;rfl
 | (k,e)::r,nb,h=>by
  unfold yM at h
  split at h
  ·rename_i t ts h1 h2
   simp only [Option.some.injEq] at h;subst h
   simp [ND h2]
  ·simp at h
theorem QZ: ∀(nb:List CT) (m:Nat),(vars m nb).length=nb.length
 | [],_=>rfl
 | _::r,m=>by simp [vars,QZ r (m+1)]
theorem Tv{id:Nat}{cs cs':List (K×E)}(eI:σ (3*id+1)= .box cs){M0:Addr->Prop}:MM M0 bm tm (aV σ (3*id+1) (.box cs'))=MM M0 bm tm σ:=by
 funext p
 simp only [MM,jZ]
 apply propext
 constructor
 ·rintro (h|⟨i,q,q1,q2⟩|h)
  ·exact .inl h
  ·by_cases e:i=id
   ·subst e;exact .inr (.inl ⟨i,cs,eI,q2⟩)
   ·rw [fI _ e] at q1;exact .inr (.inl ⟨i,q,q1,q2⟩)
  ·exact .inr (.inr h)
 ·rintro (h|⟨i,q,q1,q2⟩|h)
  ·exact .inl h
  ·by_cases e:i=id
   ·subst e;exact .inr (.inl ⟨i,_,cm _ _ _,q2⟩)
   ·exact .inr (.inl ⟨i,q,by rw [fI _ e];exact q1,q2⟩)
  ·exact .inr (.inr h)
theorem ac3(hs:aL c F σ bm tm a w)(aB:bL tb.tab Γ c.env){g:Nat}{o:Oper}{cl:Call}{f:FuncId}{ti:TI}{rt:List (Nat×Nat)}(ho:o.op= .call cl)(hcl:cl.callee= .value (.func f))(hd: ∀d,o.dst=some d->d<c.nt)
  {x:Operand} {xs:List Operand} {T:Nat} {Ts:List Nat} (hxs:cl.args.toList=x::xs) {g':Gd} {id:Nat} (hp:yP (aQ tb σ T x)=some (g',id)) {aP:aT}
  (h:xH tb Γ gs o.dst σ rt ti f xs Ts g' id=some aP):fc P c F σ bm tm a w g gs Γ.length o aP:=by
 unfold xH at h
 split at h
 ·rename_i cs es eI hes
  split at h
  ·rename_i nb hnb
   split at h
   ·rename_i hc
    obtain ⟨dw,yB,hall⟩:=hc
    simp only [Option.some.injEq] at h;subst h
    have hlen:(vars (Γ.length+1) nb).length=cs.length:=by rw [QZ,ND hnb]
    have hgd:=Ma aB gs hall
    have GK:bB c.env gs->a.eval x= .pointer (some ⟨bm id,0,none⟩):=fun hg=>by
     unfold yP at hp
     split at hp
     ·rename_i g2 NC hst
      simp only [Option.some.injEq,Prod.mk.injEq] at hp
      obtain ⟨rfl,rfl⟩:=hp
      exact (mO hs hst).1.1 (xU yB hg)
     ·simp at hp
    obtain ⟨vs,T0,hblk,hrel,jy⟩:=hs.box id cs eI
    have hfr: ∀w',Fr w.heap.size (some (bm id)) w w'->Fr c.B c.X w w':=fun w' h2=>⟨h2.os,h2.tape,h2.output,h2.size,fun k hk hx=>h2.block k (Nat.lt_of_lt_of_le hk hs.hB) (by
     rintro ⟨rfl⟩
     rcases jy with jy|jy
     ·omega
     ·exact hx jy.2.symm)⟩
    refine ⟨fun hg hr K Q hK=> ?_,fun hn=> ?_⟩
    ·have e:(Value.pointer (some ⟨bm id,0,none⟩)::xs.map a.eval).toArray=cl.args.map a.eval:=by
      rw [<-Array.toList_inj];simp [hxs,GK hg]
     have hargs:=xu hs hg _ _ _ hes
     have rK:gU P c.env Γ.length (.call gs f (some (cs.map (·.2))) es ti.vt nb):=hr _ (by simp)
     obtain ⟨hf,hrun⟩:=rK hg
     unfold Oper.wp
     rw [wG hf ho hcl]
     simp only [Oper.upon]
     have:=hrun w (MM c.M0 bm tm σ) (bm id) (xs.map a.eval) hs.lZ hargs (fun cs' h'=>by
      simp only [Option.map_some,Option.some.injEq] at h'
      subst h'
      exact ⟨vs,T0,hblk,hrel.rs,jy.elim (fun h=>Nat.le_trans hs.m0.2.2.1 h) (fun h=>hs.m0.2.2.2 _ h.2),fun p hp=> .inr (.inl ⟨id,cs,eI,hp⟩)⟩)
     simp only [Option.map_some] at this
     rw [e] at this
     refine this.mono ?_
     rintro e' w' ⟨v,rfl,h1,h2,h3⟩
     obtain ⟨us,T1,hu1,kv⟩:=h3 rfl
     have hsb:=hs.D9 (cs':=qu (qW gs) (vars (Γ.length+1) nb) cs) eI (hfr w' h2) (fun k hk hne=>h2.block k hk (by simpa using hne)) (fun M' jf hk=>by
      subst jf
      exact ⟨us,T1,hu1,Pw (hgd.2 hg) hlen (zf nb _ us kv),jy⟩) fun q hq=>absurd hq (HE _ _ _ _)
     refine hK bm tm _ _ ?_
     rw [BP]
     refine aL.mono (F:=F) (hsb.kT hd ⟨fun _=> ?_,fun h=>absurd hg h⟩ fun x hx=>by simp [bX,Go.Proofs.YtimickglpboilaaGreatDoor.K.has] at hx) fun x hx=> .inl hx
     rw [Tv eI]
     simpa [bD,E.den] using h1
    ·have hb:((qW gs).den c.env).iZ=false:=by
      cases hq:((qW gs).den c.env).iZ with
      | false=>rfl
      | true=>exact absurd (hgd.1 hq) hn
     have hsb:=hs.D9 (cs':=qu (qW gs) (vars (Γ.length+1) nb) cs) eI ⟨rfl,rfl,rfl,Nat.le_refl _,fun _ _ _=>rfl⟩ (fun k hk hne=>rfl) (fun M' jf hk=>by
      subst jf
      exact ⟨vs,T0,hblk,Px hb hlen hrel,jy⟩) fun q hq=>absurd hq (HE _ _ _ _)
     rw [BP]
     exact aL.mono (F:=F) (hsb.kT hd (DX rfl hn) fun x hx=>by simp [bX,Go.Proofs.YtimickglpboilaaGreatDoor.K.has] at hx) fun x hx=> .inl hx
   ·simp at h
  ·simp at h
 ·simp at h
theorem ac2(hs:aL c F σ bm tm a w)(aB:bL tb.tab Γ c.env){g n:Nat}(jD: ∀x,ef g x-> ¬F x){o:Oper}{cl:Call}{f:FuncId}{ti:TI}{rt:List (Nat×Nat)}(ho:o.op= .call cl)(hcl:cl.callee= .value (.func f))(hd: ∀d,o.dst=some d->d<c.nt)(hn:n=Γ.length){aP:aT}
  (h:xG tb Γ gs o.dst σ g rt ti f cl.args.toList cl.argTypes.toList=some aP):fc P c F σ bm tm a w g gs n o aP:=by
 subst hn
 unfold xG at h
 split at h
 ·rename_i x xs T Ts hxs XV
  split at h
  ·rename_i g' id hp
   split at h
   ·rename_i cs es eI hes
    split at h
    ·rename_i nb hnb
     have GK:a.eval x= .pointer (some ⟨bm id,0,none⟩):=by
      unfold yP at hp
      split at hp
      ·rename_i g2 NC hst
       simp only [Option.some.injEq,Prod.mk.injEq] at hp
       obtain ⟨rfl,rfl⟩:=hp
       exact (mO hs hst).1.1 (aK _)
      ·simp at hp
     obtain ⟨vs,T0,hblk,hrel,jy⟩:=hs.box id cs eI
     have hid:bm id<w.heap.size:=(hs.box id cs eI).lt
     have hfr: ∀w',Fr w.heap.size (some (bm id)) w w'->Fr c.B c.X w w':=fun w' h2=>⟨h2.os,h2.tape,h2.output,h2.size,fun k hk hx=>h2.block k (Nat.lt_of_lt_of_le hk hs.hB) (by
      rintro ⟨rfl⟩
      rcases jy with jy|jy
      ·omega
      ·exact hx jy.2.symm)⟩
     have hargs:=xu hs (aK _) _ _ _ hes
     have e:(Value.pointer (some ⟨bm id,0,none⟩)::xs.map a.eval).toArray=cl.args.map a.eval:=by
      rw [<-Array.toList_inj];simp [hxs,GK]
     split at h
     ·simp only [Option.some.injEq] at h;subst h
      refine ⟨fun hg hr K Q hK=> ?_,fun hn=>absurd (aK _) hn⟩
      have rK:gU P c.env Γ.length (.call [] f (some (cs.map (·.2))) es ti.vt nb):=hr _ (by simp)
      obtain ⟨hf,hrun⟩:=rK hg
      unfold Oper.wp
      rw [wG hf ho hcl]
      simp only [Oper.upon]
      have:=hrun w (MM c.M0 bm tm σ) (bm id) (xs.map a.eval) hs.lZ hargs (fun cs' h'=>by
       simp only [Option.map_some,Option.some.injEq] at h'
       subst h'
       exact ⟨vs,T0,hblk,hrel.rs,jy.elim (fun h=>Nat.le_trans hs.m0.2.2.1 h) (fun h=>hs.m0.2.2.2 _ h.2),fun p hp=> .inr (.inl ⟨id,cs,eI,hp⟩)⟩)
      simp only [Option.map_some] at this
      rw [e] at this
      refine this.mono ?_
      rintro e' w' ⟨v,rfl,h1,h2,h3⟩
      obtain ⟨us,T1,hu1,kv⟩:=h3 rfl
      have hsb:=hs.D9 (cs':=vars (Γ.length+1) nb) eI (hfr w' h2) (fun k hk hne=>h2.block k hk (by simpa using hne)) (fun M' jf hk=>by
       subst jf
       exact ⟨us,T1,hu1,zf nb _ us kv,jy⟩) fun q hq=>absurd hq (BV _ _ _)
      refine hK bm tm _ _ ?_
      rw [BP]
      refine aL.mono (F:=F) (hsb.kT hd (dJ (aK _) ?_) fun x hx=>by simp [bX,Go.Proofs.YtimickglpboilaaGreatDoor.K.has] at hx) fun x hx=> .inl hx
      have hM:MM c.M0 bm tm (aV σ (3*id+1) (.box (vars (Γ.length+1) nb)))=MM c.M0 bm tm σ:=by
       funext p
       simp only [MM,jZ]
       apply propext
       constructor
       ·rintro (h|⟨i,q,q1,q2⟩|h)
        ·exact .inl h
        ·by_cases e:i=id
         ·subst e;exact .inr (.inl ⟨i,cs,eI,q2⟩)
         ·rw [fI _ e] at q1;exact .inr (.inl ⟨i,q,q1,q2⟩)
        ·exact .inr (.inr h)
       ·rintro (h|⟨i,q,q1,q2⟩|h)
        ·exact .inl h
        ·by_cases e:i=id
         ·subst e;exact .inr (.inl ⟨i,_,cm _ _ _,q2⟩)
         ·exact .inr (.inl ⟨i,q,by rw [fI _ e];exact q1,q2⟩)
        ·exact .inr (.inr h)
      rw [hM]
      simpa [bD,E.den] using h1
     ·split at h
      ·rename_i hl
       simp only [Option.some.injEq] at h;subst h
       refine ⟨fun hg hr K Q hK=> ?_,fun hn=>absurd (aK _) hn⟩
       have rK:gU P c.env Γ.length (.gA f (some (cs.map (·.2))) es ti.vt nb rt):=hr _ (by simp)
       obtain ⟨hsh,hf,hrun⟩:=rK
       unfold Oper.wp
       rw [wG hf ho hcl]
       simp only [Oper.upon]
       have:=hrun w (MM c.M0 bm tm σ) (bm id) (xs.map a.eval) hs.lZ hargs (fun cs' h'=>by
        simp only [Option.map_some,Option.some.injEq] at h'
        subst h'
        exact ⟨vs,T0,hblk,hrel.rs,jy.elim (fun h=>Nat.le_trans hs.m0.2.2.1 h) (fun h=>hs.m0.2.2.2 _ h.2),fun p hp=> .inr (.inl ⟨id,cs,eI,hp⟩)⟩)
       simp only [Option.map_some] at this
       rw [e] at this
       refine this.mono ?_
       rintro e' w' ⟨v,rfl,h1,h2,h4,h3⟩
       obtain ⟨us,T1,hu1,kv⟩:=h3 rfl
       obtain ⟨hS,qZ⟩:=hs.PD jD hl h4 (some id) (cs':=vars (Γ.length+1) nb) (fun i h=>by simp at h;subst h;exact ⟨cs,eI⟩) (hfr w' h2) (fun k hk hne=>h2.block k hk (by simpa using hne id rfl))
        (fun i M' tm' h jf=>by
         simp at h;subst h
         exact ⟨us,T1,hu1,zf nb _ us (Rs.keep (fun p u hp hn=>⟨hp,fun h=>hn (jf p h)⟩) _ _ kv),jy⟩) (fun x=>BV _ _ x)
       refine hK bm (kG tm g v rt) _ w' ?_
       have hnt: ∀p∈((3*id+1,ST.box (vars (Γ.length+1) nb))::iP g rt),∀d,p.1≠3*d:=fun p hp d=>by
        rcases List.mem_cons.1 hp with rfl|hp
        ·show 3*id+1≠3*d;omega
        ·exact Iw p hp d
       rw [zu hnt]
       show aL _ _ (cY (cY (lG σ (vars (Γ.length+1) nb) (some id)) (iP g rt)) _) _ _ _ _
       have hk:bb w' (fun p=>MM c.M0 bm tm σ p\/iK v rt p) w' (MM c.M0 bm (kG tm g v rt) (cY (lG σ (vars (Γ.length+1) nb) (some id)) (iP g rt))):=fun p u hp hn=>⟨hp,fun h=>hn (qZ p h)⟩
       refine hS.kT hd (dJ (aK _) (PN (vt:=ti.vt) (e:= .var Γ.length) hsh (R.keep hk _ _ h1))) fun x hx=> .inr ?_
       have:=PM (show (wE g rt ti.vt).has x from hx)
       exact ⟨this.1,by omega⟩
      ·simp at h
    ·simp at h
   ·exact ac3 hs aB ho hcl hd hxs hp h
  ·split at h
   ·rename_i es hes
    split at h
    ·rename_i hc
     simp only [Option.some.injEq] at h;subst h
     obtain ⟨rfl,_,hl⟩:=hc
     exact ⟨fun hg hr K Q hK=>ac4 hs jD ho hcl hd hl hes (hr _ (by simp)) K Q hK,fun hn=>absurd (aK _) hn⟩
    ·simp only [Option.some.injEq] at h;subst h
     refine ⟨fun hg hr K Q hK=>Qc (vt:=ti.vt) hs hg ho hcl hd hes (hr _ (by simp)) K Q hK,fun hg=> ?_⟩
     exact aL.mono (F:=F) (hs.kT hd (DX rfl hg) fun x hx=>by simp [bX,Go.Proofs.YtimickglpboilaaGreatDoor.K.has] at hx) fun x hx=> .inl hx
   ·simp at h
 ·rename_i hxs XV
  simp only [Option.some.injEq] at h;subst h
  refine ⟨fun hg hr K Q hK=>Qc (vt:=ti.vt) (es:=[]) (Ts:=[]) hs hg ho hcl hd (by rw [hxs];exact (rfl:jd tb Γ gs σ [] []=some [])) (hr _ (by simp)) K Q hK,fun hg=> ?_⟩
  exact aL.mono (F:=F) (hs.kT hd (DX rfl hg) fun x hx=>by simp [bX,Go.Proofs.YtimickglpboilaaGreatDoor.K.has] at hx) fun x hx=> .inl hx
 ·simp at h
theorem acI{f:FuncId}(hf:iy P f=true){o:Oper}{cl:Call}{t:Nat}{ps:Array Value}(ho:o.op= .call cl)(hcl:cl.callee= .value (.tmp t))(hv:a.eval (.tmp t)= .func (.func f) #[] ps):(execOp a.eval o).run P w= .ok (.enter f (cl.args.map a.eval++ps)) w:=by
 unfold iy at hf
 split at hf
 ·rename_i fn hfn
  simp only [Bool.and_eq_true,Bool.not_eq_true'] at hf
  obtain ⟨h1,h2⟩:=hf
  obtain ⟨b,hb⟩:=Option.isSome_iff_exists.1 h2
  have h1':(fn.name= "runtime.NumGoroutine")=False:=by
   apply eq_false
   intro e
   rw [e] at h1
   exact absurd h1 (by decide)
  simp [execOp,ho,resolve,hcl,hv,Deferred.ofValue,invoke,callFunc,hfn,hb,h1']
 ·simp at hf
end
end Go.Proofs.YtimickglpboilaaGreatDoor
