/- Each operation does to a world what the executor says it does: boxes, stores, calls. No program in sight. -/
import Derived.Test.YtimickglpboilaaGreatDoorF3
set_option linter.unusedVariables false
set_option linter.unusedSimpArgs false
set_option linter.unusedSectionVars false
namespace Go.Proofs.YtimickglpboilaaGreatDoor
open Go.RowKit
variable [GC]
section
variable {P:Program}{c:SC}{F:Nat->Prop}{σ:Nat->ST}{bm:Nat->Nat}{tm:Nat->Value}{a:Act}{w:World}{tb:TB}{Γ:List VT}{gs:Gd}
def eG(g:Nat):Nat->Prop:=fun x=>g<=x/\x<g+j8
theorem eG.self(g:Nat):eG g g:=⟨Nat.le_refl _,by unfold j8;omega⟩
theorem aM.tag{g:Nat}(h:aM c (fun x=>F x\/x=g) σ bm tm a w):aM c (fun x=>F x\/eG g x) σ bm tm a w :=
 h.mono fun x hx=>hx.imp id (fun e=>by subst e;exact eG.self x)
def fp(P:Program)(c:SC)(F:Nat->Prop)(σ:Nat->ST)(bm:Nat->Nat)(tm:Nat->Value)(a:Act)(w:World)(g:Nat)(gs:Gd)(n:Nat)(o:Oper)(aS:aU):Prop :=
 (bE c.env gs->(∀r∈aS.rq,hO P c.env n r)-> ∀(K:Act->World->Prop) (Q:Exit->Act->World->Prop),
  (∀cQ tm' a' w',aM c (fun x=>F x\/eG g x) (dm σ aS.wr) cQ tm' a' w'->K a' w')->o.wp P a w K Q) /\
 (¬bE c.env gs->aM c (fun x=>F x\/eG g x) (dm σ aS.wr) bm tm (a.put o.dst undef) w)
theorem fp.j6(hs:aM c F σ bm tm a w){g n:Nat}{o:Oper}{aS:aU}(hd: ∀d,o.dst=some d->d<c.nt)(h:ib P c F gs σ bm tm a w n o aS):fp P c F σ bm tm a w g gs n o aS:=by
 obtain ⟨st,hwr,hst,hm,hrun⟩:=h
 refine ⟨fun hg hr K Q hK=> ?_,fun hg=> ?_⟩
 ·obtain ⟨v,w',h1,h2,h3⟩:=hrun hg hr
  unfold Oper.wp
  rw [h1]
  refine hK bm tm _ _ ?_
  rw [hwr]
  exact ((hs.grow h2).kZ hd h3 hm).mono fun x hx=> .inl hx
 ·rw [hwr]
  exact (hs.kZ hd (Ee hst hg) hm).mono fun x hx=> .inl hx
theorem QS{l l':Nat}(h:l≠l')(s s':ST):aX (aX σ l s) l' s'=aX (aX σ l' s') l s:=by
 funext x
 simp only [aX]
 by_cases h1:x=l<;>by_cases h2:x=l'<;>simp_all
theorem BU{dst:Option Nat}{st s:ST}{g:Nat}:dm σ (wv dst st++[(3*g+1,s)])=dm (aX σ (3*g+1) s) (wv dst st):=by
 cases dst with
 | none=>rfl
 | some d=>exact QS (by omega) _ _
theorem Iw{M:Addr->Prop}{k:K}{e:E}{v:Value}(h:bG w M tm c.env k e v):cr w M tm c.env [(k,e)] [v]:=⟨v,[],rfl,h,rfl⟩
theorem Cp(hs:aM c F σ bm tm a w){g:Nat}(hg: ¬F g){dst:Option Nat}(hd: ∀d,dst=some d->d<c.nt){cs:List (K×E)}{vs:List Value}{T:TypeId}(hv:cr w (MM c.M0 bm tm σ) tm c.env cs vs)(hm: ∀x,(∃y∈cs,y.1.has x)->F x) :
  aM c (fun x=>F x\/eG g x) (dm σ (wv dst (.ptr [] g 0)++[(3*g+1,.box cs)])) (aX bm g w.heap.size) tm (a.put dst (.pointer (some ⟨w.heap.size,0,none⟩))) (w.alloc (.cells vs.toArray T)):=by
 rw [BU]
 refine aM.tag ((hs.aa1 hg hv hm).kZ hd ⟨fun _=>by rw [cu],fun h=>absurd (aP _) h⟩ fun x hx=> ?_)
 simp only [cf] at hx
 exact .inr hx
theorem aco(aI:cL P tb tb=true)(hs:aM c F σ bm tm a w)(aB:bQ tb.tab Γ c.env){g n:Nat}(hg: ¬F g){o:Oper}{x:Operand}{T:Nat}(ho:o.op= .box T x)(hd: ∀d,o.dst=some d->d<c.nt){aS:aU}
  (h:FJ tb.tab Γ gs o.dst g (aT tb σ T x)=some aS):fp P c F σ bm tm a w g gs n o aS:=by
 unfold FJ at h
 split at h
 ·rename_i k e hx
  have fq:=(cW hs hx).1 (aP _)
  have rA:=(cW hs hx).2
  refine ⟨fun _ _ K Q hK=> ?_,fun hn=>absurd (aP _) hn⟩
  split at h
  ·rename_i t he
   simp only [Option.some.injEq] at h;subst h
   have hc:=(tg (E.cZ aB e _ he) fq.rd).1
   have hrun:(execOp a.eval o).run P w= .ok (.value (.pointer (some ⟨w.heap.size,0,none⟩))) (w.alloc (.cells [a.eval x].toArray T)):=by
    simp [execOp,ho,Instr.box,newVar,newRow,hc]
   unfold Oper.wp;rw [hrun]
   exact hK _ _ _ _ (Cp hs hg hd (Iw fq) fun y ⟨z,hz,hy⟩=>by simp at hz;subst hz;exact rA y hy)
  ·rename_i ts he
   simp only [Option.some.injEq] at h;subst h
   obtain ⟨l,hl,hlt⟩:=gX (E.cZ aB e _ he)
   have jr:=fq.rd
   rw [hl] at jr
   obtain ⟨vs,hvs,hrs⟩:=jr
   have hrun:(execOp a.eval o).run P w= .ok (.value (.pointer (some ⟨w.heap.size,0,none⟩))) (w.alloc (.cells vs.toList.toArray T)):=by
    simp [execOp,ho,Instr.box,newVar,newRow,hvs,Value.cells]
   unfold Oper.wp;rw [hrun]
   refine hK _ _ _ _ (Cp hs hg hd (by rw [<-hlt.length];exact Iv hl hrs (by rw [hvs] at fq;simpa using fq)) fun y hy=>rA y (E8 hy))
  ·simp at h
 ·simp at h
theorem aci(aI:cL P tb tb=true)(hs:aM c F σ bm tm a w){g n:Nat}(hg: ¬F g){o:Oper}{T:Nat}(ho:o.op= .alloc T)(hd: ∀d,o.dst=some d->d<c.nt){ti:TI}(aQ:tb.get T=some ti){aS:aU}
  (h:FG gs o.dst g ti=some aS):fp P c F σ bm tm a w g gs n o aS:=by
 unfold FG at h
 split at h
 ·rename_i v hv
  simp only [Option.some.injEq] at h;subst h
  refine ⟨fun _ _ K Q hK=> ?_,fun hn=>absurd (aP _) hn⟩
  have hno: ∀x,(∃y∈v.cells.map rW,y.1.has x)->F x:=fun y ⟨z,hz,hy⟩=>by
   simp only [List.mem_map] at hz
   obtain ⟨t,_,rfl⟩:=hz
   cases t<;>simp [rW,Go.Proofs.YtimickglpboilaaGreatDoor.K.has] at hy
  cases v with
  | c t =>
   obtain ⟨i,d,hi,_,_,⟨z,hz,hzv⟩,_⟩:=fk aI aQ hv
   have Bc:=(EN (w:=w) (M:=MM c.M0 bm tm σ) (tm:=tm) (c:=c) hzv).2
   have Y4:z.cells= #[z]:=by cases t<;>cases z<;>simp [zeroV] at hzv<;>rfl
   have hrun:(execOp a.eval o).run P w= .ok (.value (.pointer (some ⟨w.heap.size,0,none⟩))) (w.alloc (.cells [z].toArray T)):=by
    simp [execOp,ho,Instr.alloc,zeroValue,run_typeInfo hi,hz,newVar,newRow,Y4]
   unfold Oper.wp;rw [hrun]
   exact hK _ _ _ _ (Cp hs hg hd (cs:=[rW t]) (Iw Bc) hno)
  | agg ts =>
   obtain ⟨i,f,cs,hi,_,_,hz,hzv,_⟩:=lG aI aQ hv
   have Bc:=(EO (w:=w) (M:=MM c.M0 bm tm σ) (tm:=tm) (c:=c) hzv).2
   have hrun:(execOp a.eval o).run P w= .ok (.value (.pointer (some ⟨w.heap.size,0,none⟩))) (w.alloc (.cells cs.toList.toArray T)):=by
    simp [execOp,ho,Instr.alloc,zeroValue,run_typeInfo hi,hz,newVar,newRow,Value.cells]
   unfold Oper.wp;rw [hrun]
   exact hK _ _ _ _ (Cp hs hg hd Bc hno)
 ·simp at h
theorem acQ(aI:cL P tb tb=true)(hs:aM c F σ bm tm a w)(aB:bQ tb.tab Γ c.env){g n:Nat}{o:Oper}{y x:Operand}{T T1 T2:Nat}(ho:o.op= .store T y x){ti:TI}(aQ:tb.get T=some ti){aS:aU}
  (h:th tb.tab Γ gs o.dst σ ti (aT tb σ T1 y) (aT tb σ T2 x)=some aS):fp P c F σ bm tm a w g gs n o aS:=by
 unfold th at h
 split at h
 ·rename_i dst g' id off k e jJ hy hx
  obtain ⟨st,h2,h3⟩:=oJ hy
  have hp:=zl h3 (mG hs h2).1 (aP _)
  have fq:=(cW hs hx).1 (aP _)
  have rA:=(cW hs hx).2
  refine ⟨fun _ _ K Q hK=> ?_,fun hn=>absurd (aP _) hn⟩
  split at h
  ·rename_i cs eU
   obtain ⟨vs,T0,hblk,hrel,jG⟩:=hs.box id cs eU
   have hgo: ∀(news:List (Go.Proofs.YtimickglpboilaaGreatDoor.K×E)) (vals:List Value) (i:TypeInfo),P.info? T=some i->(a.eval x).cells.toList=vals->vals.length=i.size->(∀v∈vals,v.oneCell'=true)->off+vals.length<=cs.length->cr w (MM c.M0 bm tm σ) tm c.env news vals->(∀q,(∃z∈news,z.1.has q)->F q) ->
     aS=⟨[(3*id+1,.box (iT cs off news))],[]⟩->o.wp P a w K Q:=by
    intro news vals i hi hcl ru hone hle hnew hnm AA
    subst AA
    have hlen:=hrel.length
    obtain ⟨w',h1,h4,h5⟩:=ze (P:=P) (bm id) T0 vals w vs.toArray off 0 hblk hone (by simp;omega)
    have hsz:(a.eval x).cells.size=i.size:=by rw [<-Array.length_toList,hcl,ru]
    have hrun:(execOp a.eval o).run P w= .ok .skip w':=by
     simp [execOp,ho,hp,Instr.storeAt,Instr.sureAddr,storeVar,run_sizeOf hi,hsz,hcl,h1]
    unfold Oper.wp;rw [hrun]
    simp only [Oper.upon,jJ,Act.put]
    refine hK bm tm a w' (aM.mono (F:=F) ?_ fun x hx=> .inl hx)
    refine hs.Eo eU (Fr.D7 h5 (jG.imp (fun h=>h) (fun h=>h.2))) (fun k _ hk=>h5.block k hk) (fun M' jk hk=> ?_) fun q ⟨z,hz,hq⟩=> ?_
    ·refine ⟨(fK vs.toArray off vals).toList,T0,by simpa using h4,?_,jG⟩
     rw [wH]
     exact cr.keep (tm':=tm) hk (fun _ _=>rfl) (cr.iT hnew off hrel)
    ·rcases H7 _ _ _ hz with hz|hz
     ·exact hs.f1 (3*id+1) q (by rw [eU];exact ⟨z,hz,hq⟩)
     ·exact hnm q ⟨z,hz,hq⟩
   split at h
   ·rename_i t t' hv he
    split at h
    ·rename_i hoff
     simp only [Option.some.injEq] at h
     obtain ⟨i,d,hi,hsz,_⟩:=fk aI aQ hv
     obtain ⟨hc1,hc2⟩:=tg (E.cZ aB e _ he) fq.rd
     exact hgo [(k,e)] [a.eval x] i hi (by rw [hc1]) (by simp [hsz]) (by simpa using hc2) (by simp only [List.length_cons,List.length_nil];omega) (Iw fq) (fun q ⟨z,hz,hq⟩=>by simp at hz;subst hz;exact rA q hq) (by rw [<-h];rfl)
    ·simp at h
   ·rename_i ts us hv he
    split at h
    ·rename_i hc
     simp only [Option.some.injEq] at h
     obtain ⟨i,f,z,hi,hsz,_⟩:=lG aI aQ hv
     obtain ⟨l,hl,hlt⟩:=gX (E.cZ aB e _ he)
     have jr:=fq.rd
     rw [hl] at jr
     obtain ⟨B0,rC,hrs⟩:=jr
     have hl1:=hrs.length
     have fG:=hlt.length
     refine hgo (apart k ts.length e) B0.toList i hi (by rw [rC];rfl) (by rw [hl1,fG,hsz];exact hc.1.symm) (CA hlt hrs) (by rw [hl1,fG, <-hc.1];exact hc.2) ?_ (fun q hq=>rA q (E8 hq)) h.symm
     rw [hc.1, <-fG];exact Iv hl hrs (by rw [rC] at fq;simpa using fq)
    ·simp at h
   ·simp at h
  ·simp at h
 ·simp at h
def gK(σ:Nat->ST):Option Nat->Nat->ST
 | none=>σ
 | some h=>aX σ (3*h+2) .un
theorem KI{oh:Option Nat}(t:Nat):gK σ oh (3*t)=σ (3*t):=by cases oh<;>simp only [gK];exact BV _ _ _
theorem uS{oh:Option Nat}(id:Nat):gK σ oh (3*id+1)=σ (3*id+1):=by cases oh<;>simp only [gK];exact nL _ _ _
theorem oN{oh:Option Nat}{g:Nat}{n:LV}(h:gK σ oh (3*g+2)= .live n):σ (3*g+2)= .live n/\oh≠some g:=by
 cases oh with
 | none=>exact ⟨h,by simp⟩
 | some k =>
  simp only [gK] at h
  by_cases e:g=k
  ·subst e;rw [cu] at h;cases h
  ·rw [jR _ e] at h;exact ⟨h,fun x=>e (by simpa using x.symm)⟩
theorem KH{oh:Option Nat}{l x:Nat}(h:cf (gK σ oh l) x):cf (σ l) x:=by
 cases oh with
 | none=>exact h
 | some k =>
  simp only [gK] at h
  by_cases e:l=3*k+2
  ·subst e;rw [cu] at h;exact h.elim
  ·rwa [eD _ _ e] at h
theorem kH.congr{tm':Nat->Value}{g:Nat}{n:LV}{p:Addr}(ht:tm' g=tm g)(hv: ∀x,cf (.live n) x->tm' x=tm x)(h:kH tm' g n p):kH tm g n p:=by
 unfold kH at *
 rw [ht] at h
 rcases h with h|⟨e,gv,ms,cells,u,h1,h2,h3⟩
 ·exact .inl h
 ·exact .inr ⟨e,gv,ms,cells,u,h1,by rw [<-hv gv ⟨e,ms,h1⟩];exact h2,h3⟩
theorem aM.Qg{w':World}(hs:aM c F σ bm tm a w){F':Nat->Prop}{g:Nat}{n0 n':LV}(oh:Option Nat)(hg:σ (3*g+2)= .live n0)(hb0:n0.body≠none)
  (tU: ∀h,oh=some h->h≠g/\ ∃nh,σ (3*h+2)= .live nh/\nh.body≠none) {tm':Nat->Value} (gu: ∀x,F x->tm' x=tm x) (hF: ∀x,F x->F' x)
  (hblk: ∀b,db tm' g n' b->db tm g n0 b\/ ∃h nh,oh=some h/\σ (3*h+2)= .live nh/\db tm h nh b)
  (hfr:Fr c.B c.X w w') (eS: ∀k,k<w.heap.size-> ¬db tm g n0 k->w'.heap[k]? =w.heap[k]?)
  (hok:lK c w' tm' g n') (rA: ∀x,cf (.live n') x->F' x) :
  aM c F' (aX (gK σ oh) (3*g+2) (.live n')) bm tm' a w':=by
 have hlo: ∀x m,x≠g->aX (gK σ oh) (3*g+2) (.live n') (3*x+2)= .live m->σ (3*x+2)= .live m/\oh≠some x:=fun x m e h=>by
  rw [jR _ e] at h;exact oN h
 have hbx: ∀id cs,aX (gK σ oh) (3*g+2) (.live n') (3*id+1)= .box cs->σ (3*id+1)= .box cs:=fun id cs h=>by
  rw [nL,uS] at h;exact h
 have dU: ∀x m,σ (3*x+2)= .live m->tm' x=tm x/\ ∀y,cf (.live m) y->tm' y=tm y:=fun x m h=>⟨gu x (hs.f3 x m h),fun y hy=>gu y (hs.f1 (3*x+2) y (by rw [h];exact hy))⟩
 have hM: ∀p,MM c.M0 bm tm' (aX (gK σ oh) (3*g+2) (.live n')) p->MM c.M0 bm tm σ p:=by
  rintro p (h|⟨id,cs,h1,h2⟩|⟨x,m,h1,h2⟩)
  ·exact .inl h
  ·exact .inr (.inl ⟨id,cs,hbx id cs h1,h2⟩)
  ·by_cases e:x=g
   ·subst e;rw [cu] at h1;simp at h1;subst h1
    rcases hblk _ (D8 h2) with h|⟨h',nh,q1,q2,q3⟩
    ·exact .inr (.inr ⟨x,_,hg,Il hb0 h⟩)
    ·obtain ⟨_,nh',q4,q5⟩:=tU h' q1
     rw [q2] at q4;cases q4
     exact .inr (.inr ⟨h',nh,q2,Il q5 q3⟩)
   ·obtain ⟨q1,_⟩:=hlo x m e h1
    exact .inr (.inr ⟨x,m,q1,kH.congr (dU x m q1).1 (dU x m q1).2 h2⟩)
 have hk:bo w (MM c.M0 bm tm σ) w' (MM c.M0 bm tm' (aX (gK σ oh) (3*g+2) (.live n'))):=fun p v hp hn=>by
  refine ⟨?_,fun h=>hn (hM p h)⟩
  rw [<-hp]
  exact World.cell?_of_block (eS _ (block_lt_of_cell hp) fun hb=>hn (.inr (.inr ⟨g,_,hg,Il hb0 hb⟩)))
 have hb1: ∀id cs b,σ (3*id+1)= .box cs->db tm' g n' b->bm id≠b:=fun id cs b h hb=>by
  rcases hblk b hb with h1|⟨h',nh,_,q2,q3⟩
  ·exact hs.iC id cs g n0 b h hg h1
  ·exact hs.iC id cs h' nh b h q2 q3
 have hb2: ∀x m b b',x≠g->oh≠some x->σ (3*x+2)= .live m->db tm x m b->db tm' g n' b'->b≠b':=fun x m b b' e hx h hb hb'=>by
  rcases hblk b' hb' with h1|⟨h',nh,q1,q2,q3⟩
  ·exact hs.iD x m g n0 b b' h hg e hb h1
  ·exact hs.iD x m h' nh b b' h q2 (fun e'=>hx (by rw [e'];exact q1)) hb q3
 refine hs.turn (fun t=>by rw [BV,KI]) (fun x hx=>⟨rfl,gu x hx⟩) hF hfr hk ?_ ?_ ?_ ?_ ?_ ?_ ?_ ?_
 ·intro id cs h
  have h:=hbx id cs h
  exact (hs.box id cs h).keep hk rfl (eS _ (hs.box id cs h).lt fun hb=>hs.iC id cs g n0 _ h hg hb rfl) fun x hx=>gu x (hs.f1 (3*id+1) x (by rw [h];exact hx))
 ·intro x m h
  by_cases e:x=g
  ·subst e;rw [cu] at h;simp at h;subst h;exact hok
  ·obtain ⟨q1,_⟩:=hlo x m e h
   exact (hs.live x m q1).keep (fun b hb=>eS _ ((hs.live x m q1).lt hb) fun hb'=>hs.iD x m g n0 b b q1 hg e hb hb' rfl) (dU x m q1).1 (dU x m q1).2
 ·intro id id' cs cs' h h'
  exact hs.kD id id' cs cs' (hbx _ _ h) (hbx _ _ h')
 ·intro id cs x m b h hx hb
  by_cases e:x=g
  ·subst e;rw [cu] at hx;simp at hx;subst hx;exact hb1 id cs b (hbx _ _ h) hb
  ·obtain ⟨q1,_⟩:=hlo x m e hx
   exact hs.iC id cs x m b (hbx _ _ h) q1 ((db.congr (dU x m q1).1 (dU x m q1).2).1 hb)
 ·intro x m y m' b b' hx hy hne hb hb'
  by_cases e:x=g<;>by_cases e':y=g
  ·exact absurd (e.trans e'.symm) hne
  ·subst e;rw [cu] at hx;simp at hx;subst hx
   obtain ⟨q1,q2⟩:=hlo y m' e' hy
   exact (hb2 y m' b' b e' q2 q1 ((db.congr (dU y m' q1).1 (dU y m' q1).2).1 hb') hb).symm
  ·subst e';rw [cu] at hy;simp at hy;subst hy
   obtain ⟨q1,q2⟩:=hlo x m e hx
   exact hb2 x m b b' e q2 q1 ((db.congr (dU x m q1).1 (dU x m q1).2).1 hb) hb'
  ·obtain ⟨q1,_⟩:=hlo x m e hx
   obtain ⟨p1,_⟩:=hlo y m' e' hy
   exact hs.iD x m y m' b b' q1 p1 hne ((db.congr (dU x m q1).1 (dU x m q1).2).1 hb) ((db.congr (dU y m' p1).1 (dU y m' p1).2).1 hb')
 ·intro l x h
  by_cases e:l=3*g+2
  ·subst e;rw [cu] at h;exact rA x h
  ·rw [eD _ _ e] at h;exact hF _ (hs.f1 l x (KH h))
 ·intro id cs h;exact hF _ (hs.f2 id cs (hbx _ _ h))
 ·intro x m h
  by_cases e:x=g
  ·subst e;exact hF _ (hs.f3 x n0 hg)
  ·exact hF _ (hs.f3 x m (hlo x m e h).1)
theorem acW{α:Type}{l r:List α}{off:Nat}(hr:off+r.length<=l.length): ∀j x,(oC l off r)[j]? =some x->(off<=j/\j<off+r.length/\r[j-off]? =some x)\/((j<off\/off+r.length<=j)/\l[j]? =some x):=by
 intro j x h
 rw [BG] at h
 split at h
 ·rename_i hc;exact .inl ⟨hc.1,hc.2.1,h⟩
 ·rename_i hc
  refine .inr ⟨?_,h⟩
  have:=(List.getElem?_eq_some_iff.1 h).1
  omega
theorem acU(C:Array Value)(o:Nat)(vals:List Value)(x:Nat):(fK C o vals)[x]? =if o<=x/\x<o+vals.length/\x<C.size then vals[x-o]? else C[x]? :=by
 have: ∀(l:List Value) (cs:List Value) (q:Nat),iT cs q l=oC cs q l:=by
  intro l
  induction l with
  | nil=>intro cs q;rfl
  | cons y l ih=>intro cs q;simp [iT,oC,ih]
 rw [<-Array.getElem?_toList,wH,this,BG]
 simp
theorem nO.aX{w':World}{v:Value}{n:Nat}{Q Q':Nat->Nat->D->Value->Prop}{d0:D}{k off:Nat}{l:List D}(hb:nO w v n Q d0){b o len cap:Nat}(hv:v= .slice (some ⟨b,o,none⟩) len cap)(hk:k<len){C:Array Value}{T:TypeId}
  {vals:List Value} (hw:w.heap[b]? =some (.cells C T (0,0))) (hl:vals.length=l.length) (hoff:off+vals.length<=n) (hsz:o+cap*n<=C.size)
  (hnew: ∀(j:Nat) (d:D),l[j]? =some d-> ∃u,vals[j]? =some u/\Q' k (off+j) d u) (hold: ∀(i j:Nat) (d:D) (u:Value),j<n->i≠k\/j<off\/off+l.length<=j->Q i j d u->Q' i j d u)
  (hw':w'.heap[b]? =some (.cells (fK C (o+k*n+off) vals) T (0,0))):nO w' v n Q' (.sl (mR d0.mc k off l)):=by
 obtain ⟨a',len',cap',rows,h1,h2,h3,h4,h5,h6,h7,h8⟩:=hb
 rw [hv] at h1
 simp only [Value.slice.injEq] at h1
 obtain ⟨rfl,rfl,rfl⟩:=h1
 subst h2
 have hkl:k<rows.length:=by omega
 have p2:rows[k]? =some rows[k]:=List.getElem?_eq_getElem hkl
 have p3:rows[k].length=n:=h7 _ (List.getElem_mem hkl)
 have p6:=(h8 b o none rfl).2 k _ p2
 refine ⟨_,len,cap,mR rows k off l,hv,rfl,by simp [mR];exact h3,h4,h5,h6,?_,fun b' o' s' he=>⟨fun _=>by cases he;rfl,?_⟩⟩
 ·intro z hz
  unfold mR at hz
  rcases List.mem_or_eq_of_mem_set hz with h|h
  ·exact h7 z h
  ·subst h;rw [D0];simpa [List.getD,p2] using p3
 ·cases he
  intro x z hz j d hj
  have hx:x<rows.length:=by
   have:=(List.getElem?_eq_some_iff.1 hz).1
   simpa [mR] using this
  have hw0: ∀q,w.cell? ⟨b,q,none⟩=C[q]? :=fun q=>cell_of_row w b q _ T _ hw
  have hw1: ∀q,w'.cell? ⟨b,q,none⟩=(fK C (o+k*n+off) vals)[q]? :=fun q=>cell_of_row w' b q _ T _ hw'
  have hzl:z.length=n:=by
   have:z∈mR rows k off l:=List.mem_of_getElem? hz
   unfold mR at this
   rcases List.mem_or_eq_of_mem_set this with h|h
   ·exact h7 z h
   ·subst h;rw [D0];simpa [List.getD,p2] using p3
  have hjn:j<n:=by rw [<-hzl];exact (List.getElem?_eq_some_iff.1 hj).1
  rw [hw1,acU]
  unfold mR at hz
  rw [List.getElem?_set] at hz
  by_cases e:k=x
  ·subst e
   rw [if_pos rfl,if_pos hx] at hz
   simp only [Option.some.injEq] at hz
   subst hz
   simp only [List.getD,p2,Option.getD_some] at hj
   rcases acW (by rw [<-hl,p3];exact hoff) j d hj with ⟨q1,q2,q3⟩|⟨q1,q2⟩
   ·obtain ⟨u,hu,hlf⟩:=hnew _ d q3
    refine ⟨u,?_,by rwa [show off+(j-off)=j by omega] at hlf⟩
    have hb2:k*n+n<=cap*n:=by
     have:(k+1)*n<=cap*n:=Nat.mul_le_mul_right _ (by omega)
     rwa [Nat.add_mul,Nat.one_mul] at this
    rw [if_pos (by omega), <-hu]
    congr 1;omega
   ·obtain ⟨u,hu,hlf⟩:=p6 j d q2
    refine ⟨u,?_,hold _ _ _ _ hjn (.inr q1) hlf⟩
    rw [hw0] at hu
    rw [if_neg (by omega)];exact hu
  ·rw [if_neg e] at hz
   obtain ⟨u,hu,hlf⟩:=(h8 b o none rfl).2 x z hz j d hj
   refine ⟨u,?_,hold _ _ _ _ hjn (.inl (fun h=>e h.symm)) hlf⟩
   rw [hw0] at hu
   have hne: ¬(o+k*n+off<=o+x*n+j/\o+x*n+j<o+k*n+off+vals.length/\o+x*n+j<C.size):=by
    rintro ⟨g1,g2,_⟩
    rcases Nat.lt_or_gt_of_ne e with h|h
    ·have:(k+1)*n<=x*n:=Nat.mul_le_mul_right _ h
     rw [Nat.add_mul,Nat.one_mul] at this
     omega
    ·have:(x+1)*n<=k*n:=Nat.mul_le_mul_right _ h
     rw [Nat.add_mul,Nat.one_mul] at this
     omega
   rw [if_neg hne];exact hu
theorem oI.store{w':World}{B n b:Nat}{v:Value}{C:Array Value}{T:TypeId}{o:Nat}{vals:List Value}(h:oI B w v n)(h1:fD w w' b)(hw:w.heap[b]? =some (.cells C T (0,0)))(hw':w'.heap[b]? =some (.cells (fK C o vals) T (0,0))):oI B w' v n:=fun b' o' s len cap he hl=>by
 obtain ⟨q1,q2,cells,T',q3,q4⟩:=h b' o' s len cap he hl
 refine ⟨q1,q2,?_⟩
 by_cases e:b'=b
 ·subst e
  rw [hw] at q3
  simp only [Option.some.injEq,Obj.cells.injEq] at q3
  obtain ⟨rfl,rfl,_⟩:=q3
  exact ⟨_,T,hw',by rw [BI];exact q4⟩
 ·exact ⟨cells,T',by rw [h1.block _ e];exact q3,q4⟩
theorem HO{tab:Nat->List CT}{t:CT}{d:D}{v:Value}{M:Addr->Prop}(ht:bW tab t d)(hl:qf t=true)(h:R w M d v):rZ d v:=by
 cases t with
 | bool=>obtain ⟨b,rfl⟩:=nk ht;exact fun _ _=>h
 | int k=>obtain ⟨n,rfl⟩:=nX ht;exact fun _ _=>h
 | str=>obtain ⟨s,rfl⟩:=mB ht;exact fun _ _=>h
 | sl e=>simp [qf] at hl
 | mem=>simp [qf] at hl
 | fn=>simp [qf] at hl
theorem Oc{tab:Nat->List CT}{M:Addr->Prop}: ∀{ts:List CT} {l:List D} {vs:List Value},ba tab ts l->rH ts=true->Rs w M l vs-> ∀(j:Nat) (d:D),l[j]? =some d-> ∃u,vs[j]? =some u/\rZ d u
 | [],[],_,_,_,_,j,d,hd=>by simp at hd
 | t::ts,d::ds,vs,ht,hl,⟨u,q,e,h1,h2⟩,j,d',hd=>by
  subst e
  simp only [ba] at ht
  simp only [rH,List.all_cons,Bool.and_eq_true] at hl
  cases j with
  | zero=>simp at hd;subst hd;exact ⟨u,rfl,HO ht.1 hl.1 h1⟩
  | succ j=>simp at hd;simpa using Oc ht.2 hl.2 h2 j d' hd
 | [],_::_,_,h,_,_,_,_,_=>by simp [ba] at h
 | _::_,[],_,h,_,_,_,_,_=>by simp [ba] at h
theorem aaT{n i j k off:Nat}(hj:j<n)(ho:off<n)(h:i*n+j=k*n+off):i=k/\j=off:=by
 rcases Nat.lt_trichotomy i k with e|e|e
 ·have:(i+1)*n<=k*n:=Nat.mul_le_mul_right _ e
  rw [Nat.add_mul,Nat.one_mul] at this
  omega
 ·subst e;omega
 ·have:(k+1)*n<=i*n:=Nat.mul_le_mul_right _ e
  rw [Nat.add_mul,Nat.one_mul] at this
  omega
theorem acG(aI:cL P tb tb=true)(hs:aM c F σ bm tm a w)(aB:bQ tb.tab Γ c.env){g0 n:Nat}(hg0: ¬F g0){o:Oper}{y x:Operand}{T T1 T2:Nat}(ho:o.op= .store T y x)(jJ:o.dst=none){ti:TI}(aQ:tb.get T=some ti){g m:Nat}{i:E}{off:Nat}(hy:aT tb σ T1 y=some (.mp [] g m i off)){aS:aU}
  (h:CU tb Γ σ g0 ti g m i off (aT tb σ T2 x)=some aS):fp P c F σ bm tm a w g0 [] n o aS:=by
 unfold CU at h
 split at h
 ·rename_i n' e dp k ex hlv hx
  split at h
  ·rename_i el mE
   split at h
   ·rename_i hc
    obtain ⟨rfl,hn⟩:=hc
    obtain ⟨h4,_⟩:=mG hs hy
    obtain ⟨b,o',len,cap,q1,q2,q3,q4⟩:=h4.1 (aP _)
    have fq:=(cW hs hx).1 (aP _)
    have iG:=hs.live g _ hlv
    obtain ⟨_,_,alD,r0,e0,hd0,hr0,aja,_,_,hlc,_⟩:=PK (iG.bd e dp rfl) q1 q3
    have hcap:0<cap:=by omega
    have Ap:bM (tm g) b:=⟨o',none,len,cap,q1,hcap⟩
    obtain ⟨_,Af,C,T0,hblk,hsz⟩:=iG.sp b o' none len cap q1 hcap
    simp only at hsz
    have iF: ∀r:E,(E.aX e i r off).den c.env= .sl (mR (e.den c.env).mc (i.den c.env).cC.toNat off (r.den c.env).il):=fun _=>rfl
    have hb2:(i.den c.env).cC.toNat*m+m<=cap*m:=by
     have:((i.den c.env).cC.toNat+1)*m<=cap*m:=Nat.mul_le_mul_right _ (by omega)
     rwa [Nat.add_mul,Nat.one_mul] at this
    have hst: ∀(vals:List Value) (i':TypeInfo),P.info? T=some i'->(a.eval x).cells.toList=vals->vals.length=i'.size->(∀v∈vals,v.oneCell'=true)->off+vals.length<=m ->
      ∃w',(execOp a.eval o).run P w= .ok .skip w'/\w'.heap[b]? =some (.cells (fK C (o'+(i.den c.env).cC.toNat*m+off) vals) T0 (0,0))/\fD w w' b:=by
     intro vals i' hi hcl ru hone hle
     obtain ⟨w',h1,h4,h5⟩:=ze (P:=P) b T0 vals w C (o'+(i.den c.env).cC.toNat*m+off) 0 hblk hone (by omega)
     have yF:(a.eval x).cells.size=i'.size:=by rw [<-Array.length_toList,hcl,ru]
     rw [Nat.add_zero] at h4
     exact ⟨w',by simp [execOp,ho,q4,Instr.storeAt,Instr.sureAddr,storeVar,run_sizeOf hi,yF,hcl,h1],h4,h5⟩
    refine ⟨fun _ _ K Q hK=> ?_,fun hn=>absurd (aP _) hn⟩
    have hgo: ∀(r:E) (vals:List Value) (i':TypeInfo),P.info? T=some i'->(a.eval x).cells.toList=vals->vals.length=i'.size->(∀v∈vals,v.oneCell'=true)->off+vals.length<=m->vals.length=(r.den c.env).il.length->C9 dp off vals.length=true ->
      (∀(j:Nat) (d:D),(r.den c.env).il[j]? =some d-> ∃u,vals[j]? =some u/\rZ d u)->aS=⟨[(3*g+2,.live ⟨m,some (.aX e i r off,dp)⟩)],[]⟩->o.wp P a w K Q:=by
     intro r vals i' hi hcl ru hone hle hrl Dt Yh AA
     subst AA
     obtain ⟨w',hrun,h4,h5⟩:=hst vals i' hi hcl ru hone hle
     unfold Oper.wp;rw [hrun]
     simp only [Oper.upon,jJ,Act.put]
     refine hK bm tm a w' (aM.mono (F:=F) ?_ fun x hx=> .inl hx)
     have AG: ∀gv ms cells u b',dp=some (gv,ms)->tm gv= .tuple cells->u∈cells.toList->bM u b'->w'.heap[b']? =w.heap[b']? :=fun gv ms cells u b' hd hcl hu qQ=>by
      subst hd
      obtain ⟨cells',z1,_,_,z4⟩:=iG.dp e gv ms rfl
      rw [hcl] at z1;cases z1
      exact h5.block _ fun eb=>z4 u hu b' qQ (eb▸Ap)
     refine hs.Qg none hlv (by simp) (by simp) (fun _ _=>rfl) (fun _ h=>h) (fun b' hb'=> .inl ?_) (Fr.D7 h5 (.inl Af)) (fun k hk hnb=>h5.block _ fun e'=>hnb (e'▸ .inl Ap)) ⟨?_,fun e' mX he'=> ?_,fun e' gv ms he'=> ?_⟩ fun z hz=> ?_
     ·rcases hb' with hb'|⟨e',gv,ms,cells,u,z1,z2⟩
      ·exact .inl hb'
      ·simp only [Option.some.injEq,Prod.mk.injEq] at z1
       exact .inr ⟨e,gv,ms,cells,u,by rw [z1.2],z2⟩
     ·exact iG.sp.store h5 hblk h4
     ·simp only [Option.some.injEq,Prod.mk.injEq] at he'
      obtain ⟨rfl,rfl⟩:=he'
      rw [iF]
      refine (iG.bd e dp rfl).aX q1 q3 hblk hrl hle hsz (fun j d hj=> ?_) (fun i2 j2 d u hj2 _ hq=> ?_) h4
      ·obtain ⟨u,hu,hlf⟩:=Yh j d hj
       refine ⟨u,hu,?_⟩
       rcases dp with _|⟨gv,ms⟩
       ·exact hlf
       ·have hjl:=(List.getElem?_eq_some_iff.1 hu).1
        simp only [C9,List.all_eq_true,List.mem_range] at Dt
        exact ⟨fun _=>hlf,fun hne=>absurd (Nat.eq_of_beq_eq_true (Dt j hjl)) hne⟩
      ·exact hq.keep (fun _ _ _=>rfl) AG
     ·simp only [Option.some.injEq,Prod.mk.injEq] at he'
      obtain ⟨cells,z1,z2,z3,z4⟩:=iG.dp e gv ms (by rw [he'.2])
      refine ⟨cells,z1,fun u hu=> ?_,z3,z4⟩
      obtain ⟨m',hm'⟩:=z2 u hu
      exact ⟨m',hm'.store h5 hblk h4⟩
     ·obtain ⟨e',ms,hz⟩:=hz
      simp only [Option.some.injEq,Prod.mk.injEq] at hz
      exact hs.f1 (3*g+2) z (by rw [hlv];exact ⟨e,ms,by rw [hz.2]⟩)
    split at h
    ·
     rename_i t0 hv he
     rcases dp with _|⟨gv,ms⟩
     ·cases k<;>simp at h
     cases k with
     | own hh =>
      simp only at h
      split at h
      ·rename_i mm e' yC
       split at h
       ·rename_i xM aiY
        split at h
        ·rename_i hc
         simp only [Option.some.injEq] at h;subst h
         obtain ⟨hel,hms,hm0,hne⟩:=hc
         obtain ⟨i',d,hi,AV,_⟩:=fk aI aQ hv
         obtain ⟨hc1,hc2⟩:=tg (E.cZ aB ex _ he) fq.rd
         have Nd:off<m:=by rw [<-hn];exact (List.getElem?_eq_some_iff.1 hel).1
         obtain ⟨w',hrun,h4,h5⟩:=hst [a.eval x] i' hi (by rw [hc1]) (by simp [AV]) (by simpa using hc2) (by simp only [List.length_cons,List.length_nil];omega)
         have mF:a.eval x=tm hh:=fq.2
         have GJ:=hs.live hh _ yC
         obtain ⟨cells,z1,z2,z3,z4⟩:=iG.dp e gv ms rfl
         have Me: ∀z,F z->aX tm g0 (.tuple (cells.setIfInBounds ((i.den c.env).cC.toNat*m+off) (tm hh))) z=tm z:=fun z hz=>eD _ _ fun e=>hg0 (e▸hz)
         have DL:aX tm g0 (.tuple (cells.setIfInBounds ((i.den c.env).cC.toNat*m+off) (tm hh))) g=tm g:=Me g (hs.f3 g _ hlv)
         have GK: ∀u∈(cells.setIfInBounds ((i.den c.env).cC.toNat*m+off) (tm hh)).toList,u∈cells.toList\/u=tm hh:=fun u hu=>by
          rw [Array.toList_setIfInBounds] at hu
          exact List.mem_or_eq_of_mem_set hu
         have Gk: ∀b',bM (tm hh) b'->b'≠b:=fun b' hb' e'=>hs.iD hh _ g _ b' b yC hlv hne (.inl hb') (.inl Ap) e'
         have Mn: ∀u∈cells.toList,∀b',bM u b'-> ¬bM (tm hh) b':=fun u hu b' hb' u6=>hs.iD hh _ g _ b' b' yC hlv hne (.inl u6) (.inr ⟨e,gv,ms,cells,u,rfl,z1,hu,hb'⟩) rfl
         have AG: ∀u∈cells.toList,∀b',bM u b'->w'.heap[b']? =w.heap[b']? :=fun u hu b' hb'=>h5.block _ fun eb=>z4 u hu b' hb' (eb▸Ap)
         unfold Oper.wp;rw [hrun]
         simp only [Oper.upon,jJ,Act.put]
         refine hK bm (aX tm g0 (.tuple (cells.setIfInBounds ((i.den c.env).cC.toNat*m+off) (tm hh)))) a w' ?_
         show aM c _ (aX (gK σ (some hh)) (3*g+2) _) bm _ a w'
         refine hs.Qg (some hh) hlv (by simp) (fun h1 tM=> ?_) Me (fun _ h=> .inl h) (fun b' hb'=> ?_) (Fr.D7 h5 (.inl Af)) (fun k hk hnb=>h5.block _ fun e'=>hnb (e'▸ .inl Ap)) ⟨?_,fun e1 WC tM=> ?_,fun e1 Xp ms1 tM=> ?_⟩ fun z hz=> ?_
         ·simp only [Option.some.injEq] at tM;subst tM
          exact ⟨hne,_,yC,by simp⟩
         ·rcases hb' with hb'|⟨e1,Xp,ms1,Fs,u,y1,y2,y3,y4⟩
          ·rw [DL] at hb';exact .inl (.inl hb')
          ·simp only [Option.some.injEq,Prod.mk.injEq] at y1
           obtain ⟨_,rfl,rfl⟩:=y1
           rw [cu] at y2;cases y2
           rcases GK u y3 with h|rfl
           ·exact .inl (.inr ⟨e,gv,ms,cells,u,rfl,z1,h,y4⟩)
           ·exact .inr ⟨hh,_,rfl,yC,.inl y4⟩
         ·rw [DL];exact iG.sp.store h5 hblk h4
         ·simp only [Option.some.injEq,Prod.mk.injEq] at tM
          obtain ⟨rfl,rfl⟩:=tM
          rw [iF,DL]
          refine (iG.bd e _ rfl).aX q1 q3 hblk (by simp [E.den]) (by simp only [List.length_cons,List.length_nil];omega) hsz (fun j d hj=> ?_) (fun i2 j2 d u hj2 hij hq=> ?_) h4
          ·cases j with
           | succ j=>simp [E.den] at hj
           | zero =>
            simp [E.den] at hj;subst hj
            refine ⟨_,rfl,fun h0=>absurd (hms▸h0) (by simpa using hm0),fun _=>⟨⟨_,cu _ _ _,?_⟩,?_,?_⟩⟩
            ·have hcs:(i.den c.env).cC.toNat*m+off<cells.size:=by
              obtain ⟨_,_,alE,r1,_,w1,w2,w3,_,_,_,w5⟩:=PK (iG.bd e _ rfl) q1 q3
              obtain ⟨u1,_,hu1⟩:=w5 off _ (List.getElem?_eq_getElem (show off<r1.length by rw [w3];exact Nd))
              obtain ⟨⟨Fs,c1,c2⟩,_⟩:=hu1.2 (by rw [hms];exact hm0)
              rw [z1] at c1;cases c1
              exact (Array.getElem?_eq_some_iff.1 c2).1
             rw [Nat.add_zero,mF]
             simp [hcs]
            ·rw [Nat.add_zero,hms,mF]
             exact GJ.sp.keep fun b' hb'=>h5.block _ (Gk b' hb')
            ·rw [Nat.add_zero,hms,mF]
             exact (GJ.bd e' none rfl).keep (fun b' hb'=>h5.block _ (Gk b' hb')) fun _ _ _ _ h=>h
          ·refine ⟨hq.1,fun Yo=> ?_⟩
           obtain ⟨⟨Fs,c1,c2⟩,c3,c4⟩:=hq.2 Yo
           rw [z1] at c1;cases c1
           have hu:u∈cells.toList:=by rw [<-Array.getElem?_toList] at c2;exact List.mem_of_getElem? c2
           refine ⟨⟨_,cu _ _ _,?_⟩,c3.keep (AG u hu),c4.keep (AG u hu) fun _ _ _ _ h=>h⟩
           have Yr:(i.den c.env).cC.toNat*m+off≠i2*m+j2:=fun e2=>by
            obtain ⟨e3,e4⟩:=aaT hj2 Nd e2.symm
            rcases hij with h|h|h
            ·exact h e3
            ·omega
            ·simp only [E.den,D.kM,List.length_cons,List.length_nil] at h
             omega
           rw [Array.getElem?_setIfInBounds_ne Yr]
           exact c2
         ·simp only [Option.some.injEq,Prod.mk.injEq] at tM
          obtain ⟨_,rfl,rfl⟩:=tM
          refine ⟨_,cu _ _ _,fun u hu=> ?_,fun k k' u u' b' hk hk' hkk hb' u6=> ?_,fun u hu b' hb'=> ?_⟩
          ·rcases GK u hu with h|rfl
           ·obtain ⟨m',hm'⟩:=z2 u h
            exact ⟨m',hm'.keep (AG u h)⟩
           ·exact ⟨_,GJ.sp.keep fun b' hb'=>h5.block _ (Gk b' hb')⟩
          ·have hget: ∀q v,(cells.setIfInBounds ((i.den c.env).cC.toNat*m+off) (tm hh))[q]? =some v->(q=(i.den c.env).cC.toNat*m+off/\v=tm hh)\/(q≠(i.den c.env).cC.toNat*m+off/\cells[q]? =some v):=fun q v hq=>by
            rw [Array.getElem?_setIfInBounds] at hq
            split at hq
            ·rename_i e3
             split at hq
             ·simp only [Option.some.injEq] at hq;exact .inl ⟨e3.symm,hq.symm⟩
             ·cases hq
            ·rename_i e3;exact .inr ⟨fun e4=>e3 e4.symm,hq⟩
           have hmem: ∀q v,cells[q]? =some v->v∈cells.toList:=fun q v hq=>by rw [<-Array.getElem?_toList] at hq;exact List.mem_of_getElem? hq
           rcases hget k u hk with ⟨e3,rfl⟩|⟨e3,hk⟩<;>rcases hget k' u' hk' with ⟨e4,rfl⟩|⟨e4,hk'⟩
           ·omega
           ·exact Mn u' (hmem _ _ hk') b' u6 hb'
           ·exact Mn u (hmem _ _ hk) b' hb' u6
           ·exact z3 k k' u u' b' hk hk' hkk hb' u6
          ·rw [DL]
           rcases GK u hu with h|rfl
           ·exact z4 u h b' hb'
           ·exact fun u6=>hs.iD hh _ g _ b' b' yC hlv hne (.inl hb') (.inl u6) rfl
         ·obtain ⟨e1,ms1,hz⟩:=hz
          simp only [Option.some.injEq,Prod.mk.injEq] at hz
          exact .inr (by rw [<-hz.2.1];exact eG.self g0)
        ·simp at h
       ·simp at h
      ·simp at h
     | _=>simp at h
    ·rename_i t0 t _ hv he
     split at h
     ·rename_i hc
      simp only [Option.some.injEq] at h
      obtain ⟨i',d,hi,AV,_⟩:=fk aI aQ hv
      have hty:=E.cZ aB ex _ he
      obtain ⟨hc1,hc2⟩:=tg hty fq.rd
      have hlt:=(List.getElem?_eq_some_iff.1 hc.1).1
      refine hgo (.ah ex) [a.eval x] i' hi (by rw [hc1]) (by simp [AV]) (by simpa using hc2) (by simp only [List.length_cons,List.length_nil];omega) rfl hc.2.2 ?_ h.symm
      intro j d' hd
      cases j with
      | zero=>simp [E.den] at hd;subst hd;exact ⟨_,rfl,HO hty hc.2.1 fq.rd⟩
      | succ j=>simp [E.den] at hd
     ·simp at h
    ·rename_i ts us hv he
     split at h
     ·rename_i hc
      simp only [Option.some.injEq] at h
      obtain ⟨i',f,z,hi,AV,_⟩:=lG aI aQ hv
      obtain ⟨l,hl,hlt⟩:=gX (E.cZ aB ex _ he)
      have jr:=fq.rd
      rw [hl] at jr
      obtain ⟨B0,rC,hrs⟩:=jr
      have hl1:=hrs.length
      have fG:=hlt.length
      refine hgo ex B0.toList i' hi (by rw [rC];rfl) (by rw [hl1,fG,AV];exact hc.2.1.symm) (CA hlt hrs) (by rw [hl1,fG];exact hc.2.2.1) (by rw [hl];exact hl1) (by rw [hl1,fG];exact hc.2.2.2.2) ?_ h.symm
      intro j d hd
      rw [hl] at hd
      exact Oc hlt hc.2.2.2.1 hrs j d hd
     ·simp at h
    ·simp at h
   ·simp at h
  ·simp at h
 ·simp at h
theorem sSt(aI:cL P tb tb=true)(hs:aM c F σ bm tm a w)(aB:bQ tb.tab Γ c.env){g n:Nat}(hg: ¬F g){o:Oper}{y x:Operand}{T T1 T2:Nat}(ho:o.op= .store T y x){ti:TI}(aQ:tb.get T=some ti){aS:aU}
  (h:xK tb Γ gs o.dst σ g ti (aT tb σ T1 y) (aT tb σ T2 x)=some aS):fp P c F σ bm tm a w g gs n o aS:=by
 unfold xK at h
 split at h
 ·rename_i g' m i off jJ hy
  exact acG aI hs aB hg ho jJ aQ hy h
 ·rename_i g' gv m i off j m2 o2 jJ hy
  exact (by simp [KU] at h)
 ·exact acQ aI hs aB ho aQ h
theorem xq(hs:aM c F σ bm tm a w)(hg:bE c.env gs): ∀(xs:List Operand) (Ts:List Nat) (es:List E),ji tb Γ gs σ xs Ts=some es->Rs w (MM c.M0 bm tm σ) (es.map (·.den c.env)) (xs.map a.eval)
 | [],[],es,h=>by simp [ji] at h;subst h;rfl
 | x::xs,T::Ts,es,h=>by
  simp only [ji] at h
  split at h
  ·rename_i k e es' h1 h2
   simp only [Option.some.injEq] at h;subst h
   exact ⟨_,_,rfl,((cW hs h1).1 hg).rd,xq hs hg xs Ts es' h2⟩
  ·simp at h
 | [],_::_,es,h=>by simp [ji] at h
 | _::_,[],es,h=>by simp [ji] at h
theorem wB{f:FuncId}(hf:iy P f=true){o:Oper}{cl:Call}(ho:o.op= .call cl)(hcl:cl.callee= .value (.func f)):(execOp a.eval o).run P w= .ok (.enter f (cl.args.map a.eval)) w:=by
 unfold iy at hf
 split at hf
 ·rename_i fn hfn
  simp only [Bool.and_eq_true,Bool.not_eq_true'] at hf
  obtain ⟨h1,h2⟩:=hf
  obtain ⟨b,hb⟩:=Option.isSome_iff_exists.1 h2
  have h1':(fn.name= "runtime.NumGoroutine")=False:=by
   apply eq_false
   intro e
   rw [e] at h1
   exact absurd h1 (by decide)
  simp [execOp,ho,resolve,hcl,Deferred.ofValue,Act.eval,invoke,callFunc,hfn,hb,h1']
 ·simp at hf
theorem P8(hs:aM c F σ bm tm a w)(hg:bE c.env gs){g n:Nat}{o:Oper}{cl:Call}{f:FuncId}(ho:o.op= .call cl)(hcl:cl.callee= .value (.func f))(hd: ∀d,o.dst=some d->d<c.nt){es:List E}{Ts:List Nat}{vt:VT}
  (hes:ji tb Γ gs σ cl.args.toList Ts=some es) (hr:hO P c.env n (.call gs f none es vt [])) (K:Act->World->Prop) (Q:Exit->Act->World->Prop)
  (hK: ∀cQ tm' a' w',aM c (fun x=>F x\/eG g x) (dm σ (wv o.dst (.v gs .d (.var n)))) cQ tm' a' w'->K a' w'):o.wp P a w K Q:=by
 obtain ⟨hf,hrun⟩:=hr hg
 have hargs:=xq hs hg _ _ _ hes
 unfold Oper.wp
 rw [wB hf ho hcl]
 simp only [Oper.upon]
 have:=hrun w (MM c.M0 bm tm σ) 0 (cl.args.toList.map a.eval) hs.je hargs (fun cs h=>by simp at h)
 simp only [Option.map_none] at this
 have e:(cl.args.toList.map a.eval).toArray=cl.args.map a.eval:=by rw [<-Array.toList_inj];simp
 rw [e] at this
 refine this.mono ?_
 rintro e' w' ⟨v,rfl,h1,h2,_⟩
 refine hK bm tm _ _ (((hs.grow h2.lF).kZ hd (dV (k:= .d) (e:= .var n) hg h1) fun x hx=>by simp [cf,Go.Proofs.YtimickglpboilaaGreatDoor.K.has] at hx).mono fun x hx=> .inl hx)
theorem y9{M:Addr->Prop}: ∀(nb:List CT) (m:Nat) (us:List Value),Rs w M ((List.range nb.length).map fun j=>c.env.getD (m+j) .un) us->cr w M tm c.env (vars m nb) us
 | [],m,us,h=>by simpa [Rs,vars,cr] using h
 | t::nb,m,us,h=>by
  simp only [List.length_cons,List.range_succ_eq_map,List.map_cons,List.map_map] at h
  obtain ⟨v,q,rfl,h1,h2⟩:=h
  refine ⟨v,q,rfl,by simpa [bG,E.den] using h1,y9 nb (m+1) q ?_⟩
  simpa [Function.comp_def,Nat.add_assoc,Nat.add_comm 1] using h2
theorem B6: ∀(nb:List CT) (m:Nat) (q:Nat),¬ ∃z∈vars m nb,z.1.has q
 | [],_,_,⟨z,hz,_⟩=>by simp [vars] at hz
 | t::nb,m,q,⟨z,hz,hq⟩=>by
  simp only [vars,List.mem_cons] at hz
  rcases hz with rfl|hz
  ·cases hq
  ·exact B6 nb (m+1) q ⟨z,hz,hq⟩
theorem acJ(hs:aM c F σ bm tm a w)(aB:bQ tb.tab Γ c.env){g n:Nat}(jL: ¬F g){o:Oper}{cl:Call}{f:FuncId}{nb:List CT}(ho:o.op= .call cl)(hcl:cl.callee= .value (.func f))(hd: ∀d,o.dst=some d->d<c.nt)(hn:n=Γ.length){aS:aU}
  (h:eNew tb Γ gs o.dst σ g nb f cl.args.toList cl.argTypes.toList=some aS):fp P c F σ bm tm a w g gs n o aS:=by
 subst hn
 unfold eNew at h
 split at h
 ·rename_i es hes
  simp only [Option.some.injEq] at h;subst h
  refine ⟨fun hg hr K Q hK=> ?_,fun hn=>absurd (aP _) hn⟩
  have rB:hO P c.env Γ.length (.new f es nb):=hr _ (by simp)
  obtain ⟨hf,hrun⟩:=rB
  have hargs:=xq hs (aP _) _ _ _ hes
  unfold Oper.wp
  rw [wB hf ho hcl]
  simp only [Oper.upon]
  have:=hrun w (MM c.M0 bm tm σ) (cl.args.toList.map a.eval) hs.je hargs
  have e:(cl.args.toList.map a.eval).toArray=cl.args.map a.eval:=by rw [<-Array.toList_inj];simp
  rw [e] at this
  refine this.mono ?_
  rintro e' w' ⟨g0,us,T,rfl,h1,h2,h3,h4⟩
  refine hK (aX bm g g0) tm _ w' ?_
  rw [BU]
  refine aM.tag ((hs.aa2 jL h4 h1 h2 (y9 nb _ us h3) fun q hq=>absurd hq (B6 _ _ _)).kZ hd ⟨fun _=>by rw [cu],fun h=>absurd (aP _) h⟩ fun x hx=> ?_)
  simp only [cf] at hx;exact .inr hx
 ·simp at h
theorem zp{dst:Option Nat}{st:ST}: ∀{wQ:List (Nat×ST)} {σ:Nat->ST},(∀p∈wQ,∀d,p.1≠3*d)->dm σ (wv dst st++wQ)=dm (dm σ wQ) (wv dst st):=by
 intro wQ σ h
 cases dst with
 | none=>rfl
 | some d =>
  show dm (aX σ (3*d) st) wQ=aX (dm σ wQ) (3*d) st
  induction wQ generalizing σ with
  | nil=>rfl
  | cons p r ih =>
   obtain ⟨l,s⟩:=p
   show dm (aX (aX σ (3*d) st) l s) r=_
   rw [QS (Ne.symm (h (l,s) (by simp) d))]
   exact ih fun q hq=>h q (by simp [hq])
theorem IC: ∀{rt:List (Nat×Nat)} {g:Nat} {σ:Nat->ST} (t:Nat),dm σ (iS g rt) (3*t)=σ (3*t)
 | [],_,_,_=>rfl
 | (q,m)::r,g,σ,t=>by
  show dm (aX σ (3*g+2) (.live ⟨m,none⟩)) (iS (g+1) r) (3*t)=_
  rw [IC t,BV]
theorem wA: ∀{rt:List (Nat×Nat)} {g:Nat} {σ:Nat->ST} (t:Nat),dm σ (iS g rt) (3*t+1)=σ (3*t+1)
 | [],_,_,_=>rfl
 | (q,m)::r,g,σ,t=>by
  show dm (aX σ (3*g+2) (.live ⟨m,none⟩)) (iS (g+1) r) (3*t+1)=_
  rw [wA t,nL]
theorem IB: ∀{rt:List (Nat×Nat)} {g:Nat} {σ:Nat->ST} (x:Nat),dm σ (iS g rt) (3*x+2)=if g<=x/\x<g+rt.length then .live ⟨(rt.getD (x-g) (0,0)).2,none⟩ else σ (3*x+2)
 | [],g,σ,x=>by rw [if_neg (by simp only [List.length_nil];omega)];rfl
 | (q,m)::r,g,σ,x=>by
  show dm (aX σ (3*g+2) (.live ⟨m,none⟩)) (iS (g+1) r) (3*x+2)=_
  rw [IB x]
  by_cases h:x=g
  ·subst h
   rw [if_neg (by omega),cu,if_pos (by simp only [List.length_cons];omega)];simp
  ·rw [jR _ h]
   by_cases h1:g+1<=x/\x<g+1+r.length
   ·rw [if_pos h1,if_pos (by simp only [List.length_cons];omega),show x-g=(x-(g+1))+1 by omega];rfl
   ·rw [if_neg h1,if_neg (by simp only [List.length_cons];omega)]
def kL(tm:Nat->Value)(g:Nat)(v:Value)(rt:List (Nat×Nat)):Nat->Value:=fun x=>if g<=x/\x<g+rt.length then lE v (rt.getD (x-g) (0,0)) else tm x
def lM(σ:Nat->ST)(cs:List (K×E)):Option Nat->Nat->ST
 | none=>σ
 | some id=>aX σ (3*id+1) (.box cs)
theorem aM.PD{w':World}(hs:aM c F σ bm tm a w){g:Nat}(hg: ∀x,eG g x-> ¬F x){rt:List (Nat×Nat)}(hl:rt.length<=j8){v:Value}(ef:uF w.heap.size w' v rt)(jO:Option Nat){cs':List (K×E)}
  (hid: ∀id,jO=some id-> ∃cs,σ (3*id+1)= .box cs) (hfr:Fr c.B c.X w w') (eS: ∀k,k<w.heap.size->(∀id,jO=some id->k≠bm id)->w'.heap[k]? =w.heap[k]?)
  (eU: ∀id M' tm',jO=some id->(∀p,M' p->MM c.M0 bm tm σ p\/iM v rt p)->mg c w' M' bm tm' id cs') (hno: ∀x,¬ ∃z∈cs',z.1.has x) :
  aM c (fun x=>F x\/eG g x) (dm (lM σ cs' jO) (iS g rt)) bm (kL tm g v rt) a w'/\(∀p,MM c.M0 bm (kL tm g v rt) (dm (lM σ cs' jO) (iS g rt)) p->MM c.M0 bm tm σ p\/iM v rt p):=by
 have Mm: ∀t,lM σ cs' jO (3*t)=σ (3*t):=fun t=>by cases jO with|none=>rfl|some id=>exact EG _ _ _
 have Ml: ∀t,lM σ cs' jO (3*t+2)=σ (3*t+2):=fun t=>by cases jO with|none=>rfl|some id=>exact kf _ _ _
 have Mk: ∀id cs,lM σ cs' jO (3*id+1)= .box cs->(jO=some id/\cs=cs')\/(jO≠some id/\σ (3*id+1)= .box cs):=fun id cs h=>by
  cases jO with
  | none=>exact .inr ⟨by simp,h⟩
  | some i =>
   simp only [lM] at h
   by_cases e:id=i
   ·subst e;rw [cu] at h;simp at h;exact .inl ⟨rfl,h.symm⟩
   ·rw [fN _ e] at h;exact .inr ⟨fun e'=>e (by simp at e';exact e'.symm),h⟩
 have Ao: ∀id cs,lM σ cs' jO (3*id+1)= .box cs-> ∃cs0,σ (3*id+1)= .box cs0:=fun id cs h=>by
  rcases Mk id cs h with ⟨h1,_⟩|⟨_,h1⟩
  ·exact hid id h1
  ·exact ⟨cs,h1⟩
 have hin: ∀x,g<=x/\x<g+rt.length-> ∃y,rt[x-g]? =some y/\rt.getD (x-g) (0,0)=y/\y∈rt:=fun x hx=>by
  have:x-g<rt.length:=by omega
  exact ⟨rt[x-g],List.getElem?_eq_getElem this,by simp [List.getD,List.getElem?_eq_getElem this],List.getElem_mem this⟩
 have hlv: ∀x n,dm (lM σ cs' jO) (iS g rt) (3*x+2)= .live n->(∃y,rt[x-g]? =some y/\y∈rt/\(g<=x/\x<g+rt.length)/\(⟨y.2,none⟩:LV)=n/\kL tm g v rt x=lE v y)\/(¬(g<=x/\x<g+rt.length)/\σ (3*x+2)= .live n/\kL tm g v rt x=tm x):=fun x n h=>by
  rw [IB] at h
  by_cases hc:g<=x/\x<g+rt.length
  ·obtain ⟨y,h1,h2,h3⟩:=hin x hc
   rw [if_pos hc,h2] at h
   simp at h
   exact .inl ⟨y,h1,h3,hc,h,by unfold kL;rw [if_pos hc,h2]⟩
  ·rw [if_neg hc,Ml] at h
   exact .inr ⟨hc,h,if_neg hc⟩
 have gu: ∀x,F x->kL tm g v rt x=tm x:=fun x hx=>if_neg fun hc=>hg x ⟨hc.1,by omega⟩ hx
 have qP: ∀p,MM c.M0 bm (kL tm g v rt) (dm (lM σ cs' jO) (iS g rt)) p->MM c.M0 bm tm σ p\/iM v rt p:=by
  rintro p (h|⟨id,cs,h1,h2⟩|⟨x,n,h1,h2⟩)
  ·exact .inl (.inl h)
  ·rw [wA] at h1
   obtain ⟨cs0,h3⟩:=Ao id cs h1
   exact .inl (.inr (.inl ⟨id,cs0,h3,h2⟩))
  ·rcases hlv x n h1 with ⟨y,q1,q2,q3,q4,q5⟩|⟨q1,q2,q3⟩
   ·rw [<-q4] at h2;exact .inr ⟨y,q2,by have:=y5 h2;rwa [q5] at this⟩
   ·exact .inl (.inr (.inr ⟨x,n,q2,kH.congr q3 (fun y hy=>gu y (hs.f1 (3*x+2) y (by rw [q2];exact hy))) h2⟩))
 have hnew: ∀y∈rt,∀b o s len cap,lE v y= .slice (some ⟨b,o,s⟩) len cap->0<cap->w.heap.size<=b:=fun y hy b o s len cap he hlt=>(ef.1 y hy b o s len cap he hlt).2.1
 have hk:bo w (MM c.M0 bm tm σ) w' (MM c.M0 bm (kL tm g v rt) (dm (lM σ cs' jO) (iS g rt))):=fun p u hp hn=>by
  have hlt:=block_lt_of_cell hp
  refine ⟨?_,fun h=> ?_⟩
  ·rw [<-hp]
   refine World.cell?_of_block (eS _ hlt fun id hi e=> ?_)
   obtain ⟨cs,hc⟩:=hid id hi
   exact hn (.inr (.inl ⟨id,cs,hc,e⟩))
  ·rcases qP p h with h|⟨y,hy,h⟩
   ·exact hn h
   ·obtain ⟨o,s,len,cap,h1,h2⟩:=zh h
    have:=hnew y hy _ _ _ _ _ h1 h2
    omega
 refine ⟨?_,qP⟩
 refine hs.turn (fun t=>by rw [IC,Mm]) (fun x hx=>⟨rfl,gu x hx⟩) (fun _ h=> .inl h) hfr hk ?_ ?_ ?_ ?_ ?_ ?_ ?_ ?_
 ·intro id cs h
  rw [wA] at h
  rcases Mk id cs h with ⟨h1,rfl⟩|⟨h1,h2⟩
  ·exact eU id _ _ h1 qP
  ·refine (hs.box id cs h2).keep hk rfl (eS _ (hs.box id cs h2).lt fun i hi e=> ?_) fun x hx=>gu x (hs.f1 (3*id+1) x (by rw [h2];exact hx))
   obtain ⟨cs0,hc⟩:=hid i hi
   exact hs.kD id i cs cs0 h2 hc (fun e'=>h1 (by rw [e'];exact hi)) e
 ·intro x n h
  rcases hlv x n h with ⟨y,q1,q2,q3,q4,q5⟩|⟨q1,q2,q3⟩
  ·subst q4
   refine ⟨fun b o s len cap he hlt=> ?_,(fun e dp he=>by cases he),(fun e gv ms he=>by cases he)⟩
   rw [q5] at he
   obtain ⟨z1,z2,z3⟩:=ef.1 y q2 b o s len cap he hlt
   exact ⟨z1,Nat.le_trans hs.hB z2,z3⟩
  ·refine (hs.live x n q2).keep (fun b hb=>eS _ ((hs.live x n q2).lt hb) fun i hi e=> ?_) q3 fun y hy=>gu y (hs.f1 (3*x+2) y (by rw [q2];exact hy))
   obtain ⟨cs0,hc⟩:=hid i hi
   exact hs.iC i cs0 x n b hc q2 hb e.symm
 ·intro i j cs1 jD h h' hne
  rw [wA] at h h'
  obtain ⟨d,hd⟩:=Ao i cs1 h
  obtain ⟨d',hd'⟩:=Ao j jD h'
  exact hs.kD i j d d' hd hd' hne
 ·intro i cs1 x n b h hx hb
  rw [wA] at h
  obtain ⟨d,hd⟩:=Ao i cs1 h
  rcases hlv x n hx with ⟨y,q1,q2,q3,q4,q5⟩|⟨q1,q2,q3⟩
  ·subst q4
   obtain ⟨o,s,len,cap,he,hlt⟩:=oF hb
   rw [q5] at he
   have:=hnew y q2 b o s len cap he hlt
   have:=(hs.box i d hd).lt
   omega
  ·exact hs.iC i d x n b hd q2 ((db.congr q3 fun y hy=>gu y (hs.f1 (3*x+2) y (by rw [q2];exact hy))).1 hb)
 ·intro x n y m b b' hx hy hne hb hb'
  rcases hlv x n hx with ⟨x1,q1,q2,q3,q4,q5⟩|⟨q1,q2,q3⟩<;>rcases hlv y m hy with ⟨y1,p1,p2,p3,p4,p5⟩|⟨p1,p2,p3⟩
  ·subst q4 p4
   obtain ⟨o,s,len,cap,he,hlt⟩:=oF hb
   obtain ⟨o',s',len',cap',he',vz⟩:=oF hb'
   rw [q5] at he;rw [p5] at he'
   exact ef.2 _ _ x1 y1 q1 p1 (by omega) _ _ _ _ _ _ _ _ _ _ he hlt he' vz
  ·subst q4
   obtain ⟨o,s,len,cap,he,hlt⟩:=oF hb
   rw [q5] at he
   have h1:=hnew x1 q2 b o s len cap he hlt
   have h2:=(hs.live y m p2).lt ((db.congr p3 fun z hz=>gu z (hs.f1 (3*y+2) z (by rw [p2];exact hz))).1 hb')
   omega
  ·subst p4
   obtain ⟨o,s,len,cap,he,hlt⟩:=oF hb'
   rw [p5] at he
   have h1:=hnew y1 p2 b' o s len cap he hlt
   have h2:=(hs.live x n q2).lt ((db.congr q3 fun z hz=>gu z (hs.f1 (3*x+2) z (by rw [q2];exact hz))).1 hb)
   omega
  ·exact hs.iD x n y m b b' q2 p2 hne ((db.congr q3 fun z hz=>gu z (hs.f1 (3*x+2) z (by rw [q2];exact hz))).1 hb) ((db.congr p3 fun z hz=>gu z (hs.f1 (3*y+2) z (by rw [p2];exact hz))).1 hb')
 ·intro l x h
  refine .inl ?_
  have h3:l=3*(l/3)\/l=3*(l/3)+1\/l=3*(l/3)+2:=by omega
  rcases h3 with e|e|e
  ·rw [e,IC,Mm] at h;exact hs.f1 _ x h
  ·rw [e,wA] at h
   generalize hst:lM σ cs' jO (3*(l/3)+1)=st at h
   cases jO with
   | none=>rw [<-hst] at h;exact hs.f1 _ x h
   | some id =>
    by_cases e':l/3=id
    ·simp only [lM] at hst
     rw [e',cu] at hst
     subst hst
     exact absurd h (hno x)
    ·simp only [lM] at hst
     rw [fN _ e'] at hst
     rw [<-hst] at h;exact hs.f1 _ x h
  ·rw [e,IB] at h
   split at h
   ·obtain ⟨_,_,h⟩:=h;cases h
   ·rw [Ml] at h;exact hs.f1 _ x h
 ·intro id cs h
  rw [wA] at h
  obtain ⟨d,hd⟩:=Ao id cs h
  exact .inl (hs.f2 id d hd)
 ·intro x n h
  rcases hlv x n h with ⟨y,q1,q2,q3,q4,q5⟩|⟨q1,q2,q3⟩
  ·exact .inr ⟨q3.1,by omega⟩
  ·exact .inl (hs.f3 x n q2)
theorem Iz: ∀{rt:List (Nat×Nat)} {g p x:Nat},mI g rt p= .own x-> ∃i y,rt[i]? =some y/\y.1=p/\x=g+i
 | [],g,p,x,h=>by simp [mI] at h
 | (q,m)::r,g,p,x,h=>by
  simp only [mI] at h
  cases e:Nat.beq q p with
  | true =>
   rw [e] at h;simp only [cond_true,KK.own.injEq] at h
   exact ⟨0,(q,m),rfl,Nat.eq_of_beq_eq_true e,by omega⟩
  | false =>
   rw [e] at h;simp only [cond_false] at h
   obtain ⟨i,y,h1,h2,h3⟩:=Iz h
   exact ⟨i+1,y,by simpa using h1,h2,by omega⟩
theorem PM{rt:List (Nat×Nat)}{g p:Nat}{v u:Value}(hu:(iZ v)[p]? =some u):lU (kL tm g v rt) (mI g rt p) u:=by
 cases h:mI g rt p with
 | d=>trivial
 | full =>
  exfalso
  have: ∀(rt:List (Nat×Nat)) (g:Nat),mI g rt p≠ .full:=by
   intro rt
   induction rt with
   | nil=>intro g h;simp [mI] at h
   | cons a r ih =>
    intro g h
    obtain ⟨q,m⟩:=a
    simp only [mI] at h
    cases e:Nat.beq q p with
    | true=>rw [e] at h;simp at h
    | false=>rw [e] at h;exact ih _ h
  exact this rt g h
 | own x =>
  obtain ⟨i,y,h1,h2,rfl⟩:=Iz h
  have hi:i<rt.length:=(List.getElem?_eq_some_iff.1 h1).1
  show u=kL tm g v rt (g+i)
  unfold kL
  rw [if_pos (by omega),show g+i-g=i by omega]
  simp only [List.getD,h1,Option.getD_some,lE,h2,hu]
theorem PO{rt:List (Nat×Nat)}{g:Nat}{v:Value}{vt:VT}{e:E}{M:Addr->Prop}{w:World}(hty:xo vt (e.den c.env))(hr:R w M (e.den c.env) v):bG w M (kL tm g v rt) c.env (wz g rt vt) e v:=by
 have Bn: ∀(n j:Nat) (kk:KK) (u:Value),((List.range n).map (mI g rt))[j]? =some kk->(iZ v)[j]? =some u->lU (kL tm g v rt) kk u:=fun n j kk u h1 h2=>by
  simp only [List.getElem?_map,Option.map_eq_some_iff] at h1
  obtain ⟨j',hj',rfl⟩:=h1
  have:j'=j:=by
   rw [List.getElem?_eq_some_iff] at hj'
   obtain ⟨_,q2⟩:=hj'
   simpa using q2.symm
  subst this
  exact PM h2
 rcases vt with (t|ts)|vs
 ·exact bG.of hr (PM (by rw [D.Bt hty hr];rfl))
 ·exact ⟨hr,Bn _⟩
 ·exact ⟨hr,Bn _⟩
theorem PN{rt:List (Nat×Nat)}{g x:Nat}{vt:VT}(h:(wz g rt vt).has x):g<=x/\x<g+rt.length:=by
 have key: ∀p,mI g rt p= .own x->g<=x/\x<g+rt.length:=fun p hp=>by
  obtain ⟨i,y,h1,_,rfl⟩:=Iz hp
  have:i<rt.length:=(List.getElem?_eq_some_iff.1 h1).1
  omega
 have Bn: ∀n,KK.own x∈(List.range n).map (mI g rt)->g<=x/\x<g+rt.length:=fun n hn=>by
  obtain ⟨p,_,hp⟩:=List.mem_map.1 hn
  exact key p hp
 rcases vt with (t|ts)|vs
 ·exact key 0 (K.Mu h)
 ·exact Bn _ h
 ·exact Bn _ h
theorem IA: ∀{rt:List (Nat×Nat)} {g:Nat},∀p∈iS g rt,∀d,p.1≠3*d
 | [],_,p,h,_=>by simp [iS] at h
 | (q,m)::r,g,p,h,d=>by
  simp only [iS,List.mem_cons] at h
  rcases h with rfl|h
  ·show 3*g+2≠3*d;omega
  ·exact IA p h d
theorem acv(hs:aM c F σ bm tm a w){g n:Nat}(jL: ∀x,eG g x-> ¬F x){o:Oper}{cl:Call}{f:FuncId}(ho:o.op= .call cl)(hcl:cl.callee= .value (.func f))(hd: ∀d,o.dst=some d->d<c.nt){es:List E}{Ts:List Nat}{vt:VT}{rt:List (Nat×Nat)}(hl:rt.length<=j8)
  (hes:ji tb Γ [] σ cl.args.toList Ts=some es) (hr:hO P c.env n (.gW f none es vt [] rt)) (K:Act->World->Prop) (Q:Exit->Act->World->Prop)
  (hK: ∀cQ tm' a' w',aM c (fun x=>F x\/eG g x) (dm σ (wv o.dst (.v [] (wz g rt vt) (.var n))++iS g rt)) cQ tm' a' w'->K a' w'):o.wp P a w K Q:=by
 obtain ⟨hsh,hf,hrun⟩:=hr
 have hargs:=xq hs (aP _) _ _ _ hes
 unfold Oper.wp
 rw [wB hf ho hcl]
 simp only [Oper.upon]
 have:=hrun w (MM c.M0 bm tm σ) 0 (cl.args.toList.map a.eval) hs.je hargs (fun cs h=>by simp at h)
 simp only [Option.map_none] at this
 have e:(cl.args.toList.map a.eval).toArray=cl.args.map a.eval:=by rw [<-Array.toList_inj];simp
 rw [e] at this
 refine this.mono ?_
 rintro e' w' ⟨v,rfl,h1,h2,h3,_⟩
 obtain ⟨hS,qP⟩:=hs.PD jL hl h3 none (cs':=[]) (fun id h=>by simp at h) (Fr.oY h2.lF hs.hB) (fun k hk _=>h2.block k hk (by simp)) (fun id M' tm' h=>by simp at h) (fun x ⟨z,hz,_⟩=>by simp at hz)
 refine hK bm (kL tm g v rt) _ w' ?_
 rw [zp IA]
 have hk:bo w' (fun p=>MM c.M0 bm tm σ p\/iM v rt p) w' (MM c.M0 bm (kL tm g v rt) (dm σ (iS g rt))):=fun p u hp hn=>⟨hp,fun h=>hn (qP p h)⟩
 refine hS.kZ hd (dV (aP _) (PO (vt:=vt) (e:= .var n) hsh (R.keep hk _ _ h1))) fun x hx=> .inr ?_
 have:=PN (show (wz g rt vt).has x from hx)
 exact ⟨this.1,by omega⟩
theorem Ma{env:List D}(aB:bQ tb.tab Γ env): ∀(gs:Gd),gs.all (fun x=>fu .bool (x.1.inf tb.tab Γ))=true->(((qM gs).den env).jf=true↔bE env gs)
 | [],_=>by simp [qM,E.den,bE]
 | (c,b)::r,h=>by
  simp only [List.all_cons,Bool.and_eq_true] at h
  have ih:=Ma aB r h.2
  have hc:c.inf tb.tab Γ=some (.one (.c .bool)):=by simpa [fu] using h.1
  obtain ⟨x,hx⟩: ∃x,c.den env= .bool x:=nk (E.cZ aB c _ hc)
  have e:bE env ((c,b)::r)↔c.den env= .bool b/\bE env r:=by simp [bE]
  rw [e, <-ih,hx]
  cases b<;>simp [qM,E.den,hx]
theorem Pw{M:Addr->Prop}{g:E}(hg:(g.den c.env).jf=true): ∀{xs ys:List (K×E)} {vs:List Value},xs.length=ys.length->cr w M tm c.env xs vs->cr w M tm c.env (qh g xs ys) vs
 | [],[],_,_,h=>h
 | x::r,y::q,vs,hl,⟨v,z,e,h1,h2⟩=>⟨v,z,e,by simp only [bG,E.den,hg,cond_true];exact h1.rd,Pw hg (by simpa using hl) h2⟩
 | [],_::_,_,hl,_=>by simp at hl
 | _::_,[],_,hl,_=>by simp at hl
theorem Px{M:Addr->Prop}{g:E}(hg:(g.den c.env).jf=false): ∀{xs ys:List (K×E)} {vs:List Value},xs.length=ys.length->cr w M tm c.env ys vs->cr w M tm c.env (qh g xs ys) vs
 | [],[],_,_,h=>h
 | x::r,y::q,vs,hl,⟨v,z,e,h1,h2⟩=>⟨v,z,e,by simp only [bG,E.den,hg,cond_false];exact h1.rd,Px hg (by simpa using hl) h2⟩
 | [],_::_,_,hl,_=>by simp at hl
 | _::_,[],_,hl,_=>by simp at hl
theorem H9(g:E): ∀(xs ys:List (K×E)) (q:Nat),¬ ∃z∈qh g xs ys,z.1.has q
 | [],_,_,⟨z,hz,_⟩=>by simp [qh] at hz
 | _::_,[],_,⟨z,hz,_⟩=>by simp [qh] at hz
 | x::r,y::p,q,⟨z,hz,hq⟩=>by
  simp only [qh,List.mem_cons] at hz
  rcases hz with rfl|hz
  ·cases hq
  ·exact H9 g r p q ⟨z,hz,hq⟩
theorem NC: ∀{cs:List (K×E)} {nb:List CT},yK tb.tab Γ cs=some nb->nb.length=cs.length
 | [],nb,h=>by simp [yK] at h;subst h;rfl
 | (k,e)::r,nb,h=>by
  unfold yK at h
  split at h
  ·rename_i t ts h1 h2
   simp only [Option.some.injEq] at h;subst h
   simp [NC h2]
  ·simp at h
theorem QT: ∀(nb:List CT) (m:Nat),(vars m nb).length=nb.length
 | [],_=>rfl
 | _::r,m=>by simp [vars,QT r (m+1)]
theorem Ti{id:Nat}{cs cs':List (K×E)}(eU:σ (3*id+1)= .box cs){M0:Addr->Prop}:MM M0 bm tm (aX σ (3*id+1) (.box cs'))=MM M0 bm tm σ:=by
 funext p
 simp only [MM,kf]
 apply propext
 constructor
 ·rintro (h|⟨i,q,q1,q2⟩|h)
  ·exact .inl h
  ·by_cases e:i=id
   ·subst e;exact .inr (.inl ⟨i,cs,eU,q2⟩)
   ·rw [fN _ e] at q1;exact .inr (.inl ⟨i,q,q1,q2⟩)
  ·exact .inr (.inr h)
 ·rintro (h|⟨i,q,q1,q2⟩|h)
  ·exact .inl h
  ·by_cases e:i=id
   ·subst e;exact .inr (.inl ⟨i,_,cu _ _ _,q2⟩)
   ·exact .inr (.inl ⟨i,q,by rw [fN _ e];exact q1,q2⟩)
  ·exact .inr (.inr h)
theorem acu(hs:aM c F σ bm tm a w)(aB:bQ tb.tab Γ c.env){g:Nat}{o:Oper}{cl:Call}{f:FuncId}{ti:TI}{rt:List (Nat×Nat)}(ho:o.op= .call cl)(hcl:cl.callee= .value (.func f))(hd: ∀d,o.dst=some d->d<c.nt)
  {x:Operand} {xs:List Operand} {T:Nat} {Ts:List Nat} (hxs:cl.args.toList=x::xs) {g':Gd} {id:Nat} (hp:yM (aT tb σ T x)=some (g',id)) {aS:aU}
  (h:xF tb Γ gs o.dst σ rt ti f xs Ts g' id=some aS):fp P c F σ bm tm a w g gs Γ.length o aS:=by
 unfold xF at h
 split at h
 ·rename_i cs es eU hes
  split at h
  ·rename_i nb hnb
   split at h
   ·rename_i hc
    obtain ⟨ef,yz,hall⟩:=hc
    simp only [Option.some.injEq] at h;subst h
    have hlen:(vars (Γ.length+1) nb).length=cs.length:=by rw [QT,NC hnb]
    have hgd:=Ma aB gs hall
    have GU:bE c.env gs->a.eval x= .pointer (some ⟨bm id,0,none⟩):=fun hg=>by
     unfold yM at hp
     split at hp
     ·rename_i g2 NB hst
      simp only [Option.some.injEq,Prod.mk.injEq] at hp
      obtain ⟨rfl,rfl⟩:=hp
      exact (mG hs hst).1.1 (xR yz hg)
     ·simp at hp
    obtain ⟨vs,T0,hblk,hrel,jG⟩:=hs.box id cs eU
    have hfr: ∀w',Fr w.heap.size (some (bm id)) w w'->Fr c.B c.X w w':=fun w' h2=>⟨h2.os,h2.tape,h2.output,h2.size,fun k hk hx=>h2.block k (Nat.lt_of_lt_of_le hk hs.hB) (by
     rintro ⟨rfl⟩
     rcases jG with jG|jG
     ·omega
     ·exact hx jG.2.symm)⟩
    refine ⟨fun hg hr K Q hK=> ?_,fun hn=> ?_⟩
    ·have e:(Value.pointer (some ⟨bm id,0,none⟩)::xs.map a.eval).toArray=cl.args.map a.eval:=by
      rw [<-Array.toList_inj];simp [hxs,GU hg]
     have hargs:=xq hs hg _ _ _ hes
     have rB:hO P c.env Γ.length (.call gs f (some (cs.map (·.2))) es ti.vt nb):=hr _ (by simp)
     obtain ⟨hf,hrun⟩:=rB hg
     unfold Oper.wp
     rw [wB hf ho hcl]
     simp only [Oper.upon]
     have:=hrun w (MM c.M0 bm tm σ) (bm id) (xs.map a.eval) hs.je hargs (fun cs' h'=>by
      simp only [Option.map_some,Option.some.injEq] at h'
      subst h'
      exact ⟨vs,T0,hblk,hrel.rs,jG.elim (fun h=>Nat.le_trans hs.m0.2.2.1 h) (fun h=>hs.m0.2.2.2 _ h.2),fun p hp=> .inr (.inl ⟨id,cs,eU,hp⟩)⟩)
     simp only [Option.map_some] at this
     rw [e] at this
     refine this.mono ?_
     rintro e' w' ⟨v,rfl,h1,h2,h3⟩
     obtain ⟨us,T1,hu1,jX⟩:=h3 rfl
     have hsb:=hs.Eo (cs':=qh (qM gs) (vars (Γ.length+1) nb) cs) eU (hfr w' h2) (fun k hk hne=>h2.block k hk (by simpa using hne)) (fun M' jk hk=>by
      subst jk
      exact ⟨us,T1,hu1,Pw (hgd.2 hg) hlen (y9 nb _ us jX),jG⟩) fun q hq=>absurd hq (H9 _ _ _ _)
     refine hK bm tm _ _ ?_
     rw [BU]
     refine aM.mono (F:=F) (hsb.kZ hd ⟨fun _=> ?_,fun h=>absurd hg h⟩ fun x hx=>by simp [cf,Go.Proofs.YtimickglpboilaaGreatDoor.K.has] at hx) fun x hx=> .inl hx
     rw [Ti eU]
     simpa [bG,E.den] using h1
    ·have hb:((qM gs).den c.env).jf=false:=by
      cases hq:((qM gs).den c.env).jf with
      | false=>rfl
      | true=>exact absurd (hgd.1 hq) hn
     have hsb:=hs.Eo (cs':=qh (qM gs) (vars (Γ.length+1) nb) cs) eU ⟨rfl,rfl,rfl,Nat.le_refl _,fun _ _ _=>rfl⟩ (fun k hk hne=>rfl) (fun M' jk hk=>by
      subst jk
      exact ⟨vs,T0,hblk,Px hb hlen hrel,jG⟩) fun q hq=>absurd hq (H9 _ _ _ _)
     rw [BU]
     exact aM.mono (F:=F) (hsb.kZ hd (Ee rfl hn) fun x hx=>by simp [cf,Go.Proofs.YtimickglpboilaaGreatDoor.K.has] at hx) fun x hx=> .inl hx
   ·simp at h
  ·simp at h
 ·simp at h
theorem acs(hs:aM c F σ bm tm a w)(aB:bQ tb.tab Γ c.env){g n:Nat}(jL: ∀x,eG g x-> ¬F x){o:Oper}{cl:Call}{f:FuncId}{ti:TI}{rt:List (Nat×Nat)}(ho:o.op= .call cl)(hcl:cl.callee= .value (.func f))(hd: ∀d,o.dst=some d->d<c.nt)(hn:n=Γ.length){aS:aU}
  (h:xE tb Γ gs o.dst σ g rt ti f cl.args.toList cl.argTypes.toList=some aS):fp P c F σ bm tm a w g gs n o aS:=by
 subst hn
 unfold xE at h
 split at h
 ·rename_i x xs T Ts hxs XI
  split at h
  ·rename_i g' id hp
   split at h
   ·rename_i cs es eU hes
    split at h
    ·rename_i nb hnb
     have GU:a.eval x= .pointer (some ⟨bm id,0,none⟩):=by
      unfold yM at hp
      split at hp
      ·rename_i g2 NB hst
       simp only [Option.some.injEq,Prod.mk.injEq] at hp
       obtain ⟨rfl,rfl⟩:=hp
       exact (mG hs hst).1.1 (aP _)
      ·simp at hp
     obtain ⟨vs,T0,hblk,hrel,jG⟩:=hs.box id cs eU
     have hid:bm id<w.heap.size:=(hs.box id cs eU).lt
     have hfr: ∀w',Fr w.heap.size (some (bm id)) w w'->Fr c.B c.X w w':=fun w' h2=>⟨h2.os,h2.tape,h2.output,h2.size,fun k hk hx=>h2.block k (Nat.lt_of_lt_of_le hk hs.hB) (by
      rintro ⟨rfl⟩
      rcases jG with jG|jG
      ·omega
      ·exact hx jG.2.symm)⟩
     have hargs:=xq hs (aP _) _ _ _ hes
     have e:(Value.pointer (some ⟨bm id,0,none⟩)::xs.map a.eval).toArray=cl.args.map a.eval:=by
      rw [<-Array.toList_inj];simp [hxs,GU]
     split at h
     ·simp only [Option.some.injEq] at h;subst h
      refine ⟨fun hg hr K Q hK=> ?_,fun hn=>absurd (aP _) hn⟩
      have rB:hO P c.env Γ.length (.call [] f (some (cs.map (·.2))) es ti.vt nb):=hr _ (by simp)
      obtain ⟨hf,hrun⟩:=rB hg
      unfold Oper.wp
      rw [wB hf ho hcl]
      simp only [Oper.upon]
      have:=hrun w (MM c.M0 bm tm σ) (bm id) (xs.map a.eval) hs.je hargs (fun cs' h'=>by
       simp only [Option.map_some,Option.some.injEq] at h'
       subst h'
       exact ⟨vs,T0,hblk,hrel.rs,jG.elim (fun h=>Nat.le_trans hs.m0.2.2.1 h) (fun h=>hs.m0.2.2.2 _ h.2),fun p hp=> .inr (.inl ⟨id,cs,eU,hp⟩)⟩)
      simp only [Option.map_some] at this
      rw [e] at this
      refine this.mono ?_
      rintro e' w' ⟨v,rfl,h1,h2,h3⟩
      obtain ⟨us,T1,hu1,jX⟩:=h3 rfl
      have hsb:=hs.Eo (cs':=vars (Γ.length+1) nb) eU (hfr w' h2) (fun k hk hne=>h2.block k hk (by simpa using hne)) (fun M' jk hk=>by
       subst jk
       exact ⟨us,T1,hu1,y9 nb _ us jX,jG⟩) fun q hq=>absurd hq (B6 _ _ _)
      refine hK bm tm _ _ ?_
      rw [BU]
      refine aM.mono (F:=F) (hsb.kZ hd (dV (aP _) ?_) fun x hx=>by simp [cf,Go.Proofs.YtimickglpboilaaGreatDoor.K.has] at hx) fun x hx=> .inl hx
      have hM:MM c.M0 bm tm (aX σ (3*id+1) (.box (vars (Γ.length+1) nb)))=MM c.M0 bm tm σ:=by
       funext p
       simp only [MM,kf]
       apply propext
       constructor
       ·rintro (h|⟨i,q,q1,q2⟩|h)
        ·exact .inl h
        ·by_cases e:i=id
         ·subst e;exact .inr (.inl ⟨i,cs,eU,q2⟩)
         ·rw [fN _ e] at q1;exact .inr (.inl ⟨i,q,q1,q2⟩)
        ·exact .inr (.inr h)
       ·rintro (h|⟨i,q,q1,q2⟩|h)
        ·exact .inl h
        ·by_cases e:i=id
         ·subst e;exact .inr (.inl ⟨i,_,cu _ _ _,q2⟩)
         ·exact .inr (.inl ⟨i,q,by rw [fN _ e];exact q1,q2⟩)
        ·exact .inr (.inr h)
      rw [hM]
      simpa [bG,E.den] using h1
     ·split at h
      ·rename_i hl
       simp only [Option.some.injEq] at h;subst h
       refine ⟨fun hg hr K Q hK=> ?_,fun hn=>absurd (aP _) hn⟩
       have rB:hO P c.env Γ.length (.gW f (some (cs.map (·.2))) es ti.vt nb rt):=hr _ (by simp)
       obtain ⟨hsh,hf,hrun⟩:=rB
       unfold Oper.wp
       rw [wB hf ho hcl]
       simp only [Oper.upon]
       have:=hrun w (MM c.M0 bm tm σ) (bm id) (xs.map a.eval) hs.je hargs (fun cs' h'=>by
        simp only [Option.map_some,Option.some.injEq] at h'
        subst h'
        exact ⟨vs,T0,hblk,hrel.rs,jG.elim (fun h=>Nat.le_trans hs.m0.2.2.1 h) (fun h=>hs.m0.2.2.2 _ h.2),fun p hp=> .inr (.inl ⟨id,cs,eU,hp⟩)⟩)
       simp only [Option.map_some] at this
       rw [e] at this
       refine this.mono ?_
       rintro e' w' ⟨v,rfl,h1,h2,h4,h3⟩
       obtain ⟨us,T1,hu1,jX⟩:=h3 rfl
       obtain ⟨hS,qP⟩:=hs.PD jL hl h4 (some id) (cs':=vars (Γ.length+1) nb) (fun i h=>by simp at h;subst h;exact ⟨cs,eU⟩) (hfr w' h2) (fun k hk hne=>h2.block k hk (by simpa using hne id rfl))
        (fun i M' tm' h jk=>by
         simp at h;subst h
         exact ⟨us,T1,hu1,y9 nb _ us (Rs.keep (fun p u hp hn=>⟨hp,fun h=>hn (jk p h)⟩) _ _ jX),jG⟩) (fun x=>B6 _ _ x)
       refine hK bm (kL tm g v rt) _ w' ?_
       have hnt: ∀p∈((3*id+1,ST.box (vars (Γ.length+1) nb))::iS g rt),∀d,p.1≠3*d:=fun p hp d=>by
        rcases List.mem_cons.1 hp with rfl|hp
        ·show 3*id+1≠3*d;omega
        ·exact IA p hp d
       rw [zp hnt]
       show aM _ _ (dm (dm (lM σ (vars (Γ.length+1) nb) (some id)) (iS g rt)) _) _ _ _ _
       have hk:bo w' (fun p=>MM c.M0 bm tm σ p\/iM v rt p) w' (MM c.M0 bm (kL tm g v rt) (dm (lM σ (vars (Γ.length+1) nb) (some id)) (iS g rt))):=fun p u hp hn=>⟨hp,fun h=>hn (qP p h)⟩
       refine hS.kZ hd (dV (aP _) (PO (vt:=ti.vt) (e:= .var Γ.length) hsh (R.keep hk _ _ h1))) fun x hx=> .inr ?_
       have:=PN (show (wz g rt ti.vt).has x from hx)
       exact ⟨this.1,by omega⟩
      ·simp at h
    ·simp at h
   ·exact acu hs aB ho hcl hd hxs hp h
  ·split at h
   ·rename_i es hes
    split at h
    ·rename_i hc
     simp only [Option.some.injEq] at h;subst h
     obtain ⟨rfl,_,hl⟩:=hc
     exact ⟨fun hg hr K Q hK=>acv hs jL ho hcl hd hl hes (hr _ (by simp)) K Q hK,fun hn=>absurd (aP _) hn⟩
    ·simp only [Option.some.injEq] at h;subst h
     refine ⟨fun hg hr K Q hK=>P8 (vt:=ti.vt) hs hg ho hcl hd hes (hr _ (by simp)) K Q hK,fun hg=> ?_⟩
     exact aM.mono (F:=F) (hs.kZ hd (Ee rfl hg) fun x hx=>by simp [cf,Go.Proofs.YtimickglpboilaaGreatDoor.K.has] at hx) fun x hx=> .inl hx
   ·simp at h
 ·rename_i hxs XI
  simp only [Option.some.injEq] at h;subst h
  refine ⟨fun hg hr K Q hK=>P8 (vt:=ti.vt) (es:=[]) (Ts:=[]) hs hg ho hcl hd (by rw [hxs];exact (rfl:ji tb Γ gs σ [] []=some [])) (hr _ (by simp)) K Q hK,fun hg=> ?_⟩
  exact aM.mono (F:=F) (hs.kZ hd (Ee rfl hg) fun x hx=>by simp [cf,Go.Proofs.YtimickglpboilaaGreatDoor.K.has] at hx) fun x hx=> .inl hx
 ·simp at h
theorem acd{f:FuncId}(hf:iy P f=true){o:Oper}{cl:Call}{t:Nat}{ps:Array Value}(ho:o.op= .call cl)(hcl:cl.callee= .value (.tmp t))(hv:a.eval (.tmp t)= .func (.func f) #[] ps):(execOp a.eval o).run P w= .ok (.enter f (cl.args.map a.eval++ps)) w:=by
 unfold iy at hf
 split at hf
 ·rename_i fn hfn
  simp only [Bool.and_eq_true,Bool.not_eq_true'] at hf
  obtain ⟨h1,h2⟩:=hf
  obtain ⟨b,hb⟩:=Option.isSome_iff_exists.1 h2
  have h1':(fn.name= "runtime.NumGoroutine")=False:=by
   apply eq_false
   intro e
   rw [e] at h1
   exact absurd h1 (by decide)
  simp [execOp,ho,resolve,hcl,hv,Deferred.ofValue,invoke,callFunc,hfn,hb,h1']
 ·simp at hf
end
end Go.Proofs.YtimickglpboilaaGreatDoor
