/- A function's contract out of the condition that is left. No program in sight. -/
import Derived.Test.YtimickglpboilaaGreatDoorF8
import Derived.Test.YtimickglpboilaaGreatDoorF7
set_option linter.unusedVariables false
set_option linter.unusedSimpArgs false
set_option linter.unusedSectionVars false
namespace Go.Proofs.YtimickglpboilaaGreatDoor
section
open Go.RowKit
variable [GC]
theorem rM: ∀(Γ:List VT) (k j l:Nat),(nG k j Γ).get l=if l%3=0/\k<=l/3/\l/3<k+Γ.length then .v [] .d (.var (j+(l/3-k))) else .un
 | [],k,j,l=>by rw [if_neg (fun ⟨_,h1,h2⟩=>by simp only [List.length_nil] at h2;omega)];rfl
 | v::r,k,j,l=>by
  simp only [nG,Sg.get]
  cases e:Nat.beq (3*k) l with
  | true =>
   have:3*k=l:=Nat.eq_of_beq_eq_true e
   subst this
   rw [if_pos ⟨by omega,by omega,by simp only [List.length_cons];omega⟩]
   simp only [cond_true]
   rw [show 3*k/3-k=0 by omega];rfl
  | false =>
   have hne:3*k≠l:=fun h=>by rw [h] at e;simp at e
   simp only [cond_false]
   rw [rM r (k+1) (j+1) l]
   by_cases h:l%3=0/\k+1<=l/3/\l/3<k+1+r.length
   ·rw [if_pos h,if_pos (by simp only [List.length_cons];omega),show j+1+(l/3-(k+1))=j+(l/3-k) by omega]
   ·rw [if_neg h,if_neg (by simp only [List.length_cons];omega)]
theorem QD{env:List D}: ∀(es:List E) (acc:E) (l:List D),acc.den env= .aE l->(BR es acc).den env= .aE (l++es.map (·.den env))
 | [],acc,l,h=>by simpa [BR] using h
 | e::r,acc,l,h=>by
  simp only [BR]
  rw [QD r (.aJ acc e) (l++[e.den env]) (by simp [E.den,h])]
  simp
section
variable {P:Program}{tb:TB}{c0:SC}{env:List D}{s:SS}{a:Act}{w:World}
theorem tE{σ:Nat->ST}{l:Nat}{cs:List (K×E)}:ij σ l= .box cs↔σ l= .box cs:=by
 unfold ij
 cases σ l<;>simp
theorem uX{σ:Nat->ST}{l:Nat}{m:LV}(h:ij σ l= .live m): ∃m',σ l= .live m'/\m=⟨m'.n,none⟩:=by
 unfold ij at h
 cases hσ:σ l with
 | live m'=>rw [hσ] at h;simp at h;exact ⟨m',rfl,h.symm⟩
 | _=>rw [hσ] at h;cases h
theorem Ga{c:SC}{σ:Nat->ST}{bm:Nat->Nat}{tm:Nat->Value}{p:Addr}(h:MM c.M0 bm tm (ij σ) p):MM c.M0 bm tm σ p:=by
 rcases h with h|⟨id,cs,h1,h2⟩|⟨g,m,h1,h2⟩
 ·exact .inl h
 ·exact .inr (.inl ⟨id,cs,tE.1 h1,h2⟩)
 ·obtain ⟨m',h3,rfl⟩:=uX h1
  exact .inr (.inr ⟨g,m',h3,vV (y5 h2)⟩)
theorem aM.freeze{c:SC}{F:Nat->Prop}{σ:Nat->ST}{bm:Nat->Nat}{tm:Nat->Value}{a:Act}{w:World}(hs:aM c F σ bm tm a w):aM c F (ij σ) bm tm a w:=by
 have hk:bo w (MM c.M0 bm tm σ) w (MM c.M0 bm tm (ij σ)):=fun p v hp hn=>⟨hp,fun h=>hn (Ga h)⟩
 refine ⟨hs.fr,hs.hB,hs.m0,fun t=> ?_,fun id cs h=> ?_,fun g m h=> ?_,fun id id' cs cs' h h'=>hs.kD id id' cs cs' (tE.1 h) (tE.1 h'),fun id cs g m b h hg hb=> ?_,fun g m g' m' b b' hg hg' hne hb hb'=> ?_,fun l g h=> ?_,fun id cs h=>hs.f2 id cs (tE.1 h),fun g m h=> ?_,hs.size,hs.defers,hs.x0⟩
 ·have:=hs.tmps t
  unfold ij
  cases hσ:σ (3*t)<;>rw [hσ] at this<;>exact this.keep hk (fun _ _=>⟨rfl,rfl⟩)
 ·exact (hs.box id cs (tE.1 h)).keep hk rfl rfl fun _ _=>rfl
 ·obtain ⟨m',h3,rfl⟩:=uX h
  exact ⟨(hs.live g m' h3).sp,(fun e dp he=>by cases he),(fun e gv ms he=>by cases he)⟩
 ·obtain ⟨m',h3,rfl⟩:=uX hg
  exact hs.iC id cs g m' b (tE.1 h) h3 (.inl (oF hb))
 ·obtain ⟨m1,h3,rfl⟩:=uX hg
  obtain ⟨m2,h4,rfl⟩:=uX hg'
  exact hs.iD g m1 g' m2 b b' h3 h4 hne (.inl (oF hb)) (.inl (oF hb'))
 ·unfold ij at h
  cases hσ:σ l with
  | live m=>rw [hσ] at h;obtain ⟨_,_,h⟩:=h;cases h
  | _=>rw [hσ] at h;exact hs.f1 l g (by rw [hσ];exact h)
 ·obtain ⟨m',h3,rfl⟩:=uX h
  exact hs.f3 g m' h3
theorem L3{c:SC}{F:Nat->Prop}{σ:Nat->ST}{bm:Nat->Nat}{tm:Nat->Value}{a:Act}{w:World}(hs:aM c F σ bm tm a w){g:Nat}{m:LV}(hσ:σ (3*g+2)= .live m){p:Addr}(hb:db tm g m p.block)(hsp: ¬wI (tm g) m.n p): ¬MM c.M0 bm tm (ij σ) p:=by
 rintro (hm|⟨id,cs,q1,q2⟩|⟨g',m',q1,q2⟩)
 ·have h1:=hs.m0.1 _ hm
  have h2:=((hs.live g _ hσ).gx hb).2
  omega
 ·exact hs.iC id cs g _ _ (tE.1 q1) hσ hb q2.symm
 ·obtain ⟨m2,q3,rfl⟩:=uX q1
  by_cases e:g'=g
  ·subst e
   rw [hσ] at q3;simp only [ST.live.injEq] at q3;subst q3
   exact hsp (y5 q2)
  ·obtain ⟨o2,s2,l2,c2,z1,z2⟩:=zh (y5 q2)
   exact hs.iD g' m2 g _ _ _ q3 hσ e (.inl ⟨o2,s2,l2,c2,z1,z2⟩) hb rfl
theorem J3{c:SC}{F:Nat->Prop}{σ:Nat->ST}{bm:Nat->Nat}{tm:Nat->Value}{a:Act}{w:World}(hs:aM c F σ bm tm a w){g:Nat}{b:E}(h:zL σ g=some b):R w (MM c.M0 bm tm (ij σ)) (b.den c.env) (tm g):=by
 unfold zL at h
 split at h
 ·rename_i n b' dp hσ
  simp only [Option.some.injEq] at h;subst h
  have hl:=hs.live g _ hσ
  obtain ⟨ad,len,cap,rows,h1,h2,h3,h4,h5,h6,h7,h8⟩:=hl.bd b' dp rfl
  rw [h1,h2]
  refine ⟨ad,len,cap,rfl,h3,h4,h5,h6,fun b' o s ha=>⟨(h8 b' o s ha).1,dF.of (n:=n) h7 fun i r hi=>Rw.of fun j d hj=> ?_⟩⟩
  obtain ⟨u,hu,hq⟩:=(h8 b' o s ha).2 i r hi j d hj
  have hlt:=(List.getElem?_eq_some_iff.1 hi).1
  have YE:r.length=n:=h7 r (List.mem_of_getElem? hi)
  have hjn:j<n:=by rw [<-YE];exact (List.getElem?_eq_some_iff.1 hj).1
  have vJ:tm g= .slice (some ⟨b',o,s⟩) len cap:=by rw [h1,ha]
  refine ⟨u,hu,L3 hs hσ (.inl ⟨o,s,len,cap,vJ,by omega⟩) fun hsp=> ?_,?_⟩
  ·obtain ⟨b2,o2,s2,l2,c2,z1,z2,z3,z4⟩:=hsp
   rw [vJ] at z1
   simp only [Value.slice.injEq,Option.some.injEq,Addr.mk.injEq] at z1
   obtain ⟨⟨rfl,rfl,rfl⟩,rfl,rfl⟩:=z1
   have:(i+1)*n<=len*n:=Nat.mul_le_mul_right _ (by omega)
   rw [Nat.add_mul,Nat.one_mul] at this
   have z3':o+len*n<=o+i*n+j:=z3
   omega
  ·rcases dp with _|⟨gv,ms⟩
   ·exact hq _ _
   ·by_cases h0:ms.getD j 0=0
    ·exact hq.1 h0 _ _
    ·obtain ⟨⟨cells,c1,c2⟩,c3,Uv,len',cap',rows',r1,r2,r3,r4,r5,r6,r7,r8⟩:=hq.2 h0
     rw [r1,r2]
     have hmem:u∈cells.toList:=by rw [<-Array.getElem?_toList] at c2;exact List.mem_of_getElem? c2
     refine ⟨Uv,len',cap',rfl,r3,r4,r5,r6,fun b2 o2 s2 ha2=>⟨(r8 b2 o2 s2 ha2).1,dF.of (n:=ms.getD j 0) r7 fun i2 rr hi2=>Rw.of fun j2 d2 hj2=> ?_⟩⟩
     obtain ⟨u2,jX,fG⟩:=(r8 b2 o2 s2 ha2).2 i2 rr hi2 j2 d2 hj2
     have hlt2:=(List.getElem?_eq_some_iff.1 hi2).1
     have Mo:bM u b2:=⟨o2,s2,len',cap',by rw [r1,ha2],by omega⟩
     refine ⟨u2,jX,L3 hs hσ (.inr ⟨_,gv,ms,cells,u,rfl,c1,hmem,Mo⟩) fun hsp=> ?_,fG _ _⟩
     obtain ⟨cells',x1,_,_,x4⟩:=hl.dp _ gv ms rfl
     rw [c1] at x1;cases x1
     obtain ⟨o3,s3,l3,J8,z1,z2⟩:=zh hsp
     exact x4 u hmem b2 Mo ⟨o3,s3,l3,J8,z1,z2⟩
 ·cases h
theorem L9{tab:Nat->List CT}{Γ:List VT}{c:SC}{F:Nat->Prop}{σ:Nat->ST}{bm:Nat->Nat}{tm:Nat->Value}{a:Act}{w:World}(aB:bQ tab Γ c.env)(hs:aM c F σ bm tm a w){k:K}{e:E}{v:Value}(h:bG w (MM c.M0 bm tm σ) tm c.env k e v):bG w (MM c.M0 bm tm (ij σ)) tm c.env k (Ac tab Γ σ k e) v:=by
 have hk:bo w (MM c.M0 bm tm σ) w (MM c.M0 bm tm (ij σ)):=fun p v hp hn=>⟨hp,fun h=>hn (Ga h)⟩
 have hkeep:bG w (MM c.M0 bm tm (ij σ)) tm c.env k e v:=h.keep hk fun _ _=>rfl
 unfold Ac
 split
 ·rename_i g
  cases hb:zL σ g with
  | none=>exact hkeep
  | some b =>
   refine ⟨?_,h.2⟩
   rw [h.2]
   exact J3 hs hb
 ·rename_i ks
  cases hcnd:(ks.any fun kk=>(yR σ kk).isSome)&&(match e.inf tab Γ with|some (.one (.agg us))=>Nat.beq us.length ks.length|_=>false) with
  | false=>exact hkeep
  | true =>
   simp only [Bool.and_eq_true] at hcnd
   obtain ⟨_,hc⟩:=hcnd
   split at hc
   ·rename_i us mE
    have hlen:=Nat.eq_of_beq_eq_true hc
    obtain ⟨l,hl,hlt⟩:=gX (E.cZ aB e _ mE)
    have hll:l.length=ks.length:=by rw [hlt.length,hlen]
    obtain ⟨hr,hkk⟩:=hkeep
    rw [hl] at hr
    obtain ⟨cs,hcs,hrs⟩:=hr
    refine ⟨?_,hkk⟩
    simp only [cond_true]
    rw [zV,hcs]
    refine ⟨cs,rfl,?_⟩
    have: ∀(o:Nat) (l':List D) (vs':List Value),Rs w (MM c.M0 bm tm (ij σ)) l' vs'->(∀i d,l'[i]? =some d->l[o+i]? =some d)->(∀i u,vs'[i]? =some u->cs.toList[o+i]? =some u) ->
      Rs w (MM c.M0 bm tm (ij σ)) (((List.range' o l'.length).map fun j=>(yR σ (ks.getD j .d)).getD (.cell e j)).map (·.den c.env)) vs':=by
     intro o l'
     induction l' generalizing o with
     | nil=>intro vs' h1 _ _;exact h1
     | cons d r ih =>
      rintro vs' ⟨u,q,rfl,h1,h2⟩ hd hv
      simp only [List.length_cons,List.range'_succ,List.map_cons]
      refine ⟨u,q,rfl,?_,ih (o+1) q h2 (fun i d' hi=>by have:=hd (i+1) d' (by simpa using hi);rwa [show o+(i+1)=o+1+i by omega] at this) (fun i u' hi=>by have:=hv (i+1) u' (by simpa using hi);rwa [show o+(i+1)=o+1+i by omega] at this)⟩
      have hd0:l[o]? =some d:=by simpa using hd 0 d rfl
      have hv0:cs.toList[o]? =some u:=by simpa using hv 0 u rfl
      have hok:o<ks.length:=by rw [<-hll];exact (List.getElem?_eq_some_iff.1 hd0).1
      cases hb:yR σ (ks.getD o .d) with
      | none =>
       simp only [Option.getD_none,E.den,hl,D.kM,List.getD,hd0,Option.getD_some]
       exact h1
      | some b =>
       simp only [Option.getD_some]
       have MS:ks[o]? =some ks[o]:=List.getElem?_eq_getElem hok
       have Ye:ks.getD o .d=ks[o]:=by simp [List.getD,MS]
       rw [Ye] at hb
       have MT:=hkk o _ u MS (by rw [hcs];simpa [iZ,gf] using hv0)
       generalize ks[o]=kk at hb MT
       cases kk with
       | own g =>
        have hu:u=tm g:=MT
        rw [hu]
        exact J3 hs hb
       | _=>simp [yR] at hb
    have key:=this 0 l cs.toList hrs (fun i d h=>by simpa using h) (fun i u h=>by simpa using h)
    rw [hll, <-List.range_eq_range'] at key
    exact key
   ·cases hc
 ·exact hkeep
theorem L0{tab:Nat->List CT}{Γ:List VT}{c:SC}{F:Nat->Prop}{σ:Nat->ST}{bm:Nat->Nat}{tm:Nat->Value}{a:Act}{w:World}(aB:bQ tab Γ c.env)(hs:aM c F σ bm tm a w): ∀{cs:List (K×E)} {vs:List Value},cr w (MM c.M0 bm tm σ) tm c.env cs vs->cr w (MM c.M0 bm tm (ij σ)) tm c.env (cs.map fun x=>(x.1,Ac tab Γ σ x.1 x.2)) vs
 | [],_,h=>h
 | x::r,vs,⟨v,q,e,h1,h2⟩=>⟨v,q,e,L9 aB hs h1,L0 aB hs h2⟩
theorem abS(aI:cL P tb tb=true){bm:Nat->Nat}{tm:Nat->Value}{F:Nat->Prop}(aB:bQ tb.tab s.Γ env)(hs:aM {c0 with env:=env} F s.σ.get bm tm a w){r:ResultVar}{x:K×E}(h:Eg tb s r=some x) :
  ∃v,(match r with| .tmp t=>(pure (a.tmps.getD t undef):Sem Value)| .cell x T=>do loadVar T (<-asAddr (a.tmps.getD x undef))).run P w= .ok v w/\bG w (MM c0.M0 bm tm (ij s.σ.get)) tm env x.1 x.2 v:=by
 have hkz:bo w (MM c0.M0 bm tm s.σ.get) w (MM c0.M0 bm tm (ij s.σ.get)):=fun p v hp hn=>⟨hp,fun h=>hn (Ga (c:=c0) h)⟩
 cases r with
 | tmp t =>
  simp only [Eg] at h
  split at h
  ·rename_i k e' hσ
   simp only [Option.some.injEq] at h;subst h
   have:=hs.tmps t
   rw [hσ] at this
   exact ⟨_,rfl,L9 aB hs (this.1 (aP _))⟩
  ·simp at h
 | cell x T =>
  simp only [Eg] at h
  split at h
  ·rename_i id ti hσ aQ
   have hp:=hs.tmps x
   rw [hσ] at hp
   have hv:=hp.1 (aP _)
   split at h
   ·rename_i cs ts eU AZ
    cases hl:Nat.beq ts.length cs.length with
    | false=>rw [hl] at h;simp at h
    | true =>
     rw [hl] at h
     simp only [cond_true,Option.some.injEq] at h;subst h
     have hll:=Nat.eq_of_beq_eq_true hl
     obtain ⟨vs,hvs,hcell,T0,hblk⟩:=Fe (hs.box id cs eU)
     obtain ⟨i,fields,z,hi,hsz,_,_,_,hu,_⟩:=lG aI aQ AZ
     have hrun:=En (P:=P) (w:=w) hu hi (b:=bm id) (o:=0) (vs:=vs) (by rw [hvs.length,hsz,hll]) (fun j u hj=>by rw [Nat.zero_add];exact hcell j u hj)
     refine ⟨.agg vs.toArray,by simp [hv,asAddr,hrun],?_⟩
     refine bG.pack ?_ fun j k u hk hu=> ?_
     ·rw [FA aB]
      have:=(L0 aB hs hvs).rs.BO
      simpa only [List.map_map,Function.comp_def] using this
     ·simp only [List.getElem?_map,Option.map_eq_some_iff] at hk
      obtain ⟨z,hz,rfl⟩:=hk
      obtain ⟨u',hu',hr'⟩:=hvs.get hz
      rw [hu] at hu';cases hu'
      exact hr'.kk
   ·rename_i k e' t eU AZ
    simp only [Option.some.injEq] at h;subst h
    obtain ⟨vs,hvs,hcell,T0,hblk⟩:=Fe (hs.box id _ eU)
    obtain ⟨v,q,rfl,hk,_⟩:=hvs
    obtain ⟨i,d,hi,_,_,_,hd,jo⟩:=fk aI aQ AZ
    exact ⟨v,by simp [hv,asAddr,Em hd jo (hcell 0 v rfl)],hk.keep hkz fun _ _=>rfl⟩
   ·simp at h
  ·simp at h
theorem PA(aI:cL P tb tb=true){bm:Nat->Nat}{tm:Nat->Value}{F:Nat->Prop}(aB:bQ tb.tab s.Γ env)(hs:aM {c0 with env:=env} F s.σ.get bm tm a w): ∀{rs:List ResultVar} {es:List (K×E)},BC tb s rs=some es ->
  ∃vs,(rs.mapM (m:=Sem) fun| .tmp t=>pure (a.tmps.getD t undef)| .cell x T=>do loadVar T (<-asAddr (a.tmps.getD x undef))).run P w= .ok vs w/\cr w (MM c0.M0 bm tm (ij s.σ.get)) tm env es vs
 | [],es,h=>by simp [BC] at h;subst h;exact ⟨[],by simp,rfl⟩
 | r::rs,es,h=>by
  simp only [BC] at h
  split at h
  ·rename_i e es' h1 h2
   simp only [Option.some.injEq] at h;subst h
   obtain ⟨v,hv,hr⟩:=abS aI aB hs h1
   obtain ⟨vs,hvs,hrs⟩:=PA aI aB hs h2
   refine ⟨v::vs,?_,v,vs,rfl,hr,hrs⟩
   rw [List.mapM_cons,Sem.run_bind]
   rw [hv]
   simp only [Result.andThen_ok,Sem.run_bind,hvs,Sem.run_pure]
  ·simp at h
theorem ND{tab:Nat->List CT}{Γ:List VT}{M:Addr->Prop}{e:E}{v1:V1}{u:Value}(aB:bQ tab Γ env)(he:e.inf tab Γ=some (.one v1))(hr:R w M (e.den env) u):(∀t,v1= .c t->gf u=[u])/\(∀ts,v1= .agg ts-> ∃vs:List Value,u= .agg vs.toArray/\vs.length=ts.length)/\iZ u=gf u:=by
 have ht:=E.cZ aB e _ he
 cases v1 with
 | c t =>
  have h1:(e.den env).one:=xo.of (vt:= .one (.c t)) ht
  have h2:=D.Bt h1 hr
  have h3:iZ u=gf u:=by
   cases u<;>first|rfl|skip
   rename_i vs
   generalize e.den env=d at h1 hr
   cases d with
   | bool b=>have:Value.tuple vs= .bool b:=hr;cases this
   | int k n=>have:Value.tuple vs= .int k n:=hr.1;cases this
   | str s=>have:Value.tuple vs= .string s:=hr.1;cases this
   | sl rows=>obtain ⟨ad,len,cap,h,_⟩:=hr;cases h
   | mem n=>obtain ⟨ad,cap,h,_⟩:=hr;cases h
   | fn f gb=>obtain ⟨ps,h,_⟩:=hr;cases h
   | _=>exact h1.elim
  exact ⟨fun _ _=>(by rw [<-h3];exact h2),fun ts h=>(by cases h),h3⟩
 | agg ts =>
  obtain ⟨l,hl,hlt⟩:=gX ht
  rw [hl] at hr
  obtain ⟨vs,rfl,hrs⟩:=hr
  exact ⟨fun t h=>(by cases h),fun ts' h=>(by cases h;exact ⟨vs.toList,by simp,by rw [hrs.length,hlt.length]⟩),rfl⟩
theorem Kw{tab:Nat->List CT}{Γ:List VT}{M:Addr->Prop}{tm:Nat->Value}(aB:bQ tab Γ env): ∀{es:List (K×E)} {us:List Value} {l:List KK},xy tab Γ es=some l->cr w M tm env es us->(∀(p:Nat) (kk:KK),l[p]? =some kk-> ∃u,(us.flatMap gf)[p]? =some u/\lU tm kk u)/\ ∀u∈us,iZ u=gf u
 | [],us,l,h,hr=>by
  simp only [xy,Option.some.injEq] at h;subst h
  have:us=[]:=hr
  subst this
  exact ⟨fun p kk h=>by simp at h,fun u h=>by simp at h⟩
 | (k,e)::r,us,l,h,⟨v,q,e',h1,h2⟩=>by
  subst e'
  have step: ∀(l0 l1:List KK),xy tab Γ r=some l1->l=l0++l1->l0.length=(gf v).length->(∀(p:Nat) (kk:KK),l0[p]? =some kk-> ∃u,(gf v)[p]? =some u/\lU tm kk u)->iZ v=gf v ->
    (∀(p:Nat) (kk:KK),l[p]? =some kk-> ∃u,((v::q).flatMap gf)[p]? =some u/\lU tm kk u)/\ ∀u∈v::q,iZ u=gf u:=by
   intro l0 l1 hl1 hl hlen h0 GF
   obtain ⟨i1,i2⟩:=Kw aB hl1 h2
   subst hl
   refine ⟨fun p kk hp=> ?_,fun u hu=> ?_⟩
   ·simp only [List.flatMap_cons]
    rcases Nat.lt_or_ge p l0.length with hlt|hge
    ·rw [List.getElem?_append_left hlt] at hp
     rw [List.getElem?_append_left (by omega)]
     exact h0 p kk hp
    ·rw [List.getElem?_append_right hge] at hp
     rw [List.getElem?_append_right (by omega), <-hlen]
     exact i1 _ kk hp
   ·rcases List.mem_cons.1 hu with rfl|hu
    ·exact GF
    ·exact i2 u hu
  simp only [xy] at h
  split at h
  ·rename_i t l1 he hl1
   simp only [Option.some.injEq] at h
   obtain ⟨q1,_,q3⟩:=ND aB he h1.rd
   have q1:=q1 t rfl
   refine step [k.kk] l1 hl1 h.symm (by rw [q1];rfl) (fun p kk hp=> ?_) q3
   rw [q1]
   have:p=0:=by
    have:=(List.getElem?_eq_some_iff.1 hp).1
    simp at this;omega
   subst this
   simp at hp;subst hp
   exact ⟨v,rfl,h1.kk⟩
  ·rename_i ts l1 he hl1
   simp only [Option.some.injEq] at h
   obtain ⟨_,q2,q3⟩:=ND aB he h1.rd
   obtain ⟨vs,rfl,hvl⟩:=q2 ts rfl
   refine step _ l1 hl1 h.symm (by simp [gf,hvl]) (fun p kk hp=> ?_) q3
   simp only [List.getElem?_map,Option.map_eq_some_iff] at hp
   obtain ⟨j,hj,rfl⟩:=hp
   obtain ⟨Yc,hj2⟩:=List.getElem?_eq_some_iff.1 hj
   simp at Yc hj2
   subst hj2
   have hu:(iZ (.agg vs.toArray))[p]? =some (vs[p]'(by omega)):=by simp [iZ,gf,List.getElem?_eq_getElem (show p<vs.length by omega)]
   exact ⟨_,by simpa [iZ] using hu,h1.nth hu⟩
  ·simp at h
theorem Ox{x:Nat}: ∀{l:List Nat},tZ x l=true↔x∈l
 | []=>by simp [tZ]
 | y::r=>by simp [tZ,Ox (l:=r)]
theorem ID{σ:Nat->ST}{l:List KK}: ∀{rt:List (Nat×Nat)} {q:List Nat},El σ l rt=some q ->
  (∀x∈rt,∃kk,l[x.1]? =some kk/\(kk= .full\/ ∃g,kk= .own g/\g∈q/\σ (3*g+2)= .live ⟨x.2,none⟩)) /\
  (∀(i j:Nat) (x y:Nat×Nat) (g g':Nat),i<j->rt[i]? =some x->rt[j]? =some y->l[x.1]? =some (.own g)->l[y.1]? =some (.own g')->g≠g')
 | [],q,h=>⟨fun x hx=>by simp at hx,fun i j x y g g' _ h=>by simp at h⟩
 | (p,m)::r,q,h=>by
  simp only [El] at h
  split at h
  ·rename_i q' hp hq'
   simp only [Option.some.injEq] at h;subst h
   obtain ⟨i1,i2⟩:=ID hq'
   refine ⟨fun x hx=> ?_,fun i j x y g g' hij hx hy h1 h2=> ?_⟩
   ·rcases List.mem_cons.1 hx with rfl|hx
    ·exact ⟨_,hp,.inl rfl⟩
    ·exact i1 x hx
   ·obtain ⟨j,rfl⟩: ∃j',j=j'+1:=⟨j-1,by omega⟩
    simp at hy
    cases i with
    | zero=>simp at hx;subst hx;rw [hp] at h1;cases h1
    | succ i=>simp at hx;exact i2 i j x y g g' (by omega) hx hy h1 h2
  ·rename_i g0 q' hp hq'
   split at h
   ·rename_i hc
    simp only [Option.some.injEq] at h;subst h
    obtain ⟨i1,i2⟩:=ID hq'
    refine ⟨fun x hx=> ?_,fun i j x y g g' hij hx hy h1 h2=> ?_⟩
    ·rcases List.mem_cons.1 hx with rfl|hx
     ·exact ⟨_,hp,.inr ⟨g0,rfl,by simp,hc.1⟩⟩
     ·obtain ⟨kk,k1,k2⟩:=i1 x hx
      exact ⟨kk,k1,k2.imp id fun ⟨g,z1,z2,z3⟩=>⟨g,z1,by simp [z2],z3⟩⟩
    ·obtain ⟨j,rfl⟩: ∃j',j=j'+1:=⟨j-1,by omega⟩
     simp at hy
     cases i with
     | zero =>
      simp at hx;subst hx
      rw [hp] at h1;simp at h1;subst h1
      obtain ⟨kk,k1,k2⟩:=i1 y (List.mem_of_getElem? hy)
      rw [h2] at k1;cases k1
      rcases k2 with k2|⟨g,z1,z2,_⟩
      ·cases k2
      ·cases z1
       intro e
       rw [e] at hc
       exact absurd (Ox.2 z2) (by rw [hc.2];simp)
     | succ i=>simp at hx;exact i2 i j x y g g' (by omega) hx hy h1 h2
   ·simp at h
  ·simp at h
theorem ab5{tab:Nat->List CT}{c:SC}{F:Nat->Prop}{σ:Nat->ST}{bm:Nat->Nat}{tm:Nat->Value}(hs:aM c F σ bm tm a w)(aB:bQ tab s.Γ c.env){es:List (K×E)}{us:List Value}{rt:List (Nat×Nat)}(hc:Ek tab s.Γ σ es rt=true)(hr:cr w (MM c.M0 bm tm σ) tm c.env es us){v:Value}
  (hv:(us=[v])\/v= .tuple us.toArray):uF c.B w v rt/\ ∀p,iM v rt p->MM c.M0 bm tm σ p:=by
 cases rt with
 | nil=>exact ⟨⟨fun x hx=>by simp at hx,fun i j x y h=>by simp at h⟩,fun p ⟨x,hx,_⟩=>by simp at hx⟩
 | cons x0 rt0 =>
  simp only [Ek] at hc
  split at hc
  ·rename_i l hl
   obtain ⟨q,hq⟩:=Option.isSome_iff_exists.1 hc
   obtain ⟨h1,h2⟩:=ID hq
   obtain ⟨c1,c2⟩:=Kw aB hl hr
   have hfl:iZ v=us.flatMap gf:=by
    rcases hv with rfl|rfl
    ·rw [c2 v (by simp)];simp
    ·simp [iZ]
   have hval: ∀x∈x0::rt0,(∃ad,lE v x= .slice ad 0 0/\l[x.1]? =some .full)\/ ∃g,lE v x=tm g/\σ (3*g+2)= .live ⟨x.2,none⟩/\l[x.1]? =some (.own g):=fun x hx=>by
    obtain ⟨kk,k1,k2⟩:=h1 x hx
    obtain ⟨u,u1,u2⟩:=c1 x.1 kk k1
    have hu:lE v x=u:=by unfold lE;rw [hfl];simp [List.getD,u1]
    rcases k2 with rfl|⟨g,rfl,_,k3⟩
    ·obtain ⟨ad,rfl⟩:=u2
     exact .inl ⟨ad,hu,k1⟩
    ·exact .inr ⟨g,by rw [hu];exact u2,k3,k1⟩
   refine ⟨⟨fun x hx=> ?_,fun i j x y hx hy hne=> ?_⟩,fun p ⟨x,hx,hp⟩=> ?_⟩
   ·intro b o s len cap he hlt
    rcases hval x hx with ⟨ad,e,_⟩|⟨g,e,hg,_⟩
    ·rw [e] at he;simp only [Value.slice.injEq] at he;omega
    ·rw [e] at he
     exact (hs.live g ⟨x.2,none⟩ hg).sp b o s len cap he hlt
   ·intro b o s len cap b' o' s' len' cap' he hlt he' vz
    rcases hval x (List.mem_of_getElem? hx) with ⟨ad,e,_⟩|⟨g,e,hg,MW⟩
    ·rw [e] at he;simp only [Value.slice.injEq] at he;omega
    ·rcases hval y (List.mem_of_getElem? hy) with ⟨ad,e',_⟩|⟨g',e',hg',MX⟩
     ·rw [e'] at he';simp only [Value.slice.injEq] at he';omega
     ·rw [e] at he;rw [e'] at he'
      refine hs.iD g ⟨x.2,none⟩ g' ⟨y.2,none⟩ b b' hg hg' ?_ (.inl ⟨o,s,len,cap,he,hlt⟩) (.inl ⟨o',s',len',cap',he',vz⟩)
      rcases Nat.lt_or_gt_of_ne hne with h|h
      ·exact h2 i j x y g g' h hx hy MW MX
      ·exact fun e=>h2 j i y x g' g h hy hx MX MW e.symm
   ·rcases hval x hx with ⟨ad,e,_⟩|⟨g,e,hg,_⟩
    ·rw [e] at hp
     obtain ⟨o,s,len,cap,z1,z2⟩:=zh hp
     simp only [Value.slice.injEq] at z1;omega
    ·rw [e] at hp
     exact .inr (.inr ⟨g,⟨x.2,none⟩,hg,vV hp⟩)
  ·simp at hc
end
theorem dw.abc{P:Program}{rb:RB}{rt:List (Nat×Nat)}{f:FuncId}{fn:Func}{cd:Code}{tb:TB}{bx:Option (List CT)}{ss:SS}{V:VC}(hf:P.funcs[f]? =some fn)(hb:fn.body=some cd)(hn:(fn.name== "runtime.NumGoroutine")=false)(oW:cL P tb tb=true)(hm:P.follows .mixedOrders=true)
  (gr:Bd tb fn.params.toList bx=some ss) (hV:sx ⟨⟨tb,fn.ntmps,rb⟩,fn.results.toList,bx.isSome,rt⟩ cd ss [] (wq ⟨⟨tb,fn.ntmps,rb⟩,fn.results.toList,bx.isSome,rt⟩)=V) (hsz:Nat.ble fn.params.size fn.ntmps=true)
  {bc:Option (List D)} {ds:List D} {r:D} {iw:List D} (hbc:bc.isSome=bx.isSome) (hty:fH tb.tab ss.Γ (ds++bc.getD [])) (hdl:ds.length=match bx with|none=>fn.params.size|some _=>fn.params.size-1) (rm:bx=none->iw=[])
  (iF:eB ds->eB (bc.getD [])->V.den P tb.tab (ds++bc.getD []) (fun d bs=>d=r/\bs=iw) []):dw P f bc ds r iw rt:=by
 subst hV
 refine ⟨by simp [iy,hf,hn,hb],fun w M g vs hM hrs eU=> ?_⟩
 have yF:=Nat.le_of_ble_eq_true hsz
 refine calls_of_wp hf hb ?_
 generalize hargs:(match bc with|none=>vs|some _=>Value.pointer (some ⟨g,0,none⟩)::vs)=args
 let c0:SC:={w0:=w,B:=w.heap.size,X:=bc.map fun _=>g,M0:=M,nt:=fn.ntmps,env:=ds++bc.getD []}
 have hbody: ∀e a' w',Post P ⟨⟨tb,fn.ntmps,rb⟩,fn.results.toList,bx.isSome,rt⟩ c0 (fun d bs=>d=r/\bs=iw) (ds++bc.getD []) [] [] (wq ⟨⟨tb,fn.ntmps,rb⟩,fn.results.toList,bx.isSome,rt⟩) e a' w' ->
   bodyPost P fn (fun e w'=> ∃v,e= .returned v/\R w' (fun p=>M p\/iM v rt p) r v/\Fr w.heap.size (bc.map fun _=>g) w w'/\uF w.heap.size w' v rt/\(bc.isSome=true-> ∃us T,w'.heap[g]? =some (.cells us.toArray T (0,0))/\Rs w' (fun p=>M p\/iM v rt p) iw us)) e a' w':=by
  have Nh: ∀(env:List D) (s:SS) (L:List (List D->Prop)) (a':Act) (w':World),Good c0 tb.tab env s a' w'->(wq ⟨⟨tb,fn.ntmps,rb⟩,fn.results.toList,bx.isSome,rt⟩ s).den P tb.tab env (fun d bs=>d=r/\bs=iw) L ->
    a'.defers=[]/\ ∃v,(results fn a'.tmps).run P w'= .ok v w'/\ ∃v',Ending.returned v= .returned v'/\R w' (fun p=>M p\/iM v' rt p) r v'/\Fr w.heap.size (bc.map fun _=>g) w w'/\uF w.heap.size w' v' rt/\(bc.isSome=true-> ∃us T,w'.heap[g]? =some (.cells us.toArray T (0,0))/\Rs w' (fun p=>M p\/iM v' rt p) iw us):=by
   intro env s L a' w' hG h
   obtain ⟨hE,hl,bm,tm,hS⟩:=hG
   refine ⟨hS.defers,?_⟩
   simp only [wq] at h
   split at h
   ·rename_i es hes
    have Ms:=hS.freeze
    cases tK:Ek tb.tab s.Γ (ij s.σ.get) es rt with
    | false=>rw [tK] at h;exact h.elim
    | true =>
    rw [tK] at h
    simp only [cond_true] at h
    obtain ⟨us,rC,Ni⟩:=PA oW hE hS hes
    have DH:=Ni.rs
    have hrun: ∃v,(results fn a'.tmps).run P w'= .ok v w'/\R w' (MM c0.M0 bm tm (ij s.σ.get)) ((Bs (es.map (·.2))).den env) v/\((us=[v])\/v= .tuple us.toArray):=by
     have hmm:(results fn a'.tmps).run P w'= .ok (if h:us.toArray.size=1 then us.toArray[0] else .tuple us.toArray) w':=by
      simp only [results,Sem.run_bind]
      rw [Array.mapM_eq_mapM_toList,Sem.run_map]
      erw [rC]
      rfl
     refine ⟨_,hmm,?_⟩
     have hlen:=DH.length
     simp only [List.length_map] at hlen
     generalize X3:es.map (·.2)=uV at DH ⊢
     have hel:uV.length=es.length:=by rw [<-X3];simp
     unfold Bs
     split
     ·rename_i e
      obtain ⟨v,q,rfl,h1,h2⟩:=DH
      have:q=[]:=h2
      subst this
      exact ⟨by simpa using h1,.inl (by simp)⟩
     ·rename_i es' hne
      have h1: ¬us.toArray.size=1:=by
       intro h1
       have:uV.length=1:=by rw [hel];simpa [hlen] using h1
       match uV,this with
       | [e],_=>exact hne e rfl
      rw [dif_neg h1,QD uV .bP [] rfl,List.nil_append]
      exact ⟨⟨us.toArray,rfl,by simpa using DH⟩,.inr rfl⟩
    obtain ⟨v,hv,hR,YV⟩:=hrun
    obtain ⟨Nk,YH⟩:=ab5 (c:={c0 with env:=env}) Ms hE tK Ni YV
    have GI:bo w' (MM c0.M0 bm tm (ij s.σ.get)) w' (fun p=>M p\/iM v rt p):=fun p u hp hn=>⟨hp,fun h=>h.elim (fun h=>hn (.inl h)) (fun h=>hn (YH p h))⟩
    refine ⟨v,hv,v,rfl,?_⟩
    generalize Bs (es.map (·.2))=e at h hR
    cases hbx:bx.isSome with
    | false =>
     rw [hbx] at h hbc
     simp only [cond_false,VC.den,List.map_nil] at h
     refine ⟨by rw [<-h.1];exact R.keep GI _ _ hR,hS.fr,Nk,fun h=>by rw [hbc] at h;cases h⟩
    | true =>
     rw [hbx] at h hbc
     simp only [cond_true] at h
     split at h
     ·rename_i cs hcs
      simp only [VC.den] at h
      obtain ⟨B0,T,q1,q2,q3⟩:=Ms.box 0 cs (tE.2 hcs)
      have hx:c0.X=some g:=by
       show bc.map _=_
       cases bc with
       | none=>simp at hbc
       | some _=>rfl
      have hg:=(hS.x0 g hx).1
      refine ⟨by rw [<-h.1];exact R.keep GI _ _ hR,hS.fr,Nk,fun _=>⟨B0,T,by rw [<-hg];exact q1,?_⟩⟩
      rw [<-h.2]
      exact Rs.keep GI _ _ q2.rs
     ·exact h.elim
   ·exact h.elim
  intro e a' w' hp
  cases e with
  | normal =>
   obtain ⟨more,pre,s,h1,h2,h3⟩:=hp
   exact Nh _ s _ a' w' h1 h3
  | exit id=>obtain ⟨k',h1,_⟩:=hp;simp [Bm] at h1
  | ret =>
   obtain ⟨env,s,L,h1,h2⟩:=hp
   exact Nh env s L a' w' h1 h2
  | goto l=>exact hp.elim
  | panic ch=>exact hp.elim
  | outgrown=>exact hp.elim
 have Dv:=Aw hty
 have hfits:eB ds/\eB (bc.getD []):=by
  refine ⟨Rs.fits _ _ hrs,?_⟩
  cases bc with
  | none=>trivial
  | some cs=>obtain ⟨us,T,_,h2,_⟩:=eU cs rfl;exact Rs.fits _ _ h2
 refine wp_mono (adg (fx:=⟨⟨tb,fn.ntmps,rb⟩,fn.results.toList,bx.isSome,rt⟩) (c0:=c0) oW rfl hm (fun d bs=>d=r/\bs=iw) cd ss [] _ (ds++bc.getD []) [] _ w ?_ ?_ (iF hfits.1 hfits.2)) hbody
 ·have Gi:bQ tb.tab ss.Γ (ds++bc.getD []):=by
   have:=bQ.append (tab:=tb.tab) (Γ:=[]) (env:=[]) (fun i t h=>by simp at h) rfl hty
   simpa using this
  have hvl:=hrs.length
  have gu: ∀t,({tmps:=args.toArray++Array.replicate (fn.ntmps-args.toArray.size) undef,defers:=[]}:Act).tmps.getD t undef=args.getD t undef:=fun t=>by
   simp only [Array.getD_eq_getD_getElem?,List.getD]
   by_cases h:t<args.length
   ·rw [Array.getElem?_append_left (by simpa using h)];simp
   ·rw [Array.getElem?_append_right (by simp;omega),List.getElem?_eq_none (by omega)]
    simp only [Array.getElem?_replicate]
    split<;>rfl
  refine ⟨Gi,Dv,?_⟩
  unfold Bd at gr
  split at gr
  ·
   rename_i ps
   split at gr
   ·rename_i Γ aB
    simp only [Option.some.injEq] at gr;subst gr
    have u7:bc=none:=by cases bc with|none=>rfl|some _=>simp at hbc
    subst u7
    simp only at hargs;subst hargs
    simp only [Option.getD_none,List.append_nil] at Dv Gi ⊢
    have GZ:vs.length<=fn.ntmps:=by
     have:Γ.length=fn.params.size:=by
      have hk: ∀(l:List Nat) (Γ:List VT),qE tb l=some Γ->Γ.length=l.length:=by
       intro l
       induction l with
       | nil=>intro Γ h;simp [qE] at h;subst h;rfl
       | cons T l ih =>
        intro Γ h
        simp only [qE] at h
        split at h
        ·rename_i i l' _ h2
         simp only [Option.some.injEq] at h;subst h
         simp [ih _ h2]
        ·simp at h
      simpa using hk _ _ aB
     omega
    have qa: ∀id cs,(nG 0 0 Γ).get (3*id+1)≠ .box cs:=fun id cs h=>by rw [rM] at h;split at h<;>cases h
    have qb: ∀g n,(nG 0 0 Γ).get (3*g+2)≠ .live n:=fun g n h=>by rw [rM] at h;split at h<;>cases h
    refine ⟨fun x=>x,fun _=>undef,Fr.refl _ _ _,Nat.le_refl _,⟨hM.1,hM.2.1,hM.2.2,fun g' hg'=>by cases hg'⟩,fun t=> ?_,fun id cs h=>absurd h (qa id cs),fun g n h=>absurd h (qb g n),fun id id' cs cs' h=>absurd h (qa id cs),fun id cs g n b h=>absurd h (qa id cs),fun g n g' n' b b' h=>absurd h (qb g n),fun l g h=> ?_,fun id cs h=>absurd h (qa id cs),fun g n h=>absurd h (qb g n),?_,rfl,fun g hg=>by simp [c0] at hg⟩
    ·rw [gu,rM]
     split
     ·rename_i hc
      refine ⟨fun _=> ?_,fun h=>absurd (aP _) h⟩
      have ht:t<ds.length:=by omega
      obtain ⟨v,hv,hr⟩:=hrs.get (List.getElem?_eq_getElem ht)
      simp only [bG,E.den,List.getD,show 0+(3*t/3-0)=t by omega,List.getElem?_eq_getElem ht,hv,Option.getD_some]
      refine R.keep (fun p u hp hn=>⟨hp,?_⟩) _ _ hr
      rintro (h|⟨id,cs,h1,_⟩|⟨g,n,h1,_⟩)
      ·exact hn h
      ·exact qa id cs h1
      ·exact qb g n h1
     ·trivial
    ·rw [rM] at h
     split at h
     ·exact h.elim
     ·exact h.elim
    ·show _=fn.ntmps
     simp only [Array.size_append,Array.size_replicate];simp;omega
   ·simp at gr
  ·
   rename_i nR p0 ps hps hxx
   split at gr
   ·rename_i Γ aB
    simp only [Option.some.injEq] at gr;subst gr
    obtain ⟨sY,rfl⟩: ∃x,bc=some x:=by cases bc with|none=>simp at hbc|some x=>exact ⟨x,rfl⟩
    simp only at hargs;subst hargs
    simp only [Option.getD_some] at Dv Gi hty ⊢
    obtain ⟨us,T,hblk,YP,M9,X6⟩:=eU sY rfl
    have hk: ∀(l:List Nat) (Γ:List VT),qE tb l=some Γ->Γ.length=l.length:=by
     intro l
     induction l with
     | nil=>intro Γ h;simp [qE] at h;subst h;rfl
     | cons T l ih =>
      intro Γ h
      simp only [qE] at h
      split at h
      ·rename_i i l' _ h2
       simp only [Option.some.injEq] at h;subst h
       simp [ih _ h2]
      ·simp at h
    have hpl:fn.params.size=ps.length+1:=by rw [<-Array.length_toList,hps];rfl
    have ajf:=hk _ _ aB
    have aiU:ds.length=Γ.length:=by
     have:ds.length=fn.params.size-1:=hdl
     omega
    have hbl:sY.length=nR.length:=by simp only [List.length_append,List.length_map] at Dv;omega
    have hget: ∀l,Sg.get ((0,.ptr [] 0 0)::(1,.box (vars Γ.length nR))::nG 1 0 Γ) l=if l=0 then .ptr [] 0 0 else if l=1 then .box (vars Γ.length nR) else (nG 1 0 Γ).get l:=fun l=>by
     rw [Sg.Gc,Sg.Gc];simp only [aX]
    have qa: ∀id cs,Sg.get ((0,.ptr [] 0 0)::(1,.box (vars Γ.length nR))::nG 1 0 Γ) (3*id+1)= .box cs->id=0/\cs=vars Γ.length nR:=fun id cs h=>by
     rw [hget,if_neg (by omega)] at h
     by_cases e:3*id+1=1
     ·rw [if_pos e] at h;simp only [ST.box.injEq] at h;exact ⟨by omega,h.symm⟩
     ·rw [if_neg e,rM] at h;split at h<;>cases h
    have qb: ∀g n,Sg.get ((0,.ptr [] 0 0)::(1,.box (vars Γ.length nR))::nG 1 0 Γ) (3*g+2)≠ .live n:=fun g n h=>by
     rw [hget,if_neg (by omega),if_neg (by omega),rM] at h;split at h<;>cases h
    have qP: ∀p,MM M (fun _=>g) (fun _=>undef) (Sg.get ((0,.ptr [] 0 0)::(1,.box (vars Γ.length nR))::nG 1 0 Γ)) p->M p:=by
     rintro p (h|⟨id,cs,h1,h2⟩|⟨g',n,h1,_⟩)
     ·exact h
     ·exact X6 p h2
     ·exact absurd h1 (qb g' n)
    have hkeep:bo w M w (MM M (fun _=>g) (fun _=>undef) (Sg.get ((0,.ptr [] 0 0)::(1,.box (vars Γ.length nR))::nG 1 0 Γ))):=fun p u hp hn=>⟨hp,fun h=>hn (qP p h)⟩
    refine ⟨fun _=>g,fun _=>undef,Fr.refl _ _ _,Nat.le_refl _,⟨hM.1,hM.2.1,hM.2.2,fun g' hg'=>by cases hg';exact M9⟩,fun t=> ?_,fun id cs h=> ?_,fun g n h=>absurd h (qb g n),fun id id' cs cs' h h' hne=> ?_,fun id cs g n b _ h=>absurd h (qb g n),fun g n g' n' b b' h=>absurd h (qb g n),fun l x h=> ?_,fun id cs h=> ?_,fun g n h=>absurd h (qb g n),?_,rfl,fun g' hg=>⟨?_,by simp [below]⟩⟩
    ·rw [gu,hget]
     by_cases h0:3*t=0
     ·rw [if_pos h0]
      have:t=0:=by omega
      subst this
      exact ⟨fun _=>rfl,fun h=>absurd (aP _) h⟩
     ·rw [if_neg h0,if_neg (by omega),rM]
      split
      ·rename_i hc
       refine ⟨fun _=> ?_,fun h=>absurd (aP _) h⟩
       have ht:t-1<ds.length:=by omega
       obtain ⟨v,hv,hr⟩:=hrs.get (List.getElem?_eq_getElem ht)
       have e1:0+(3*t/3-1)=t-1:=by omega
       have e2:(Value.pointer (some ⟨g,0,none⟩)::vs).getD t undef=v:=by
        obtain ⟨t',rfl⟩: ∃t',t=t'+1:=⟨t-1,by omega⟩
        simp only [List.getD,List.getElem?_cons_succ]
        rw [show t'+1-1=t' by omega] at hv
        rw [hv];rfl
       rw [e2]
       simp only [bG,E.den,e1,List.getD,List.getElem?_append_left ht,List.getElem?_eq_getElem ht,Option.getD_some]
       exact R.keep hkeep _ _ hr
      ·trivial
    ·obtain ⟨rfl,rfl⟩:=qa id cs h
     refine ⟨us,T,hblk,?_,.inr ⟨rfl,rfl⟩⟩
     refine y9 (c:={c0 with env:=ds++sY}) nR Γ.length us ?_
     have:((List.range nR.length).map fun j=>(ds++sY).getD (Γ.length+j) .un)=sY:=by
      refine List.ext_getElem? fun i=> ?_
      simp only [List.getElem?_map]
      by_cases hi:i<nR.length
      ·rw [List.getElem?_range hi]
       simp only [Option.map_some,List.getD]
       rw [List.getElem?_append_right (by omega),show Γ.length+i-ds.length=i by omega]
       simp [List.getElem?_eq_getElem (show i<sY.length by omega)]
      ·rw [List.getElem?_eq_none (by simp;omega),List.getElem?_eq_none (by omega)];rfl
     show Rs w _ ((List.range nR.length).map fun j=>(ds++sY).getD (Γ.length+j) .un) us
     rw [this]
     exact Rs.keep hkeep _ _ YP
    ·obtain ⟨rfl,_⟩:=qa id cs h
     obtain ⟨rfl,_⟩:=qa id' cs' h'
     exact absurd rfl hne
    ·rw [hget] at h
     split at h
     ·simp only [cf] at h;subst h;simp [below]
     ·split at h
      ·exact absurd h (B6 _ _ _)
      ·rw [rM] at h;split at h<;>exact h.elim
    ·obtain ⟨rfl,_⟩:=qa id cs h;simp [below]
    ·show _=fn.ntmps
     simp only [Array.size_append,Array.size_replicate];simp;omega
    ·have:(some sY).map (fun _=>g)=some g':=hg
     simpa using this
   ·simp at gr
  ·simp at gr
 ·unfold Bd at gr
  split at gr
  ·split at gr
   ·simp only [Option.some.injEq] at gr;subst gr;rfl
   ·simp at gr
  ·split at gr
   ·simp only [Option.some.injEq] at gr;subst gr;rfl
   ·simp at gr
  ·simp at gr
open Classical in
def D3:Option (List CT)->Nat
 | none=>0
 | some _=>1
def bA(P:Program)(tb:TB)(rb:RB)(f:FuncId)(bx:Option (List CT)):VC :=
 match P.funcs[f]? with
 | none=> .fail 90
 | some fn=>match fn.body,Bd tb fn.params.toList bx with
  | some c,some ss=>bif !(fn.name== "runtime.NumGoroutine")&&Nat.ble fn.params.size fn.ntmps&&Nat.beq ss.Γ.length (fn.params.size-D3 bx+(bx.getD []).length) then
    sx ⟨⟨tb,fn.ntmps,rb⟩,fn.results.toList,bx.isSome,rb.get f⟩ c ss [] (wq ⟨⟨tb,fn.ntmps,rb⟩,fn.results.toList,bx.isSome,rb.get f⟩) else .fail 92
  | _,_=> .fail 91
def bz(P:Program)(tb:TB)(f:FuncId)(bx:Option (List CT)):List VT :=
 match P.funcs[f]? with
 | none=>[]
 | some fn=>match Bd tb fn.params.toList bx with
  | some ss=>ss.Γ
  | none=>[]
def VC.ok:VC->Bool
 | .fail _=>false
 | _=>true
theorem dw.of{P:Program}{f:FuncId}{tb:TB}{rb:RB}{bx:Option (List CT)}{V:VC}{Γ:List VT}(hV:bA P tb rb f bx=V)(hok:V.ok=true)(aB:bz P tb f bx=Γ)(oW:cL P tb tb=true)(hm:P.follows .mixedOrders=true)
  {bc:Option (List D)} {ds:List D} {r:D} {iw:List D} (hbc:bc.map List.length=bx.map List.length) (hty:fH tb.tab Γ (ds++bc.getD [])) (rm:bx=none->iw=[])
  (iF:eB ds->eB (bc.getD [])->V.den P tb.tab (ds++bc.getD []) (fun d bs=>d=r/\bs=iw) []):dw P f bc ds r iw (rb.get f):=by
 have GH:bc.isSome=bx.isSome:=by
  cases bc<;>cases bx<;>first|rfl|(exact absurd hbc (by intro h;cases h))
 unfold bA at hV
 unfold bz at aB
 split at hV
 ·subst hV;exact absurd hok (by intro h;cases h)
 ·rename_i fn hf
  rw [hf] at aB
  simp only at aB
  split at hV
  ·rename_i c ss hb gr
   rw [gr] at aB
   simp only at aB
   subst aB
   generalize hC:(!(fn.name== "runtime.NumGoroutine")&&Nat.ble fn.params.size fn.ntmps&&Nat.beq ss.Γ.length (fn.params.size-D3 bx+(bx.getD []).length))=C at hV
   cases C with
   | false=>simp only [cond_false] at hV;subst hV;exact absurd hok (by intro h;cases h)
   | true =>
    simp only [cond_true] at hV
    simp only [Bool.and_eq_true,Bool.not_eq_true'] at hC
    obtain ⟨⟨h1,h2⟩,h3⟩:=hC
    replace h3:=Nat.eq_of_beq_eq_true h3
    refine dw.abc hf hb h1 oW hm gr hV h2 GH hty ?_ rm iF
    have hl:=Aw hty
    cases bx with
    | none =>
     cases bc with
     | none=>simp [D3] at hl h3;simp only;omega
     | some _=>simp at GH
    | some ct =>
     cases bc with
     | none=>simp at GH
     | some cs=>simp [D3] at hl h3 hbc;simp only;omega
  ·subst hV;exact absurd hok (by intro h;cases h)
theorem aG.of{P:Program}{f:FuncId}{tb:TB}{rb:RB}{bx:Option (List CT)}{V:VC}{Γ:List VT}(hV:bA P tb rb f bx=V)(hok:V.ok=true)(aB:bz P tb f bx=Γ)(oW:cL P tb tb=true)(hm:P.follows .mixedOrders=true)
  {bc:Option (List D)} {ds:List D} {r:D} {iw:List D} (hbc:bc.map List.length=bx.map List.length) (hty:fH tb.tab Γ (ds++bc.getD [])) (rm:bx=none->iw=[])
  (iF:eB ds->eB (bc.getD [])->V.den P tb.tab (ds++bc.getD []) (fun d bs=>d=r/\bs=iw) []):aG P f bc ds r iw :=
 .D6 (dw.of hV hok aB oW hm hbc hty rm iF)
end
section
open Go
def bi:RB:=[(7,[(3,2),(5,2)]),(8,[(3,2),(5,2)]),(10,[(3,2),(5,2)]),(16,[(3,2),(5,2),(6,5)]),(17,[(0,4)]),(18,[(3,2),(5,2),(6,5)]),(26,[(3,2),(5,2)]),(33,[(3,2)]),(34,[(0,2)]),(35,[(3,2),(5,2)]),(52,[(3,2)]),(62,[(0,2)]),(64,[(3,2)]),(85,[(0,1)]),(96,[(0,2)]),(100,[(0,2)]),(104,[(0,1)]),(108,[(0,2)]),(111,[(0,1)]),(122,[(0,1)])]
abbrev tyP:V1:= .agg [.str,.bool,.bool,.sl 125,.int .i64,.sl 52]
abbrev wP:V1:= .agg [.int .i64,.int .i64,.str,.int .i64,.int .i64]
abbrev uo:V1:= .agg [.str,.str,.int .i64,.str]
abbrev tyO:V1:= .agg [.str,.bool,.bool,.sl 125,.int .i64]
abbrev tyK:List CT:=[.sl 5,.int .i64,.int .i64]
abbrev bw:VT:= .one (.c (.int .i64))
abbrev dO:VT:= .one (.c .bool)
abbrev eJ:VT:= .one (.c .str)
end
section
open Go
set_option maxRecDepth 1000000
def Rz:VC:=(.ite (.ic .lss (.ar .sub .i64 (.var 1) (.len (.cell (.var 0) 0))) (.li .i64 0)) (.ret (.li .i64 (-1)) []) (.ite (.ic .lss (.ar .sub .i64 (.ar .sub .i64 (.var 1) (.len (.cell (.var 0) 0))) (.len (.cell (.var 0) 1))) (.li .i64 0)) (.ret (.li .i64 (-1)) []) (.ite (.ic .lss (.ar .sub .i64 (.ar .sub .i64 (.ar .sub .i64 (.var 1) (.len (.cell (.var 0) 0))) (.len (.cell (.var 0) 1))) (.len (.cell (.var 0) 3))) (.li .i64 0)) (.ret (.li .i64 (-1)) []) (.ret (.ar .sub .i64 (.ar .sub .i64 (.ar .sub .i64 (.var 1) (.len (.cell (.var 0) 0))) (.len (.cell (.var 0) 1))) (.len (.cell (.var 0) 3))) []))))
theorem agO:bA Tryz.prog aD bi 6 none=Rz:=by kernel_rfl
def aeB:List VT:=[(.one uo),bw]
theorem aeC:bz Tryz.prog aD 6 none=aeB:=by kernel_rfl
def Rp:VC:=(.ite (.ic .neq (.cell (.var 0) 0) (.cell (.var 1) 0)) (.ret (.lb false) []) (.ite (.ic .neq (.cell (.var 0) 1) (.cell (.var 1) 1)) (.ret (.lb false) []) (.ite (.sc .neq (.cell (.var 0) 2) (.cell (.var 1) 2)) (.ret (.lb false) []) (.ite (.ic .neq (.cell (.var 0) 3) (.cell (.var 1) 3)) (.ret (.lb false) []) (.ite (.ic .neq (.cell (.var 0) 4) (.cell (.var 1) 4)) (.ret (.lb false) []) (.ret (.lb true) []))))))
theorem agI:bA Tryz.prog aD bi 12 none=Rp:=by kernel_rfl
def aep:List VT:=[(.one wP),(.one wP)]
theorem aeq:bz Tryz.prog aD 12 none=aep:=by kernel_rfl
def Sz:VC:=(.rq (.gW 52 none [(.sub (.var 0) 0 5)] (.one (.agg [.str,.bool,.bool,(.sl 118),(.int .i64)])) [] [(3,2)]) (.rq (.cond [] (.few (.bJ 86) (.cell (.var 0) 5))) (.ret (.cat (.ah (.cell (.var 1) 0)) (.cat (.ah (.cell (.var 1) 1)) (.cat (.ah (.cell (.var 1) 2)) (.cat (.ah (.cell (.var 1) 3)) (.cat (.ah (.cell (.var 1) 4)) (.cat (.ah (.app (.bJ 86) (.cell (.var 0) 5))) .cT)))))) [])))
theorem ahA:bA Tryz.prog aD bi 26 none=Sz:=by kernel_rfl
def afZ:List VT:=[(.one (.agg [.str,.bool,.bool,(.sl 118),(.int .i64),(.sl 86)]))]
theorem af0:bz Tryz.prog aD 26 none=afZ:=by kernel_rfl
theorem acb:bi.get 26=[(3,2),(5,2)]:=by kernel_rfl
def RT:VC:=(.rq (.call [] 55 none [(.var 0),(.len (.cell (.var 0) 5))] bw []) (.ret (.var 1) []))
theorem ag6:bA Tryz.prog aD bi 30 none=RT:=by kernel_rfl
def ae7:List VT:=[(.one (.agg [.str,.bool,.bool,(.sl 118),(.int .i64),(.sl 86)]))]
theorem ae8:bz Tryz.prog aD 30 none=ae7:=by kernel_rfl
def RN:VC:=(.rq (.cond [] (.an (.ic .leq (.li .i64 0) (.len (.var 0))) (.ic .leq (.len (.var 0)) (.li .i64 4294967296)))) (.loop [bw,(.one (.c (.sl 86)))] [(.li .i64 0),(.rep 86 [.str,(.int .i64)] (.len (.var 0)))] (.ite (.ic .lss (.var 1) (.len (.var 0))) (.rq (.cond [] (.cw (.var 0) (.var 1))) (.rq (.call [] 63 none [(.row [.str,(.int .i64)] (.var 0) (.var 1))] (.one (.agg [.str,(.int .i64)])) []) (.rq (.cond [] (.cw (.mem (.len (.var 0))) (.var 1))) (.again 0 [(.ar .add .i64 (.var 1) (.li .i64 1)),(.aX (.var 2) (.var 1) (.var 3) 0)])))) (.ret (.var 2) []))))
theorem agZ:bA Tryz.prog aD bi 34 none=RN:=by kernel_rfl
def aeY:List VT:=[(.one (.c (.sl 83)))]
theorem aeZ:bz Tryz.prog aD 34 none=aeY:=by kernel_rfl
theorem ab2:bi.get 34=[(0,2)]:=by kernel_rfl
def QV:VC:=(.rq (.call [] 67 none [(.var 0),(.len (.cell (.var 0) 5))] bw []) (.ret (.var 1) []))
theorem age:bA Tryz.prog aD bi 38 none=QV:=by kernel_rfl
def adA:List VT:=[(.one (.agg [.str,.bool,.bool,(.sl 118),(.int .i64),(.sl 86)]))]
theorem adB:bz Tryz.prog aD 38 none=adA:=by kernel_rfl
def Rn:VC:=(.ite (.ic .neq (.len (.var 0)) (.len (.var 1))) (.ret (.lb false) []) (.loop [bw] [(.li .i64 0)] (.ite (.ic .lss (.var 2) (.len (.var 0))) (.rq (.cond [] (.cw (.var 0) (.var 2))) (.rq (.cond [] (.cw (.var 1) (.var 2))) (.rq (.call [] 76 none [(.row [.str,(.int .i64)] (.var 0) (.var 2)),(.row [.str,(.int .i64)] (.var 1) (.var 2))] dO []) (.ite (.no (.var 3)) (.ret (.lb false) []) (.again 0 [(.ar .add .i64 (.var 2) (.li .i64 1))]))))) (.ret (.lb true) []))))
theorem agF:bA Tryz.prog aD bi 43 none=Rn:=by kernel_rfl
def aek:List VT:=[(.one (.c (.sl 86))),(.one (.c (.sl 86)))]
theorem ael:bz Tryz.prog aD 43 none=aek:=by kernel_rfl
def Ss:VC:=(.rq (.cond [] (.few (.bJ 118) (.cell (.var 0) 3))) (.ret (.cat (.ah (.cell (.var 0) 0)) (.cat (.ah (.cell (.var 0) 1)) (.cat (.ah (.cell (.var 0) 2)) (.cat (.ah (.app (.bJ 118) (.cell (.var 0) 3))) (.cat (.ah (.cell (.var 0) 4)) .cT))))) []))
theorem ahu:bA Tryz.prog aD bi 52 none=Ss:=by kernel_rfl
def afN:List VT:=[(.one (.agg [.str,.bool,.bool,(.sl 118),(.int .i64)]))]
theorem afO:bz Tryz.prog aD 52 none=afN:=by kernel_rfl
theorem ab9:bi.get 52=[(3,2)]:=by kernel_rfl
def R3:VC:=(.loop [bw] [(.li .i64 0)] (.ite (.ic .lss (.var 1) (.len (.var 0))) (.rq (.cond [] (.cw (.var 0) (.var 1))) (.rq (.call [] 83 none [(.at (.var 0) (.var 1)),(.ic .eql (.var 1) (.li .i64 0))] dO []) (.ite (.no (.var 2)) (.ret (.lb false) []) (.again 0 [(.ar .add .i64 (.var 1) (.li .i64 1))])))) (.ret (.an (.ic .gtr (.len (.var 0)) (.li .i64 0)) (.ic .leq (.len (.var 0)) (.li .i64 8))) [])))
theorem ahd:bA Tryz.prog aD bi 56 none=R3:=by kernel_rfl
def afj:List VT:=[eJ]
theorem afk:bz Tryz.prog aD 56 none=afj:=by kernel_rfl
def RS:VC:=(.rq (.gW 52 none [(.var 0)] (.one (.agg [.str,.bool,.bool,(.sl 118),(.int .i64)])) [] [(3,2)]) (.rq (.call [] 53 none [(.var 0)] dO []) (.rq (.call [((.no (.var 3)),false)] 28 none [(.var 1)] dO []) (.ite (.or (.no (.var 3)) (.no (.var 4))) (.ret (.aJ (.aJ .bP (.var 2)) (.cat (.ah (.li .i64 7)) (.cat (.ah (.li .i64 0)) (.cat (.ah (.ls ⟨#[]⟩)) (.cat (.ah (.li .i64 0)) (.cat (.ah (.li .i64 0)) .cT)))))) []) (.rq (.call [] 80 none [(.cell (.var 0) 0)] (.aE [(.c (.int .i64)),(.c .bool)]) []) (.rq (.call [] 31 none [(.cell (.var 1) 0)] bw []) (.rq (.call [] 29 none [(.proj (.var 5) 0),(.var 6)] dO []) (.ite (.no (.var 7)) (.rq (.call [] 31 none [(.cell (.var 1) 0)] bw []) (.ret (.aJ (.aJ .bP (.var 2)) (.cat (.ah (.li .i64 1)) (.cat (.ah (.li .i64 0)) (.cat (.ah (.ls ⟨#[]⟩)) (.cat (.ah (.var 8)) (.cat (.ah (.proj (.var 5) 0)) .cT)))))) [])) (.rq (.call [] 58 none [(.proj (.var 5) 0),(.li .i64 0)] dO []) (.rq (.call [] 86 none [(.var 2),(.var 1),(.var 8)] (.aE [(.agg [.str,.bool,.bool,(.sl 118),(.int .i64)]),wP]) []) (.ret (.aJ (.aJ .bP (.proj (.var 9) 0)) (.proj (.var 9) 1)) [])))))))))))
theorem ag5:bA Tryz.prog aD bi 60 none=RS:=by kernel_rfl
def ae5:List VT:=[(.one (.agg [.str,.bool,.bool,(.sl 118),(.int .i64)])),(.one uo)]
theorem ae6:bz Tryz.prog aD 60 none=ae5:=by kernel_rfl
def Q0:VC:=(.rq (.call [] 90 none [(.cell (.var 0) 0)] (.aE [(.c (.int .i64)),(.c .bool)]) []) (.rq (.call [((.no (.proj (.var 1) 1)),false)] 91 none [(.cell (.var 0) 3)] dO []) (.rq (.call [((.or (.or (.no (.proj (.var 1) 1)) (.no (.var 2))) (.an (.ic .gtr (.len (.cell (.var 0) 3)) (.li .i64 0)) (.ic .eql (.ar .and .i64 (.proj (.var 1) 0) (.li .i64 2)) (.li .i64 0)))),false)] 68 none [(.cell (.var 0) 4)] dO []) (.ite (.or (.or (.or (.no (.proj (.var 1) 1)) (.no (.var 2))) (.an (.ic .gtr (.len (.cell (.var 0) 3)) (.li .i64 0)) (.ic .eql (.ar .and .i64 (.proj (.var 1) 0) (.li .i64 2)) (.li .i64 0)))) (.no (.var 3))) (.ret (.lb false) []) (.ret (.an (.no (.an (.cell (.var 0) 1) (.cell (.var 0) 2))) (.or (.ic .eql (.ar .and .i64 (.proj (.var 1) 0) (.li .i64 1)) (.li .i64 1)) (.an (.no (.cell (.var 0) 1)) (.no (.cell (.var 0) 2))))) [])))))
theorem agk:bA Tryz.prog aD bi 65 none=Q0:=by kernel_rfl
def adJ:List VT:=[(.one (.agg [.str,.bool,.bool,(.sl 118),(.int .i64)]))]
theorem adK:bz Tryz.prog aD 65 none=adJ:=by kernel_rfl
def QU:VC:=(.loop [bw] [(.li .i64 0)] (.ite (.ic .lss (.var 1) (.li .i64 6)) (.rq (.call [] 93 none [(.var 1)] (.one (.c (.sl 9))) []) (.rq (.call [] 92 none [(.var 2),(.var 0)] dO []) (.ite (.var 3) (.ret (.var 1) []) (.again 0 [(.ar .add .i64 (.var 1) (.li .i64 1))])))) (.ret (.li .i64 (-1)) [])))
theorem agd:bA Tryz.prog aD bi 69 none=QU:=by kernel_rfl
def adx:List VT:=[eJ]
theorem adz:bz Tryz.prog aD 69 none=adx:=by kernel_rfl
def Ri:VC:=(.ite (.ic .neq (.len (.var 0)) (.len (.var 1))) (.ret (.lb false) []) (.loop [bw] [(.li .i64 0)] (.ite (.ic .lss (.var 2) (.len (.var 0))) (.rq (.cond [] (.cw (.var 0) (.var 2))) (.rq (.cond [] (.cw (.var 1) (.var 2))) (.rq (.call [] 97 none [(.row [.str,(.int .i64)] (.var 0) (.var 2)),(.row [.str,(.int .i64)] (.var 1) (.var 2))] dO []) (.ite (.no (.var 3)) (.ret (.lb false) []) (.again 0 [(.ar .add .i64 (.var 2) (.li .i64 1))]))))) (.ret (.lb true) []))))
theorem agC:bA Tryz.prog aD bi 75 none=Ri:=by kernel_rfl
def aee:List VT:=[(.one (.c (.sl 118))),(.one (.c (.sl 118)))]
theorem aef:bz Tryz.prog aD 75 none=aee:=by kernel_rfl
def ahg:VC:=(.loop [bw] [(.li .i64 0)] (.ite (.ic .lss (.var 1) (.len (.put (.put (.put (.put (.put (.put (.put (.put (.bJ 9) (.ah (.ls ⟨#[115,116,111,110,101]⟩))) (.ah (.ls ⟨#[108,97,109,112]⟩))) (.ah (.ls ⟨#[115,104,101,108,102]⟩))) (.ah (.ls ⟨#[109,101,116,101,114]⟩))) (.ah (.ls ⟨#[100,114,97,119,101,114]⟩))) (.ah (.ls ⟨#[104,111,114,110]⟩))) (.ah (.ls ⟨#[118,97,117,108,116]⟩))) (.ah (.ls ⟨#[114,111,98,111,116]⟩))))) (.rq (.cond [] (.cw (.put (.put (.put (.put (.put (.put (.put (.put (.bJ 9) (.ah (.ls ⟨#[115,116,111,110,101]⟩))) (.ah (.ls ⟨#[108,97,109,112]⟩))) (.ah (.ls ⟨#[115,104,101,108,102]⟩))) (.ah (.ls ⟨#[109,101,116,101,114]⟩))) (.ah (.ls ⟨#[100,114,97,119,101,114]⟩))) (.ah (.ls ⟨#[104,111,114,110]⟩))) (.ah (.ls ⟨#[118,97,117,108,116]⟩))) (.ah (.ls ⟨#[114,111,98,111,116]⟩))) (.var 1))) (.ite (.sc .eql (.cell (.row [.str] (.put (.put (.put (.put (.put (.put (.put (.put (.bJ 9) (.ah (.ls ⟨#[115,116,111,110,101]⟩))) (.ah (.ls ⟨#[108,97,109,112]⟩))) (.ah (.ls ⟨#[115,104,101,108,102]⟩))) (.ah (.ls ⟨#[109,101,116,101,114]⟩))) (.ah (.ls ⟨#[100,114,97,119,101,114]⟩))) (.ah (.ls ⟨#[104,111,114,110]⟩))) (.ah (.ls ⟨#[118,97,117,108,116]⟩))) (.ah (.ls ⟨#[114,111,98,111,116]⟩))) (.var 1)) 0) (.var 0)) (.rq (.cond [] (.cw (.put (.put (.put (.put (.put (.put (.put (.put (.bJ 3) (.ah (.li .i64 0))) (.ah (.li .i64 1))) (.ah (.li .i64 2))) (.ah (.li .i64 5))) (.ah (.li .i64 3))) (.ah (.li .i64 9))) (.ah (.li .i64 19))) (.ah (.li .i64 63))) (.var 1))) (.ret (.aJ (.aJ .bP (.cell (.row [(.int .i64)] (.put (.put (.put (.put (.put (.put (.put (.put (.bJ 3) (.ah (.li .i64 0))) (.ah (.li .i64 1))) (.ah (.li .i64 2))) (.ah (.li .i64 5))) (.ah (.li .i64 3))) (.ah (.li .i64 9))) (.ah (.li .i64 19))) (.ah (.li .i64 63))) (.var 1)) 0)) (.lb true)) [])) (.again 0 [(.ar .add .i64 (.var 1) (.li .i64 1))]))) (.ret (.aJ (.aJ .bP (.li .i64 0)) (.lb false)) [])))
theorem ahh:bA Tryz.prog aD bi 80 none=ahg:=by kernel_rfl
def afp:List VT:=[eJ]
theorem afq:bz Tryz.prog aD 80 none=afp:=by kernel_rfl
def Sk:VC:=(.loop [bw] [(.li .i64 0)] (.ite (.ic .lss (.var 2) (.len (.var 0))) (.rq (.cond [] (.cw (.var 0) (.var 2))) (.ite (.sc .eql (.cell (.row [.str] (.var 0) (.var 2)) 0) (.var 1)) (.ret (.lb true) []) (.again 0 [(.ar .add .i64 (.var 2) (.li .i64 1))]))) (.ret (.lb false) [])))
theorem aho:bA Tryz.prog aD bi 84 none=Sk:=by kernel_rfl
def afC:List VT:=[(.one (.c (.sl 9))),eJ]
theorem afD:bz Tryz.prog aD 84 none=afC:=by kernel_rfl
def Sn:VC:=(.ite (.ic .lss (.var 0) (.var 1)) (.ret (.var 0) []) (.ret (.var 1) []))
theorem ahq:bA Tryz.prog aD bi 88 none=Sn:=by kernel_rfl
def afG:List VT:=[bw,bw]
theorem afH:bz Tryz.prog aD 88 none=afG:=by kernel_rfl
def Rf:VC:=(.loop [bw] [(.li .i64 0)] (.ite (.ic .lss (.var 2) (.len (.var 0))) (.rq (.cond [] (.cw (.var 0) (.var 2))) (.ite (.sc .eql (.cell (.row [.str] (.var 0) (.var 2)) 0) (.var 1)) (.ret (.lb true) []) (.again 0 [(.ar .add .i64 (.var 2) (.li .i64 1))]))) (.ret (.lb false) [])))
theorem agy:bA Tryz.prog aD bi 92 none=Rf:=by kernel_rfl
def ad6:List VT:=[(.one (.c (.sl 9))),eJ]
theorem ad7:bz Tryz.prog aD 92 none=ad6:=by kernel_rfl
def Sv:VC:=(.rq (.call [] 107 none [(.cell (.var 0) 3),(.cell (.var 1) 1)] bw []) (.ite (.an (.var 2) (.no (.cell (.var 0) 1))) (.ret (.aJ (.aJ .bP (.var 0)) (.cat (.ah (.li .i64 2)) (.cat (.ah (.li .i64 0)) (.cat (.ah (.ls ⟨#[]⟩)) (.cat (.ah (.li .i64 0)) (.cat (.ah (.li .i64 0)) .cT)))))) []) (.ite (.an (.sc .eql (.cell (.var 1) 0) (.ls ⟨#[71,101,116]⟩)) (.ic .lss (.var 3) (.li .i64 0))) (.ret (.aJ (.aJ .bP (.var 0)) (.cat (.ah (.li .i64 4)) (.cat (.ah (.li .i64 0)) (.cat (.ah (.ls ⟨#[]⟩)) (.cat (.ah (.li .i64 0)) (.cat (.ah (.li .i64 0)) .cT)))))) []) (.ite (.sc .eql (.cell (.var 1) 0) (.ls ⟨#[71,101,116]⟩)) (.rq (.cond [] (.cw (.cell (.var 0) 3) (.var 3))) (.ret (.aJ (.aJ .bP (.var 0)) (.cat (.ah (.li .i64 0)) (.cat (.ah (.cell (.row [.str,(.int .i64)] (.cell (.var 0) 3) (.var 3)) 1)) (.cat (.ah (.ls ⟨#[]⟩)) (.cat (.ah (.li .i64 0)) (.cat (.ah (.li .i64 0)) .cT)))))) [])) (.ite (.an (.ic .lss (.var 3) (.li .i64 0)) (.ic .eql (.len (.cell (.var 0) 3)) (.li .i64 4))) (.ret (.aJ (.aJ .bP (.var 0)) (.cat (.ah (.li .i64 5)) (.cat (.ah (.li .i64 0)) (.cat (.ah (.ls ⟨#[]⟩)) (.cat (.ah (.li .i64 0)) (.cat (.ah (.li .i64 0)) .cT)))))) []) (.rq (.gW 108 none [(.cell (.var 0) 3),(.cell (.var 1) 1),(.cell (.var 1) 2)] (.one (.c (.sl 118))) [] [(0,2)]) (.rq (.call [] 87 none [(.cell (.var 0) 4)] bw []) (.ret (.aJ (.aJ .bP (.cat (.ah (.cell (.var 0) 0)) (.cat (.ah (.cell (.var 0) 1)) (.cat (.ah (.cell (.var 0) 2)) (.cat (.ah (.var 4)) (.cat (.ah (.var 5)) .cT)))))) (.cat (.ah (.li .i64 0)) (.cat (.ah (.len (.var 4))) (.cat (.ah (.ls ⟨#[]⟩)) (.cat (.ah (.li .i64 0)) (.cat (.ah (.li .i64 0)) .cT)))))) []))))))))
theorem ahw:bA Tryz.prog aD bi 98 none=Sv:=by kernel_rfl
def afR:List VT:=[(.one (.agg [.str,.bool,.bool,(.sl 118),(.int .i64)])),(.one uo),dO]
theorem afS:bz Tryz.prog aD 98 none=afR:=by kernel_rfl
def QX:VC:=(.rq (.call [] 113 none [(.var 0)] eJ []) (.ret (.var 1) []))
theorem agh:bA Tryz.prog aD bi 102 none=QX:=by kernel_rfl
def QE:List VT:=[bw]
theorem adE:bz Tryz.prog aD 102 none=QE:=by kernel_rfl
def Sw:VC:=(.loop [dO,(.one (.c (.sl 118))),bw] [(.lb false),(.bJ 118),(.li .i64 0)] (.ite (.ic .lss (.var 5) (.len (.var 0))) (.rq (.cond [] (.cw (.var 0) (.var 5))) (.ite (.an (.no (.var 3)) (.sc .geq (.cell (.row [.str,(.int .i64)] (.var 0) (.var 5)) 0) (.var 1))) (.rq (.cond [] (.few (.var 4) (.put (.bJ 118) (.cat (.ah (.var 1)) (.cat (.ah (.var 2)) .cT))))) (.ite (.sc .neq (.cell (.row [.str,(.int .i64)] (.var 0) (.var 5)) 0) (.var 1)) (.rq (.cond [] (.few (.app (.var 4) (.put (.bJ 118) (.cat (.ah (.var 1)) (.cat (.ah (.var 2)) .cT)))) (.put (.bJ 118) (.row [.str,(.int .i64)] (.var 0) (.var 5))))) (.again 0 [(.lb true),(.app (.app (.var 4) (.put (.bJ 118) (.cat (.ah (.var 1)) (.cat (.ah (.var 2)) .cT)))) (.put (.bJ 118) (.row [.str,(.int .i64)] (.var 0) (.var 5)))),(.ar .add .i64 (.var 5) (.li .i64 1))])) (.again 0 [(.lb true),(.app (.var 4) (.put (.bJ 118) (.cat (.ah (.var 1)) (.cat (.ah (.var 2)) .cT)))),(.ar .add .i64 (.var 5) (.li .i64 1))]))) (.ite (.sc .neq (.cell (.row [.str,(.int .i64)] (.var 0) (.var 5)) 0) (.var 1)) (.rq (.cond [] (.few (.var 4) (.put (.bJ 118) (.row [.str,(.int .i64)] (.var 0) (.var 5))))) (.again 0 [(.var 3),(.app (.var 4) (.put (.bJ 118) (.row [.str,(.int .i64)] (.var 0) (.var 5)))),(.ar .add .i64 (.var 5) (.li .i64 1))])) (.again 0 [(.var 3),(.var 4),(.ar .add .i64 (.var 5) (.li .i64 1))])))) (.ite (.no (.var 3)) (.rq (.cond [] (.few (.var 4) (.put (.bJ 118) (.cat (.ah (.var 1)) (.cat (.ah (.var 2)) .cT))))) (.ret (.app (.var 4) (.put (.bJ 118) (.cat (.ah (.var 1)) (.cat (.ah (.var 2)) .cT)))) [])) (.ret (.var 4) []))))
theorem ahx:bA Tryz.prog aD bi 108 none=Sw:=by kernel_rfl
def afT:List VT:=[(.one (.c (.sl 118))),eJ,bw]
theorem afU:bz Tryz.prog aD 108 none=afT:=by kernel_rfl
theorem aca:bi.get 108=[(0,2)]:=by kernel_rfl
def Sh:VC:=(.loop [bw,bw] [(.li .i64 0),(.li .i64 0)] (.ite (.an (.ic .lss (.var 2) (.len (.var 0))) (.ic .lss (.var 2) (.li .i64 4))) (.rq (.cond [] (.cw (.var 0) (.var 2))) (.again 0 [(.ar .sub .i64 (.ar .add .i64 (.ar .mul .i64 (.li .i64 10) (.var 1)) (.conv .i64 (.at (.var 0) (.var 2)))) (.li .i64 48)),(.ar .add .i64 (.var 2) (.li .i64 1))])) (.rq (.call [((.or (.or (.ic .eql (.len (.var 0)) (.li .i64 0)) (.ic .lss (.var 1) (.li .i64 0))) (.ic .gtr (.var 1) (.li .i64 999))),false)] 109 none [(.var 1)] eJ []) (.ite (.or (.or (.or (.ic .eql (.len (.var 0)) (.li .i64 0)) (.ic .lss (.var 1) (.li .i64 0))) (.ic .gtr (.var 1) (.li .i64 999))) (.sc .neq (.var 3) (.var 0))) (.ret (.aJ (.aJ .bP (.li .i64 0)) (.lb false)) []) (.ret (.aJ (.aJ .bP (.var 1)) (.lb true)) [])))))
theorem ahl:bA Tryz.prog aD bi 112 none=Sh:=by kernel_rfl
def QN:List VT:=[eJ]
theorem afx:bz Tryz.prog aD 112 none=QN:=by kernel_rfl
end
section
open Go
set_option maxRecDepth 1000000
def aec:List VT:=[(.one (.agg [.str,.bool,.bool,(.sl 110),(.int .i64),(.sl 83)])),(.one uo)]
def RO:VC:=(.rq (.gW 33 none [(.sub (.var 0) 0 5)] (.one (.agg [.str,.bool,.bool,(.sl 118),(.int .i64)])) [] [(3,2)]) (.rq (.gW 34 none [(.cell (.var 0) 5)] (.one (.c (.sl 86))) [] [(0,2)]) (.ret (.cat (.ah (.cell (.var 1) 0)) (.cat (.ah (.cell (.var 1) 1)) (.cat (.ah (.cell (.var 1) 2)) (.cat (.ah (.cell (.var 1) 3)) (.cat (.ah (.cell (.var 1) 4)) (.cat (.ah (.var 2)) .cT)))))) [])))
theorem ag3:bA Tryz.prog aD bi 8 none=RO:=by kernel_rfl
def ae1:List VT:=[(.one (.agg [.str,.bool,.bool,(.sl 110),(.int .i64),(.sl 83)]))]
theorem ae2:bz Tryz.prog aD 8 none=ae1:=by kernel_rfl
theorem ab3:bi.get 8=[(3,2),(5,2)]:=by kernel_rfl
def R4:VC:=(.rq (.call [] 53 none [(.sub (.var 0) 0 5)] dO []) (.ite (.or (.no (.var 1)) (.ic .gtr (.len (.cell (.var 0) 5)) (.li .i64 3))) (.ret (.lb false) []) (.loop [bw] [(.li .i64 0)] (.ite (.ic .lss (.var 2) (.len (.cell (.var 0) 5))) (.rq (.cond [] (.cw (.cell (.var 0) 5) (.var 2))) (.rq (.call [] 54 none [(.cell (.row [.str,(.int .i64)] (.cell (.var 0) 5) (.var 2)) 0)] (.aE [(.c (.int .i64)),(.c .bool)]) []) (.rq (.call [((.no (.proj (.var 3) 1)),false)] 55 none [(.var 0),(.var 2)] bw []) (.rq (.call [((.no (.proj (.var 3) 1)),false)] 29 none [(.var 4),(.proj (.var 3) 0)] dO []) (.ite (.or (.or (.or (.or (.no (.proj (.var 3) 1)) (.no (.var 5))) (.ic .lss (.cell (.row [.str,(.int .i64)] (.cell (.var 0) 5) (.var 2)) 1) (.li .i64 0))) (.ic .gtr (.cell (.row [.str,(.int .i64)] (.cell (.var 0) 5) (.var 2)) 1) (.li .i64 999))) (.an (.ic .gtr (.cell (.row [.str,(.int .i64)] (.cell (.var 0) 5) (.var 2)) 1) (.li .i64 0)) (.no (.or (.sc .eql (.cell (.row [.str,(.int .i64)] (.cell (.var 0) 5) (.var 2)) 0) (.ls ⟨#[99,111,117,110,116,115]⟩)) (.sc .eql (.cell (.row [.str,(.int .i64)] (.cell (.var 0) 5) (.var 2)) 0) (.ls ⟨#[104,101,97,114,115]⟩)))))) (.ret (.lb false) []) (.again 0 [(.ar .add .i64 (.var 2) (.li .i64 1))])))))) (.ret (.lb true) [])))))
theorem ahe:bA Tryz.prog aD bi 27 none=R4:=by kernel_rfl
def afl:List VT:=[(.one (.agg [.str,.bool,.bool,(.sl 118),(.int .i64),(.sl 86)]))]
theorem afm:bz Tryz.prog aD 27 none=afl:=by kernel_rfl
def Sj:VC:=(.rq (.call [] 59 none [(.var 0)] bw []) (.ite (.ic .lss (.var 1) (.li .i64 0)) (.ret (.li .i64 0) []) (.rq (.cond [] (.ic .geq (.var 1) (.li .i64 0))) (.ret (.ar .shl .i64 (.li .i64 1) (.var 1)) []))))
theorem ahn:bA Tryz.prog aD bi 31 none=Sj:=by kernel_rfl
def afA:List VT:=[eJ]
theorem afB:bz Tryz.prog aD 31 none=afA:=by kernel_rfl
def Rc:VC:=(.rq (.gW 64 none [(.sub (.var 0) 0 5)] (.one (.agg [.str,.bool,.bool,(.sl 118),(.int .i64)])) [] [(3,2)]) (.rq (.cond [] (.few (.bJ 86) (.cell (.var 0) 5))) (.ret (.cat (.ah (.cell (.var 1) 0)) (.cat (.ah (.cell (.var 1) 1)) (.cat (.ah (.cell (.var 1) 2)) (.cat (.ah (.cell (.var 1) 3)) (.cat (.ah (.cell (.var 1) 4)) (.cat (.ah (.app (.bJ 86) (.cell (.var 0) 5))) .cT)))))) [])))
theorem agw:bA Tryz.prog aD bi 35 none=Rc:=by kernel_rfl
def ad1:List VT:=[(.one (.agg [.str,.bool,.bool,(.sl 118),(.int .i64),(.sl 86)]))]
theorem ad3:bz Tryz.prog aD 35 none=ad1:=by kernel_rfl
theorem abZ:bi.get 35=[(3,2),(5,2)]:=by kernel_rfl
def Ra:VC:=(.rq (.call [] 69 none [(.var 0)] bw []) (.ite (.ic .lss (.var 1) (.li .i64 0)) (.ret (.li .i64 0) []) (.rq (.cond [] (.ic .geq (.var 1) (.li .i64 0))) (.ret (.ar .shl .i64 (.li .i64 1) (.var 1)) []))))
theorem agu:bA Tryz.prog aD bi 39 none=Ra:=by kernel_rfl
def adX:List VT:=[eJ]
theorem adY:bz Tryz.prog aD 39 none=adX:=by kernel_rfl
def Ry:VC:=(.ite (.ic .leq (.var 0) (.li .i64 0)) (.ret (.ls ⟨#[109,48]⟩) []) (.loop [eJ,bw] [(.ls ⟨#[]⟩),(.var 0)] (.ite (.ic .gtr (.var 2) (.li .i64 0)) (.rq (.cond [] (.ic .neq (.li .i64 10) (.li .i64 0))) (.rq (.cond [] (.kJ (.pS (.put (.bJ 5) (.ah (.conv .u8 (.ar .add .i64 (.li .i64 48) (.ar .rem .i64 (.var 2) (.li .i64 10))))))) (.var 1))) (.rq (.cond [] (.ic .neq (.li .i64 10) (.li .i64 0))) (.again 0 [(.iK (.pS (.put (.bJ 5) (.ah (.conv .u8 (.ar .add .i64 (.li .i64 48) (.ar .rem .i64 (.var 2) (.li .i64 10))))))) (.var 1)),(.ar .quo .i64 (.var 2) (.li .i64 10))])))) (.rq (.cond [] (.kJ (.ls ⟨#[109]⟩) (.var 1))) (.ret (.iK (.ls ⟨#[109]⟩) (.var 1)) [])))))
theorem agN:bA Tryz.prog aD bi 49 none=Ry:=by kernel_rfl
def aez:List VT:=[bw]
theorem aeA:bz Tryz.prog aD 49 none=aez:=by kernel_rfl
def RY:VC:=(.rq (.call [] 80 none [(.cell (.var 0) 0)] (.aE [(.c (.int .i64)),(.c .bool)]) []) (.rq (.call [] 58 none [(.proj (.var 1) 0),(.li .i64 0)] dO []) (.rq (.call [((.no (.proj (.var 1) 1)),false)] 81 none [(.cell (.var 0) 3)] dO []) (.rq (.call [((.or (.no (.proj (.var 1) 1)) (.no (.var 3))),false),((.ic .gtr (.len (.cell (.var 0) 3)) (.li .i64 0)),true)] 58 none [(.proj (.var 1) 0),(.li .i64 1)] dO []) (.ite (.or (.or (.or (.or (.no (.proj (.var 1) 1)) (.no (.var 3))) (.an (.ic .gtr (.len (.cell (.var 0) 3)) (.li .i64 0)) (.no (.var 4)))) (.ic .lss (.cell (.var 0) 4) (.li .i64 0))) (.ic .gtr (.cell (.var 0) 4) (.li .i64 999))) (.ret (.lb false) []) (.ret (.an (.or (.var 2) (.an (.no (.cell (.var 0) 1)) (.no (.cell (.var 0) 2)))) (.no (.an (.cell (.var 0) 1) (.cell (.var 0) 2)))) []))))))
theorem ahb:bA Tryz.prog aD bi 53 none=RY:=by kernel_rfl
def afg:List VT:=[(.one (.agg [.str,.bool,.bool,(.sl 118),(.int .i64)]))]
theorem afh:bz Tryz.prog aD 53 none=afg:=by kernel_rfl
def R0:VC:=(.ret (.an (.ic .geq (.var 0) (.li .i64 0)) (.ic .leq (.var 0) (.li .i64 63))) [])
theorem ahc:bA Tryz.prog aD bi 57 none=R0:=by kernel_rfl
def QM:List VT:=[bw]
theorem afi:bz Tryz.prog aD 57 none=QM:=by kernel_rfl
def RJ:VC:=(.rq (.cond [] (.an (.ic .leq (.li .i64 0) (.len (.var 0))) (.ic .leq (.len (.var 0)) (.li .i64 4294967296)))) (.loop [bw,(.one (.c (.sl 118)))] [(.li .i64 0),(.rep 118 [.str,(.int .i64)] (.len (.var 0)))] (.ite (.ic .lss (.var 1) (.len (.var 0))) (.rq (.cond [] (.cw (.var 0) (.var 1))) (.rq (.call [] 89 none [(.row [.str,(.int .i64)] (.var 0) (.var 1))] (.one (.agg [.str,(.int .i64)])) []) (.rq (.cond [] (.cw (.mem (.len (.var 0))) (.var 1))) (.again 0 [(.ar .add .i64 (.var 1) (.li .i64 1)),(.aX (.var 2) (.var 1) (.var 3) 0)])))) (.ret (.var 2) []))))
theorem agW:bA Tryz.prog aD bi 62 none=RJ:=by kernel_rfl
def aeS:List VT:=[(.one (.c (.sl 110)))]
theorem aeT:bz Tryz.prog aD 62 none=aeS:=by kernel_rfl
theorem ab0:bi.get 62=[(0,2)]:=by kernel_rfl
def Rg:VC:=(.ite (.sc .eql (.var 0) (.ls ⟨#[112,108,97,105,110]⟩)) (.ret (.aJ (.aJ (.aJ .bP (.li .i64 0)) (.li .i64 0)) (.lb true)) []) (.ite (.sc .eql (.var 0) (.ls ⟨#[114,117,110,115]⟩)) (.ret (.aJ (.aJ (.aJ .bP (.li .i64 1)) (.li .i64 1)) (.lb true)) []) (.ite (.sc .eql (.var 0) (.ls ⟨#[107,101,101,112,115]⟩)) (.ite (.sc .eql (.var 0) (.ls ⟨#[107,101,101,112,115]⟩)) (.ret (.aJ (.aJ (.aJ .bP (.li .i64 2)) (.li .i64 2)) (.lb true)) []) (.ite (.sc .eql (.var 0) (.ls ⟨#[99,111,117,110,116,115]⟩)) (.ret (.aJ (.aJ (.aJ .bP (.li .i64 2)) (.li .i64 6)) (.lb true)) []) (.ite (.sc .eql (.var 0) (.ls ⟨#[108,97,122,121]⟩)) (.ret (.aJ (.aJ (.aJ .bP (.li .i64 3)) (.li .i64 3)) (.lb true)) []) (.ite (.sc .eql (.var 0) (.ls ⟨#[104,101,97,114,115]⟩)) (.ret (.aJ (.aJ (.aJ .bP (.li .i64 1)) (.li .i64 9)) (.lb true)) []) (.ite (.sc .eql (.var 0) (.ls ⟨#[104,101,97,108,115]⟩)) (.ret (.aJ (.aJ (.aJ .bP (.li .i64 1)) (.li .i64 33)) (.lb true)) []) (.ite (.sc .eql (.var 0) (.ls ⟨#[116,119,105,99,101]⟩)) (.ret (.aJ (.aJ (.aJ .bP (.li .i64 4)) (.li .i64 4)) (.lb true)) []) (.ret (.aJ (.aJ (.aJ .bP (.li .i64 0)) (.li .i64 0)) (.lb false)) []))))))) (.ite (.sc .eql (.var 0) (.ls ⟨#[114,101,97,100,115]⟩)) (.ret (.aJ (.aJ (.aJ .bP (.li .i64 2)) (.li .i64 2)) (.lb true)) []) (.ite (.sc .eql (.var 0) (.ls ⟨#[99,111,117,110,116,115]⟩)) (.ret (.aJ (.aJ (.aJ .bP (.li .i64 2)) (.li .i64 6)) (.lb true)) []) (.ite (.sc .eql (.var 0) (.ls ⟨#[108,97,122,121]⟩)) (.ret (.aJ (.aJ (.aJ .bP (.li .i64 3)) (.li .i64 3)) (.lb true)) []) (.ite (.sc .eql (.var 0) (.ls ⟨#[104,101,97,114,115]⟩)) (.ret (.aJ (.aJ (.aJ .bP (.li .i64 1)) (.li .i64 9)) (.lb true)) []) (.ite (.sc .eql (.var 0) (.ls ⟨#[104,101,97,108,115]⟩)) (.ret (.aJ (.aJ (.aJ .bP (.li .i64 1)) (.li .i64 33)) (.lb true)) []) (.ite (.sc .eql (.var 0) (.ls ⟨#[116,119,105,99,101]⟩)) (.ret (.aJ (.aJ (.aJ .bP (.li .i64 4)) (.li .i64 4)) (.lb true)) []) (.ret (.aJ (.aJ (.aJ .bP (.li .i64 0)) (.li .i64 0)) (.lb false)) []))))))))))
theorem agB:bA Tryz.prog aD bi 66 none=Rg:=by kernel_rfl
def aea:List VT:=[eJ]
theorem aeb:bz Tryz.prog aD 66 none=aea:=by kernel_rfl
def Q2:VC:=(.rq (.cond [((.or (.ic .lss (.len (.var 0)) (.li .i64 1)) (.ic .gtr (.len (.var 0)) (.li .i64 8))),false)] (.cw (.var 0) (.li .i64 0))) (.rq (.cond [((.or (.or (.ic .lss (.len (.var 0)) (.li .i64 1)) (.ic .gtr (.len (.var 0)) (.li .i64 8))) (.ic .lss (.at (.var 0) (.li .i64 0)) (.li .u8 97))),false)] (.cw (.var 0) (.li .i64 0))) (.ite (.or (.or (.or (.ic .lss (.len (.var 0)) (.li .i64 1)) (.ic .gtr (.len (.var 0)) (.li .i64 8))) (.ic .lss (.at (.var 0) (.li .i64 0)) (.li .u8 97))) (.ic .gtr (.at (.var 0) (.li .i64 0)) (.li .u8 122))) (.ret (.lb false) []) (.loop [bw] [(.li .i64 0)] (.ite (.ic .lss (.var 1) (.len (.var 0))) (.rq (.cond [] (.cw (.var 0) (.var 1))) (.rq (.cond [((.ic .lss (.at (.var 0) (.var 1)) (.li .u8 97)),false)] (.cw (.var 0) (.var 1))) (.rq (.cond [((.or (.ic .lss (.at (.var 0) (.var 1)) (.li .u8 97)) (.ic .gtr (.at (.var 0) (.var 1)) (.li .u8 122))),true)] (.cw (.var 0) (.var 1))) (.rq (.cond [((.or (.ic .lss (.at (.var 0) (.var 1)) (.li .u8 97)) (.ic .gtr (.at (.var 0) (.var 1)) (.li .u8 122))),true),((.ic .lss (.at (.var 0) (.var 1)) (.li .u8 48)),false)] (.cw (.var 0) (.var 1))) (.ite (.an (.or (.ic .lss (.at (.var 0) (.var 1)) (.li .u8 97)) (.ic .gtr (.at (.var 0) (.var 1)) (.li .u8 122))) (.or (.ic .lss (.at (.var 0) (.var 1)) (.li .u8 48)) (.ic .gtr (.at (.var 0) (.var 1)) (.li .u8 57)))) (.ret (.lb false) []) (.again 0 [(.ar .add .i64 (.var 1) (.li .i64 1))])))))) (.ret (.lb true) []))))))
theorem agm:bA Tryz.prog aD bi 70 none=Q2:=by kernel_rfl
def adM:List VT:=[eJ]
theorem adN:bz Tryz.prog aD 70 none=adM:=by kernel_rfl
def Rm:VC:=(.ite (.sc .neq (.cell (.var 0) 0) (.cell (.var 1) 0)) (.ret (.lb false) []) (.ite (.ic .neq (.cell (.var 0) 1) (.cell (.var 1) 1)) (.ret (.lb false) []) (.ret (.lb true) [])))
theorem agG:bA Tryz.prog aD bi 76 none=Rm:=by kernel_rfl
def aej:List VT:=[(.one (.agg [.str,(.int .i64)])),(.one (.agg [.str,(.int .i64)]))]
theorem aem:bz Tryz.prog aD 76 none=aej:=by kernel_rfl
def RX:VC:=(.loop [bw] [(.li .i64 0)] (.ite (.ic .lss (.var 1) (.len (.var 0))) (.rq (.cond [] (.cw (.var 0) (.var 1))) (.rq (.call [] 56 none [(.cell (.row [.str,(.int .i64)] (.var 0) (.var 1)) 0)] dO []) (.rq (.cond [((.or (.or (.no (.var 2)) (.ic .lss (.cell (.row [.str,(.int .i64)] (.var 0) (.var 1)) 1) (.li .i64 0))) (.ic .gtr (.cell (.row [.str,(.int .i64)] (.var 0) (.var 1)) 1) (.li .i64 999))),false),((.ic .gtr (.var 1) (.li .i64 0)),true)] (.cw (.var 0) (.ar .sub .i64 (.var 1) (.li .i64 1)))) (.ite (.or (.or (.or (.no (.var 2)) (.ic .lss (.cell (.row [.str,(.int .i64)] (.var 0) (.var 1)) 1) (.li .i64 0))) (.ic .gtr (.cell (.row [.str,(.int .i64)] (.var 0) (.var 1)) 1) (.li .i64 999))) (.an (.ic .gtr (.var 1) (.li .i64 0)) (.sc .geq (.cell (.row [.str,(.int .i64)] (.var 0) (.ar .sub .i64 (.var 1) (.li .i64 1))) 0) (.cell (.row [.str,(.int .i64)] (.var 0) (.var 1)) 0)))) (.ret (.lb false) []) (.again 0 [(.ar .add .i64 (.var 1) (.li .i64 1))]))))) (.ret (.ic .leq (.len (.var 0)) (.li .i64 4)) [])))
theorem aha:bA Tryz.prog aD bi 81 none=RX:=by kernel_rfl
def afe:List VT:=[(.one (.c (.sl 118)))]
theorem aff:bz Tryz.prog aD 81 none=afe:=by kernel_rfl
def Sq:VC:=(.ite (.ic .eql (.var 0) (.li .i64 0)) (.ret (.put (.put (.bJ 9) (.ah (.ls ⟨#[83,116,97,114,116]⟩))) (.ah (.ls ⟨#[83,116,111,112]⟩))) []) (.ite (.ic .eql (.var 0) (.li .i64 1)) (.ret (.put (.put (.bJ 9) (.ah (.ls ⟨#[71,101,116]⟩))) (.ah (.ls ⟨#[80,117,116]⟩))) []) (.ite (.ic .eql (.var 0) (.li .i64 2)) (.ret (.put (.bJ 9) (.ah (.ls ⟨#[84,101,108,108]⟩))) []) (.ite (.ic .eql (.var 0) (.li .i64 3)) (.ret (.put (.bJ 9) (.ah (.ls ⟨#[72,101,97,114]⟩))) []) (.ite (.ic .eql (.var 0) (.li .i64 4)) (.ret (.put (.put (.bJ 9) (.ah (.ls ⟨#[76,111,97,100]⟩))) (.ah (.ls ⟨#[83,97,118,101]⟩))) []) (.ite (.ic .eql (.var 0) (.li .i64 5)) (.ret (.put (.bJ 9) (.ah (.ls ⟨#[72,101,97,108]⟩))) []) (.ret (.bJ 9) [])))))))
theorem ahs:bA Tryz.prog aD bi 85 none=Sq:=by kernel_rfl
def afJ:List VT:=[bw]
theorem afK:bz Tryz.prog aD 85 none=afJ:=by kernel_rfl
theorem ab8:bi.get 85=[(0,1)]:=by kernel_rfl
def RI:VC:=(.ret (.var 0) [])
theorem agX:bA Tryz.prog aD bi 89 none=RI:=by kernel_rfl
def aeR:List VT:=[(.one (.agg [.str,(.int .i64)]))]
theorem aeU:bz Tryz.prog aD 89 none=aeR:=by kernel_rfl
def QW:VC:=(.rq (.call [] 91 none [(.var 0)] dO []) (.ite (.no (.var 1)) (.ret (.ls ⟨#[]⟩) []) (.ite (.ic .eql (.len (.var 0)) (.li .i64 0)) (.ret (.ls ⟨#[45]⟩) []) (.loop [(.one (.c (.sl 9))),bw] [(.bJ 9),(.li .i64 0)] (.ite (.ic .lss (.var 3) (.len (.var 0))) (.rq (.cond [] (.cw (.var 0) (.var 3))) (.rq (.cond [] (.kJ (.cell (.row [.str,(.int .i64)] (.var 0) (.var 3)) 0) (.ls ⟨#[61]⟩))) (.rq (.call [] 102 none [(.cell (.row [.str,(.int .i64)] (.var 0) (.var 3)) 1)] eJ []) (.rq (.cond [] (.kJ (.iK (.cell (.row [.str,(.int .i64)] (.var 0) (.var 3)) 0) (.ls ⟨#[61]⟩)) (.var 4))) (.rq (.cond [] (.few (.var 2) (.put (.bJ 9) (.ah (.iK (.iK (.cell (.row [.str,(.int .i64)] (.var 0) (.var 3)) 0) (.ls ⟨#[61]⟩)) (.var 4)))))) (.again 0 [(.app (.var 2) (.put (.bJ 9) (.ah (.iK (.iK (.cell (.row [.str,(.int .i64)] (.var 0) (.var 3)) 0) (.ls ⟨#[61]⟩)) (.var 4))))),(.ar .add .i64 (.var 3) (.li .i64 1))])))))) (.rq (.call [] 103 none [(.var 2),(.ls ⟨#[44]⟩)] eJ []) (.ret (.var 4) [])))))))
theorem agf:bA Tryz.prog aD bi 95 none=QW:=by kernel_rfl
def adC:List VT:=[(.one (.c (.sl 118)))]
theorem adD:bz Tryz.prog aD 95 none=adC:=by kernel_rfl
def RU:VC:=(.rq (.call [] 81 none [(.var 0)] dO []) (.ite (.no (.var 1)) (.ret (.ls ⟨#[]⟩) []) (.loop [(.one (.c (.sl 9))),bw] [(.bJ 9),(.li .i64 0)] (.ite (.ic .lss (.var 3) (.len (.var 0))) (.rq (.cond [] (.cw (.var 0) (.var 3))) (.rq (.cond [] (.kJ (.cell (.row [.str,(.int .i64)] (.var 0) (.var 3)) 0) (.ls ⟨#[61]⟩))) (.rq (.call [] 109 none [(.cell (.row [.str,(.int .i64)] (.var 0) (.var 3)) 1)] eJ []) (.rq (.cond [] (.kJ (.iK (.cell (.row [.str,(.int .i64)] (.var 0) (.var 3)) 0) (.ls ⟨#[61]⟩)) (.var 4))) (.rq (.cond [] (.few (.var 2) (.put (.bJ 9) (.ah (.iK (.iK (.cell (.row [.str,(.int .i64)] (.var 0) (.var 3)) 0) (.ls ⟨#[61]⟩)) (.var 4)))))) (.again 0 [(.app (.var 2) (.put (.bJ 9) (.ah (.iK (.iK (.cell (.row [.str,(.int .i64)] (.var 0) (.var 3)) 0) (.ls ⟨#[61]⟩)) (.var 4))))),(.ar .add .i64 (.var 3) (.li .i64 1))])))))) (.ite (.ic .eql (.len (.var 2)) (.li .i64 0)) (.ret (.ls ⟨#[45]⟩) []) (.rq (.call [] 110 none [(.var 2),(.ls ⟨#[44]⟩)] eJ []) (.ret (.var 4) [])))))))
theorem ag7:bA Tryz.prog aD bi 99 none=RU:=by kernel_rfl
def ae9:List VT:=[(.one (.c (.sl 118)))]
theorem afa:bz Tryz.prog aD 99 none=ae9:=by kernel_rfl
def Q4:VC:=(.rq (.call [] 114 none [(.var 0),(.var 1)] eJ []) (.ret (.var 2) []))
theorem agp:bA Tryz.prog aD bi 103 none=Q4:=by kernel_rfl
def adQ:List VT:=[(.one (.c (.sl 9))),eJ]
theorem adR:bz Tryz.prog aD 103 none=adQ:=by kernel_rfl
def RV:VC:=(.ite (.ic .eql (.var 0) (.li .i64 (-9223372036854775808))) (.ret (.ls ⟨#[45,57,50,50,51,51,55,50,48,51,54,56,53,52,55,55,53,56,48,56]⟩) []) (.ite (.ic .lss (.var 0) (.li .i64 0)) (.rq (.call [] 109 none [(.ar .sub .i64 (.li .i64 0) (.var 0))] eJ []) (.rq (.cond [] (.kJ (.ls ⟨#[45]⟩) (.var 1))) (.ret (.iK (.ls ⟨#[45]⟩) (.var 1)) []))) (.rq (.cond [] (.ic .neq (.li .i64 10) (.li .i64 0))) (.ite (.ic .gtr (.var 0) (.li .i64 9)) (.rq (.cond [] (.ic .neq (.li .i64 10) (.li .i64 0))) (.rq (.call [] 109 none [(.ar .quo .i64 (.var 0) (.li .i64 10))] eJ []) (.rq (.cond [] (.kJ (.var 1) (.pS (.put (.bJ 5) (.ah (.conv .u8 (.ar .add .i64 (.li .i64 48) (.ar .rem .i64 (.var 0) (.li .i64 10))))))))) (.ret (.iK (.var 1) (.pS (.put (.bJ 5) (.ah (.conv .u8 (.ar .add .i64 (.li .i64 48) (.ar .rem .i64 (.var 0) (.li .i64 10)))))))) [])))) (.ret (.pS (.put (.bJ 5) (.ah (.conv .u8 (.ar .add .i64 (.li .i64 48) (.ar .rem .i64 (.var 0) (.li .i64 10))))))) [])))))
theorem ag8:bA Tryz.prog aD bi 109 none=RV:=by kernel_rfl
def QL:List VT:=[bw]
theorem afb:bz Tryz.prog aD 109 none=QL:=by kernel_rfl
end
end Go.Proofs.YtimickglpboilaaGreatDoor
