/- A function's contract out of the condition that is left. No program in sight. -/
import Derived.Test.YtimickglpboilaaGreatDoorG8
import Derived.Test.YtimickglpboilaaGreatDoorG7
set_option linter.unusedVariables false
set_option linter.unusedSimpArgs false
set_option linter.unusedSectionVars false
namespace Go.Proofs.YtimickglpboilaaGreatDoor
section
open Go.RowKit
variable [GC]
theorem rV: ∀(Γ:List VT) (k j l:Nat),(nR k j Γ).get l=if l%3=0/\k<=l/3/\l/3<k+Γ.length then .v [] .d (.var (j+(l/3-k))) else .un
 | [],k,j,l=>by rw [if_neg (fun ⟨_,h1,h2⟩=>by simp only [List.length_nil] at h2;omega)];rfl
 | v::r,k,j,l=>by
  simp only [nR,Sg.get]
  cases e:Nat.beq (3*k) l with
  | true =>
   have:3*k=l:=Nat.eq_of_beq_eq_true e
   subst this
   rw [if_pos ⟨by omega,by omega,by simp only [List.length_cons];omega⟩]
   simp only [cond_true]
   rw [show 3*k/3-k=0 by omega];rfl
  | false =>
   have hne:3*k≠l:=fun h=>by rw [h] at e;simp at e
   simp only [cond_false]
   rw [rV r (k+1) (j+1) l]
   by_cases h:l%3=0/\k+1<=l/3/\l/3<k+1+r.length
   ·rw [if_pos h,if_pos (by simp only [List.length_cons];omega),show j+1+(l/3-(k+1))=j+(l/3-k) by omega]
   ·rw [if_neg h,if_neg (by simp only [List.length_cons];omega)]
theorem QH{env:List D}: ∀(es:List E) (acc:E) (l:List D),acc.den env= .aC l->(BO es acc).den env= .aC (l++es.map (·.den env))
 | [],acc,l,h=>by simpa [BO] using h
 | e::r,acc,l,h=>by
  simp only [BO]
  rw [QH r (.aI acc e) (l++[e.den env]) (by simp [E.den,h])]
  simp
section
variable {P:Program}{tb:TB}{c0:SC}{env:List D}{s:SS}{a:Act}{w:World}
theorem tK{σ:Nat->ST}{l:Nat}{cs:List (K×E)}:ib σ l= .box cs↔σ l= .box cs:=by
 unfold ib
 cases σ l<;>simp
theorem ve{σ:Nat->ST}{l:Nat}{m:LV}(h:ib σ l= .live m): ∃m',σ l= .live m'/\m=⟨m'.n,none⟩:=by
 unfold ib at h
 cases hσ:σ l with
 | live m'=>rw [hσ] at h;simp at h;exact ⟨m',rfl,h.symm⟩
 | _=>rw [hσ] at h;cases h
theorem FW{c:SC}{σ:Nat->ST}{bm:Nat->Nat}{tm:Nat->Value}{p:Addr}(h:MM c.M0 bm tm (ib σ) p):MM c.M0 bm tm σ p:=by
 rcases h with h|⟨id,cs,h1,h2⟩|⟨g,m,h1,h2⟩
 ·exact .inl h
 ·exact .inr (.inl ⟨id,cs,tK.1 h1,h2⟩)
 ·obtain ⟨m',h3,rfl⟩:=ve h1
  exact .inr (.inr ⟨g,m',h3,wg (y7 h2)⟩)
theorem aL.freeze{c:SC}{F:Nat->Prop}{σ:Nat->ST}{bm:Nat->Nat}{tm:Nat->Value}{a:Act}{w:World}(hs:aL c F σ bm tm a w):aL c F (ib σ) bm tm a w:=by
 have hk:bb w (MM c.M0 bm tm σ) w (MM c.M0 bm tm (ib σ)):=fun p v hp hn=>⟨hp,fun h=>hn (FW h)⟩
 refine ⟨hs.fr,hs.hB,hs.m0,fun t=> ?_,fun id cs h=> ?_,fun g m h=> ?_,fun id id' cs cs' h h'=>hs.kp id id' cs cs' (tK.1 h) (tK.1 h'),fun id cs g m b h hg hb=> ?_,fun g m g' m' b b' hg hg' hne hb hb'=> ?_,fun l g h=> ?_,fun id cs h=>hs.f2 id cs (tK.1 h),fun g m h=> ?_,hs.size,hs.defers,hs.x0⟩
 ·have:=hs.tmps t
  unfold ib
  cases hσ:σ (3*t)<;>rw [hσ] at this<;>exact this.keep hk (fun _ _=>⟨rfl,rfl⟩)
 ·exact (hs.box id cs (tK.1 h)).keep hk rfl rfl fun _ _=>rfl
 ·obtain ⟨m',h3,rfl⟩:=ve h
  exact ⟨(hs.live g m' h3).sp,(fun e dp he=>by cases he),(fun e gv ms he=>by cases he)⟩
 ·obtain ⟨m',h3,rfl⟩:=ve hg
  exact hs.iz id cs g m' b (tK.1 h) h3 (.inl (oO hb))
 ·obtain ⟨m1,h3,rfl⟩:=ve hg
  obtain ⟨m2,h4,rfl⟩:=ve hg'
  exact hs.iA g m1 g' m2 b b' h3 h4 hne (.inl (oO hb)) (.inl (oO hb'))
 ·unfold ib at h
  cases hσ:σ l with
  | live m=>rw [hσ] at h;obtain ⟨_,_,h⟩:=h;cases h
  | _=>rw [hσ] at h;exact hs.f1 l g (by rw [hσ];exact h)
 ·obtain ⟨m',h3,rfl⟩:=ve h
  exact hs.f3 g m' h3
theorem L3{c:SC}{F:Nat->Prop}{σ:Nat->ST}{bm:Nat->Nat}{tm:Nat->Value}{a:Act}{w:World}(hs:aL c F σ bm tm a w){g:Nat}{m:LV}(hσ:σ (3*g+2)= .live m){p:Addr}(hb:cR tm g m p.block)(hsp: ¬wI (tm g) m.n p): ¬MM c.M0 bm tm (ib σ) p:=by
 rintro (hm|⟨id,cs,q1,q2⟩|⟨g',m',q1,q2⟩)
 ·have h1:=hs.m0.1 _ hm
  have h2:=((hs.live g _ hσ).gj hb).2
  omega
 ·exact hs.iz id cs g _ _ (tK.1 q1) hσ hb q2.symm
 ·obtain ⟨m2,q3,rfl⟩:=ve q1
  by_cases e:g'=g
  ·subst e
   rw [hσ] at q3;simp only [ST.live.injEq] at q3;subst q3
   exact hsp (y7 q2)
  ·obtain ⟨o2,s2,l2,c2,z1,z2⟩:=zl (y7 q2)
   exact hs.iA g' m2 g _ _ _ q3 hσ e (.inl ⟨o2,s2,l2,c2,z1,z2⟩) hb rfl
theorem J5{c:SC}{F:Nat->Prop}{σ:Nat->ST}{bm:Nat->Nat}{tm:Nat->Value}{a:Act}{w:World}(hs:aL c F σ bm tm a w){g:Nat}{b:E}(h:zN σ g=some b):R w (MM c.M0 bm tm (ib σ)) (b.den c.env) (tm g):=by
 unfold zN at h
 split at h
 ·rename_i n b' dp hσ
  simp only [Option.some.injEq] at h;subst h
  have hl:=hs.live g _ hσ
  obtain ⟨ad,len,cap,rows,h1,h2,h3,h4,h5,h6,h7,h8⟩:=hl.bd b' dp rfl
  rw [h1,h2]
  refine ⟨ad,len,cap,rfl,h3,h4,h5,h6,fun b' o s ha=>⟨(h8 b' o s ha).1,dr.of (n:=n) h7 fun i r hi=>Rw.of fun j d hj=> ?_⟩⟩
  obtain ⟨u,hu,hq⟩:=(h8 b' o s ha).2 i r hi j d hj
  have hlt:=(List.getElem?_eq_some_iff.1 hi).1
  have YR:r.length=n:=h7 r (List.mem_of_getElem? hi)
  have hjn:j<n:=by rw [<-YR];exact (List.getElem?_eq_some_iff.1 hj).1
  have vP:tm g= .slice (some ⟨b',o,s⟩) len cap:=by rw [h1,ha]
  refine ⟨u,hu,L3 hs hσ (.inl ⟨o,s,len,cap,vP,by omega⟩) fun hsp=> ?_,?_⟩
  ·obtain ⟨b2,o2,s2,l2,c2,z1,z2,z3,z4⟩:=hsp
   rw [vP] at z1
   simp only [Value.slice.injEq,Option.some.injEq,Addr.mk.injEq] at z1
   obtain ⟨⟨rfl,rfl,rfl⟩,rfl,rfl⟩:=z1
   have:(i+1)*n<=len*n:=Nat.mul_le_mul_right _ (by omega)
   rw [Nat.add_mul,Nat.one_mul] at this
   have z3':o+len*n<=o+i*n+j:=z3
   omega
  ·rcases dp with _|⟨gv,ms⟩
   ·exact hq _ _
   ·by_cases h0:ms.getD j 0=0
    ·exact hq.1 h0 _ _
    ·obtain ⟨⟨cells,c1,c2⟩,c3,UI,len',cap',rows',r1,r2,r3,r4,r5,r6,r7,r8⟩:=hq.2 h0
     rw [r1,r2]
     have hmem:u∈cells.toList:=by rw [<-Array.getElem?_toList] at c2;exact List.mem_of_getElem? c2
     refine ⟨UI,len',cap',rfl,r3,r4,r5,r6,fun b2 o2 s2 ha2=>⟨(r8 b2 o2 s2 ha2).1,dr.of (n:=ms.getD j 0) r7 fun i2 rr hi2=>Rw.of fun j2 d2 hj2=> ?_⟩⟩
     obtain ⟨u2,kv,fD⟩:=(r8 b2 o2 s2 ha2).2 i2 rr hi2 j2 d2 hj2
     have hlt2:=(List.getElem?_eq_some_iff.1 hi2).1
     have Mp:bi u b2:=⟨o2,s2,len',cap',by rw [r1,ha2],by omega⟩
     refine ⟨u2,kv,L3 hs hσ (.inr ⟨_,gv,ms,cells,u,rfl,c1,hmem,Mp⟩) fun hsp=> ?_,fD _ _⟩
     obtain ⟨cells',x1,_,_,x4⟩:=hl.dp _ gv ms rfl
     rw [c1] at x1;cases x1
     obtain ⟨o3,s3,l3,Ka,z1,z2⟩:=zl hsp
     exact x4 u hmem b2 Mp ⟨o3,s3,l3,Ka,z1,z2⟩
 ·cases h
theorem L9{tab:Nat->List CT}{Γ:List VT}{c:SC}{F:Nat->Prop}{σ:Nat->ST}{bm:Nat->Nat}{tm:Nat->Value}{a:Act}{w:World}(aB:bL tab Γ c.env)(hs:aL c F σ bm tm a w){k:K}{e:E}{v:Value}(h:bD w (MM c.M0 bm tm σ) tm c.env k e v):bD w (MM c.M0 bm tm (ib σ)) tm c.env k (Ae tab Γ σ k e) v:=by
 have hk:bb w (MM c.M0 bm tm σ) w (MM c.M0 bm tm (ib σ)):=fun p v hp hn=>⟨hp,fun h=>hn (FW h)⟩
 have hkeep:bD w (MM c.M0 bm tm (ib σ)) tm c.env k e v:=h.keep hk fun _ _=>rfl
 unfold Ae
 split
 ·rename_i g
  cases hb:zN σ g with
  | none=>exact hkeep
  | some b =>
   refine ⟨?_,h.2⟩
   rw [h.2]
   exact J5 hs hb
 ·rename_i ks
  cases hcnd:(ks.any fun kk=>(yU σ kk).isSome)&&(match e.inf tab Γ with|some (.one (.agg us))=>Nat.beq us.length ks.length|_=>false) with
  | false=>exact hkeep
  | true =>
   simp only [Bool.and_eq_true] at hcnd
   obtain ⟨_,hc⟩:=hcnd
   split at hc
   ·rename_i us mL
    have hlen:=Nat.eq_of_beq_eq_true hc
    obtain ⟨l,hl,hlt⟩:=gV (E.cP aB e _ mL)
    have hll:l.length=ks.length:=by rw [hlt.length,hlen]
    obtain ⟨hr,hkk⟩:=hkeep
    rw [hl] at hr
    obtain ⟨cs,hcs,hrs⟩:=hr
    refine ⟨?_,hkk⟩
    simp only [cond_true]
    rw [zX,hcs]
    refine ⟨cs,rfl,?_⟩
    have: ∀(o:Nat) (l':List D) (vs':List Value),Rs w (MM c.M0 bm tm (ib σ)) l' vs'->(∀i d,l'[i]? =some d->l[o+i]? =some d)->(∀i u,vs'[i]? =some u->cs.toList[o+i]? =some u) ->
      Rs w (MM c.M0 bm tm (ib σ)) (((List.range' o l'.length).map fun j=>(yU σ (ks.getD j .d)).getD (.cell e j)).map (·.den c.env)) vs':=by
     intro o l'
     induction l' generalizing o with
     | nil=>intro vs' h1 _ _;exact h1
     | cons d r ih =>
      rintro vs' ⟨u,q,rfl,h1,h2⟩ hd hv
      simp only [List.length_cons,List.range'_succ,List.map_cons]
      refine ⟨u,q,rfl,?_,ih (o+1) q h2 (fun i d' hi=>by have:=hd (i+1) d' (by simpa using hi);rwa [show o+(i+1)=o+1+i by omega] at this) (fun i u' hi=>by have:=hv (i+1) u' (by simpa using hi);rwa [show o+(i+1)=o+1+i by omega] at this)⟩
      have hd0:l[o]? =some d:=by simpa using hd 0 d rfl
      have hv0:cs.toList[o]? =some u:=by simpa using hv 0 u rfl
      have hok:o<ks.length:=by rw [<-hll];exact (List.getElem?_eq_some_iff.1 hd0).1
      cases hb:yU σ (ks.getD o .d) with
      | none =>
       simp only [Option.getD_none,E.den,hl,D.kH,List.getD,hd0,Option.getD_some]
       exact h1
      | some b =>
       simp only [Option.getD_some]
       have MT:ks[o]? =some ks[o]:=List.getElem?_eq_getElem hok
       have Yt:ks.getD o .d=ks[o]:=by simp [List.getD,MT]
       rw [Yt] at hb
       have MU:=hkk o _ u MT (by rw [hcs];simpa [iV,fY] using hv0)
       generalize ks[o]=kk at hb MU
       cases kk with
       | own g =>
        have hu:u=tm g:=MU
        rw [hu]
        exact J5 hs hb
       | _=>simp [yU] at hb
    have key:=this 0 l cs.toList hrs (fun i d h=>by simpa using h) (fun i u h=>by simpa using h)
    rw [hll, <-List.range_eq_range'] at key
    exact key
   ·cases hc
 ·exact hkeep
theorem L0{tab:Nat->List CT}{Γ:List VT}{c:SC}{F:Nat->Prop}{σ:Nat->ST}{bm:Nat->Nat}{tm:Nat->Value}{a:Act}{w:World}(aB:bL tab Γ c.env)(hs:aL c F σ bm tm a w): ∀{cs:List (K×E)} {vs:List Value},ck w (MM c.M0 bm tm σ) tm c.env cs vs->ck w (MM c.M0 bm tm (ib σ)) tm c.env (cs.map fun x=>(x.1,Ae tab Γ σ x.1 x.2)) vs
 | [],_,h=>h
 | x::r,vs,⟨v,q,e,h1,h2⟩=>⟨v,q,e,L9 aB hs h1,L0 aB hs h2⟩
theorem aci(aH:cD P tb tb=true){bm:Nat->Nat}{tm:Nat->Value}{F:Nat->Prop}(aB:bL tb.tab s.Γ env)(hs:aL {c0 with env:=env} F s.σ.get bm tm a w){r:ResultVar}{x:K×E}(h:DZ tb s r=some x) :
  ∃v,(match r with| .tmp t=>(pure (a.tmps.getD t undef):Sem Value)| .cell x T=>do loadVar T (<-asAddr (a.tmps.getD x undef))).run P w= .ok v w/\bD w (MM c0.M0 bm tm (ib s.σ.get)) tm env x.1 x.2 v:=by
 have hkz:bb w (MM c0.M0 bm tm s.σ.get) w (MM c0.M0 bm tm (ib s.σ.get)):=fun p v hp hn=>⟨hp,fun h=>hn (FW (c:=c0) h)⟩
 cases r with
 | tmp t =>
  simp only [DZ] at h
  split at h
  ·rename_i k e' hσ
   simp only [Option.some.injEq] at h;subst h
   have:=hs.tmps t
   rw [hσ] at this
   exact ⟨_,rfl,L9 aB hs (this.1 (aK _))⟩
  ·simp at h
 | cell x T =>
  simp only [DZ] at h
  split at h
  ·rename_i id ti hσ aM
   have hp:=hs.tmps x
   rw [hσ] at hp
   have hv:=hp.1 (aK _)
   split at h
   ·rename_i cs ts eI A9
    cases hl:Nat.beq ts.length cs.length with
    | false=>rw [hl] at h;simp at h
    | true =>
     rw [hl] at h
     simp only [cond_true,Option.some.injEq] at h;subst h
     have hll:=Nat.eq_of_beq_eq_true hl
     obtain ⟨vs,hvs,hcell,T0,hblk⟩:=EX (hs.box id cs eI)
     obtain ⟨i,fields,z,hi,hsz,_,_,_,hu,_⟩:=kY aH aM A9
     have hrun:=D8 (P:=P) (w:=w) hu hi (b:=bm id) (o:=0) (vs:=vs) (by rw [hvs.length,hsz,hll]) (fun j u hj=>by rw [Nat.zero_add];exact hcell j u hj)
     refine ⟨.agg vs.toArray,by simp [hv,asAddr,hrun],?_⟩
     refine bD.pack ?_ fun j k u hk hu=> ?_
     ·rw [Fk aB]
      have:=(L0 aB hs hvs).rs.BL
      simpa only [List.map_map,Function.comp_def] using this
     ·simp only [List.getElem?_map,Option.map_eq_some_iff] at hk
      obtain ⟨z,hz,rfl⟩:=hk
      obtain ⟨u',hu',hr'⟩:=hvs.get hz
      rw [hu] at hu';cases hu'
      exact hr'.kk
   ·rename_i k e' t eI A9
    simp only [Option.some.injEq] at h;subst h
    obtain ⟨vs,hvs,hcell,T0,hblk⟩:=EX (hs.box id _ eI)
    obtain ⟨v,q,rfl,hk,_⟩:=hvs
    obtain ⟨i,d,hi,_,_,_,hd,jj⟩:=eZ aH aM A9
    exact ⟨v,by simp [hv,asAddr,D7 hd jj (hcell 0 v rfl)],hk.keep hkz fun _ _=>rfl⟩
   ·simp at h
  ·simp at h
theorem PA(aH:cD P tb tb=true){bm:Nat->Nat}{tm:Nat->Value}{F:Nat->Prop}(aB:bL tb.tab s.Γ env)(hs:aL {c0 with env:=env} F s.σ.get bm tm a w): ∀{rs:List ResultVar} {es:List (K×E)},BB tb s rs=some es ->
  ∃vs,(rs.mapM (m:=Sem) fun| .tmp t=>pure (a.tmps.getD t undef)| .cell x T=>do loadVar T (<-asAddr (a.tmps.getD x undef))).run P w= .ok vs w/\ck w (MM c0.M0 bm tm (ib s.σ.get)) tm env es vs
 | [],es,h=>by simp [BB] at h;subst h;exact ⟨[],by simp,rfl⟩
 | r::rs,es,h=>by
  simp only [BB] at h
  split at h
  ·rename_i e es' h1 h2
   simp only [Option.some.injEq] at h;subst h
   obtain ⟨v,hv,hr⟩:=aci aH aB hs h1
   obtain ⟨vs,hvs,hrs⟩:=PA aH aB hs h2
   refine ⟨v::vs,?_,v,vs,rfl,hr,hrs⟩
   rw [List.mapM_cons,Sem.run_bind]
   rw [hv]
   simp only [Result.andThen_ok,Sem.run_bind,hvs,Sem.run_pure]
  ·simp at h
theorem NE{tab:Nat->List CT}{Γ:List VT}{M:Addr->Prop}{e:E}{v1:V1}{u:Value}(aB:bL tab Γ env)(he:e.inf tab Γ=some (.one v1))(hr:R w M (e.den env) u):(∀t,v1= .c t->fY u=[u])/\(∀ts,v1= .agg ts-> ∃vs:List Value,u= .agg vs.toArray/\vs.length=ts.length)/\iV u=fY u:=by
 have ht:=E.cP aB e _ he
 cases v1 with
 | c t =>
  have h1:(e.den env).one:=xp.of (vt:= .one (.c t)) ht
  have h2:=D.Bs h1 hr
  have h3:iV u=fY u:=by
   cases u<;>first|rfl|skip
   rename_i vs
   generalize e.den env=d at h1 hr
   cases d with
   | bool b=>have:Value.tuple vs= .bool b:=hr;cases this
   | int k n=>have:Value.tuple vs= .int k n:=hr.1;cases this
   | str s=>have:Value.tuple vs= .string s:=hr.1;cases this
   | sl rows=>obtain ⟨ad,len,cap,h,_⟩:=hr;cases h
   | mem n=>obtain ⟨ad,cap,h,_⟩:=hr;cases h
   | fn f fW=>obtain ⟨ps,h,_⟩:=hr;cases h
   | _=>exact h1.elim
  exact ⟨fun _ _=>(by rw [<-h3];exact h2),fun ts h=>(by cases h),h3⟩
 | agg ts =>
  obtain ⟨l,hl,hlt⟩:=gV ht
  rw [hl] at hr
  obtain ⟨vs,rfl,hrs⟩:=hr
  exact ⟨fun t h=>(by cases h),fun ts' h=>(by cases h;exact ⟨vs.toList,by simp,by rw [hrs.length,hlt.length]⟩),rfl⟩
theorem Kz{tab:Nat->List CT}{Γ:List VT}{M:Addr->Prop}{tm:Nat->Value}(aB:bL tab Γ env): ∀{es:List (K×E)} {us:List Value} {l:List KK},xz tab Γ es=some l->ck w M tm env es us->(∀(p:Nat) (kk:KK),l[p]? =some kk-> ∃u,(us.flatMap fY)[p]? =some u/\lV tm kk u)/\ ∀u∈us,iV u=fY u
 | [],us,l,h,hr=>by
  simp only [xz,Option.some.injEq] at h;subst h
  have:us=[]:=hr
  subst this
  exact ⟨fun p kk h=>by simp at h,fun u h=>by simp at h⟩
 | (k,e)::r,us,l,h,⟨v,q,e',h1,h2⟩=>by
  subst e'
  have step: ∀(l0 l1:List KK),xz tab Γ r=some l1->l=l0++l1->l0.length=(fY v).length->(∀(p:Nat) (kk:KK),l0[p]? =some kk-> ∃u,(fY v)[p]? =some u/\lV tm kk u)->iV v=fY v ->
    (∀(p:Nat) (kk:KK),l[p]? =some kk-> ∃u,((v::q).flatMap fY)[p]? =some u/\lV tm kk u)/\ ∀u∈v::q,iV u=fY u:=by
   intro l0 l1 hl1 hl hlen h0 Gt
   obtain ⟨i1,i2⟩:=Kz aB hl1 h2
   subst hl
   refine ⟨fun p kk hp=> ?_,fun u hu=> ?_⟩
   ·simp only [List.flatMap_cons]
    rcases Nat.lt_or_ge p l0.length with hlt|hge
    ·rw [List.getElem?_append_left hlt] at hp
     rw [List.getElem?_append_left (by omega)]
     exact h0 p kk hp
    ·rw [List.getElem?_append_right hge] at hp
     rw [List.getElem?_append_right (by omega), <-hlen]
     exact i1 _ kk hp
   ·rcases List.mem_cons.1 hu with rfl|hu
    ·exact Gt
    ·exact i2 u hu
  simp only [xz] at h
  split at h
  ·rename_i t l1 he hl1
   simp only [Option.some.injEq] at h
   obtain ⟨q1,_,q3⟩:=NE aB he h1.rd
   have q1:=q1 t rfl
   refine step [k.kk] l1 hl1 h.symm (by rw [q1];rfl) (fun p kk hp=> ?_) q3
   rw [q1]
   have:p=0:=by
    have:=(List.getElem?_eq_some_iff.1 hp).1
    simp at this;omega
   subst this
   simp at hp;subst hp
   exact ⟨v,rfl,h1.kk⟩
  ·rename_i ts l1 he hl1
   simp only [Option.some.injEq] at h
   obtain ⟨_,q2,q3⟩:=NE aB he h1.rd
   obtain ⟨vs,rfl,hvl⟩:=q2 ts rfl
   refine step _ l1 hl1 h.symm (by simp [fY,hvl]) (fun p kk hp=> ?_) q3
   simp only [List.getElem?_map,Option.map_eq_some_iff] at hp
   obtain ⟨j,hj,rfl⟩:=hp
   obtain ⟨Yr,hj2⟩:=List.getElem?_eq_some_iff.1 hj
   simp at Yr hj2
   subst hj2
   have hu:(iV (.agg vs.toArray))[p]? =some (vs[p]'(by omega)):=by simp [iV,fY,List.getElem?_eq_getElem (show p<vs.length by omega)]
   exact ⟨_,by simpa [iV] using hu,h1.nth hu⟩
  ·simp at h
theorem OA{x:Nat}: ∀{l:List Nat},ug x l=true↔x∈l
 | []=>by simp [ug]
 | y::r=>by simp [ug,OA (l:=r)]
theorem Iz{σ:Nat->ST}{l:List KK}: ∀{rt:List (Nat×Nat)} {q:List Nat},D6 σ l rt=some q ->
  (∀x∈rt,∃kk,l[x.1]? =some kk/\(kk= .full\/ ∃g,kk= .own g/\g∈q/\σ (3*g+2)= .live ⟨x.2,none⟩)) /\
  (∀(i j:Nat) (x y:Nat×Nat) (g g':Nat),i<j->rt[i]? =some x->rt[j]? =some y->l[x.1]? =some (.own g)->l[y.1]? =some (.own g')->g≠g')
 | [],q,h=>⟨fun x hx=>by simp at hx,fun i j x y g g' _ h=>by simp at h⟩
 | (p,m)::r,q,h=>by
  simp only [D6] at h
  split at h
  ·rename_i q' hp hq'
   simp only [Option.some.injEq] at h;subst h
   obtain ⟨i1,i2⟩:=Iz hq'
   refine ⟨fun x hx=> ?_,fun i j x y g g' hij hx hy h1 h2=> ?_⟩
   ·rcases List.mem_cons.1 hx with rfl|hx
    ·exact ⟨_,hp,.inl rfl⟩
    ·exact i1 x hx
   ·obtain ⟨j,rfl⟩: ∃j',j=j'+1:=⟨j-1,by omega⟩
    simp at hy
    cases i with
    | zero=>simp at hx;subst hx;rw [hp] at h1;cases h1
    | succ i=>simp at hx;exact i2 i j x y g g' (by omega) hx hy h1 h2
  ·rename_i g0 q' hp hq'
   split at h
   ·rename_i hc
    simp only [Option.some.injEq] at h;subst h
    obtain ⟨i1,i2⟩:=Iz hq'
    refine ⟨fun x hx=> ?_,fun i j x y g g' hij hx hy h1 h2=> ?_⟩
    ·rcases List.mem_cons.1 hx with rfl|hx
     ·exact ⟨_,hp,.inr ⟨g0,rfl,by simp,hc.1⟩⟩
     ·obtain ⟨kk,k1,k2⟩:=i1 x hx
      exact ⟨kk,k1,k2.imp id fun ⟨g,z1,z2,z3⟩=>⟨g,z1,by simp [z2],z3⟩⟩
    ·obtain ⟨j,rfl⟩: ∃j',j=j'+1:=⟨j-1,by omega⟩
     simp at hy
     cases i with
     | zero =>
      simp at hx;subst hx
      rw [hp] at h1;simp at h1;subst h1
      obtain ⟨kk,k1,k2⟩:=i1 y (List.mem_of_getElem? hy)
      rw [h2] at k1;cases k1
      rcases k2 with k2|⟨g,z1,z2,_⟩
      ·cases k2
      ·cases z1
       intro e
       rw [e] at hc
       exact absurd (OA.2 z2) (by rw [hc.2];simp)
     | succ i=>simp at hx;exact i2 i j x y g g' (by omega) hx hy h1 h2
   ·simp at h
  ·simp at h
theorem acB{tab:Nat->List CT}{c:SC}{F:Nat->Prop}{σ:Nat->ST}{bm:Nat->Nat}{tm:Nat->Value}(hs:aL c F σ bm tm a w)(aB:bL tab s.Γ c.env){es:List (K×E)}{us:List Value}{rt:List (Nat×Nat)}(hc:D5 tab s.Γ σ es rt=true)(hr:ck w (MM c.M0 bm tm σ) tm c.env es us){v:Value}
  (hv:(us=[v])\/v= .tuple us.toArray):uM c.B w v rt/\ ∀p,iK v rt p->MM c.M0 bm tm σ p:=by
 cases rt with
 | nil=>exact ⟨⟨fun x hx=>by simp at hx,fun i j x y h=>by simp at h⟩,fun p ⟨x,hx,_⟩=>by simp at hx⟩
 | cons x0 rt0 =>
  simp only [D5] at hc
  split at hc
  ·rename_i l hl
   obtain ⟨q,hq⟩:=Option.isSome_iff_exists.1 hc
   obtain ⟨h1,h2⟩:=Iz hq
   obtain ⟨c1,c2⟩:=Kz aB hl hr
   have hfl:iV v=us.flatMap fY:=by
    rcases hv with rfl|rfl
    ·rw [c2 v (by simp)];simp
    ·simp [iV]
   have hval: ∀x∈x0::rt0,(∃ad,kW v x= .slice ad 0 0/\l[x.1]? =some .full)\/ ∃g,kW v x=tm g/\σ (3*g+2)= .live ⟨x.2,none⟩/\l[x.1]? =some (.own g):=fun x hx=>by
    obtain ⟨kk,k1,k2⟩:=h1 x hx
    obtain ⟨u,u1,u2⟩:=c1 x.1 kk k1
    have hu:kW v x=u:=by unfold kW;rw [hfl];simp [List.getD,u1]
    rcases k2 with rfl|⟨g,rfl,_,k3⟩
    ·obtain ⟨ad,rfl⟩:=u2
     exact .inl ⟨ad,hu,k1⟩
    ·exact .inr ⟨g,by rw [hu];exact u2,k3,k1⟩
   refine ⟨⟨fun x hx=> ?_,fun i j x y hx hy hne=> ?_⟩,fun p ⟨x,hx,hp⟩=> ?_⟩
   ·intro b o s len cap he hlt
    rcases hval x hx with ⟨ad,e,_⟩|⟨g,e,hg,_⟩
    ·rw [e] at he;simp only [Value.slice.injEq] at he;omega
    ·rw [e] at he
     exact (hs.live g ⟨x.2,none⟩ hg).sp b o s len cap he hlt
   ·intro b o s len cap b' o' s' len' cap' he hlt he' vF
    rcases hval x (List.mem_of_getElem? hx) with ⟨ad,e,_⟩|⟨g,e,hg,MX⟩
    ·rw [e] at he;simp only [Value.slice.injEq] at he;omega
    ·rcases hval y (List.mem_of_getElem? hy) with ⟨ad,e',_⟩|⟨g',e',hg',MY⟩
     ·rw [e'] at he';simp only [Value.slice.injEq] at he';omega
     ·rw [e] at he;rw [e'] at he'
      refine hs.iA g ⟨x.2,none⟩ g' ⟨y.2,none⟩ b b' hg hg' ?_ (.inl ⟨o,s,len,cap,he,hlt⟩) (.inl ⟨o',s',len',cap',he',vF⟩)
      rcases Nat.lt_or_gt_of_ne hne with h|h
      ·exact h2 i j x y g g' h hx hy MX MY
      ·exact fun e=>h2 j i y x g' g h hy hx MY MX e.symm
   ·rcases hval x hx with ⟨ad,e,_⟩|⟨g,e,hg,_⟩
    ·rw [e] at hp
     obtain ⟨o,s,len,cap,z1,z2⟩:=zl hp
     simp only [Value.slice.injEq] at z1;omega
    ·rw [e] at hp
     exact .inr (.inr ⟨g,⟨x.2,none⟩,hg,wg hp⟩)
  ·simp at hc
end
theorem cM.abB{P:Program}{rb:RB}{rt:List (Nat×Nat)}{f:FuncId}{fn:Func}{cd:Code}{tb:TB}{bx:Option (List CT)}{ss:SS}{V:VC}(hf:P.funcs[f]? =some fn)(hb:fn.body=some cd)(hn:(fn.name== "runtime.NumGoroutine")=false)(pF:cD P tb tb=true)(hm:P.follows .mixedOrders=true)
  (gf:Be tb fn.params.toList bx=some ss) (hV:sx ⟨⟨tb,fn.ntmps,rb⟩,fn.results.toList,bx.isSome,rt⟩ cd ss [] (wC ⟨⟨tb,fn.ntmps,rb⟩,fn.results.toList,bx.isSome,rt⟩)=V) (hsz:Nat.ble fn.params.size fn.ntmps=true)
  {bc:Option (List D)} {ds:List D} {r:D} {iw:List D} (hbc:bc.isSome=bx.isSome) (hty:fz tb.tab ss.Γ (ds++bc.getD [])) (hdl:ds.length=match bx with|none=>fn.params.size|some _=>fn.params.size-1) (rE:bx=none->iw=[])
  (iB:dU ds->dU (bc.getD [])->V.den P tb.tab (ds++bc.getD []) (fun d bs=>d=r/\bs=iw) []):cM P f bc ds r iw rt:=by
 subst hV
 refine ⟨by simp [iy,hf,hn,hb],fun w M g vs hM hrs eI=> ?_⟩
 have yH:=Nat.le_of_ble_eq_true hsz
 refine calls_of_wp hf hb ?_
 generalize hargs:(match bc with|none=>vs|some _=>Value.pointer (some ⟨g,0,none⟩)::vs)=args
 let c0:SC:={w0:=w,B:=w.heap.size,X:=bc.map fun _=>g,M0:=M,nt:=fn.ntmps,env:=ds++bc.getD []}
 have hbody: ∀e a' w',Post P ⟨⟨tb,fn.ntmps,rb⟩,fn.results.toList,bx.isSome,rt⟩ c0 (fun d bs=>d=r/\bs=iw) (ds++bc.getD []) [] [] (wC ⟨⟨tb,fn.ntmps,rb⟩,fn.results.toList,bx.isSome,rt⟩) e a' w' ->
   bodyPost P fn (fun e w'=> ∃v,e= .returned v/\R w' (fun p=>M p\/iK v rt p) r v/\Fr w.heap.size (bc.map fun _=>g) w w'/\uM w.heap.size w' v rt/\(bc.isSome=true-> ∃us T,w'.heap[g]? =some (.cells us.toArray T (0,0))/\Rs w' (fun p=>M p\/iK v rt p) iw us)) e a' w':=by
  have Ni: ∀(env:List D) (s:SS) (L:List (List D->Prop)) (a':Act) (w':World),Good c0 tb.tab env s a' w'->(wC ⟨⟨tb,fn.ntmps,rb⟩,fn.results.toList,bx.isSome,rt⟩ s).den P tb.tab env (fun d bs=>d=r/\bs=iw) L ->
    a'.defers=[]/\ ∃v,(results fn a'.tmps).run P w'= .ok v w'/\ ∃v',Ending.returned v= .returned v'/\R w' (fun p=>M p\/iK v' rt p) r v'/\Fr w.heap.size (bc.map fun _=>g) w w'/\uM w.heap.size w' v' rt/\(bc.isSome=true-> ∃us T,w'.heap[g]? =some (.cells us.toArray T (0,0))/\Rs w' (fun p=>M p\/iK v' rt p) iw us):=by
   intro env s L a' w' hG h
   obtain ⟨hE,hl,bm,tm,hS⟩:=hG
   refine ⟨hS.defers,?_⟩
   simp only [wC] at h
   split at h
   ·rename_i es hes
    have Mt:=hS.freeze
    cases tQ:D5 tb.tab s.Γ (ib s.σ.get) es rt with
    | false=>rw [tQ] at h;exact h.elim
    | true =>
    rw [tQ] at h
    simp only [cond_true] at h
    obtain ⟨us,rL,Nj⟩:=PA pF hE hS hes
    have Dt:=Nj.rs
    have hrun: ∃v,(results fn a'.tmps).run P w'= .ok v w'/\R w' (MM c0.M0 bm tm (ib s.σ.get)) ((Br (es.map (·.2))).den env) v/\((us=[v])\/v= .tuple us.toArray):=by
     have hmm:(results fn a'.tmps).run P w'= .ok (if h:us.toArray.size=1 then us.toArray[0] else .tuple us.toArray) w':=by
      simp only [results,Sem.run_bind]
      rw [Array.mapM_eq_mapM_toList,Sem.run_map]
      erw [rL]
      rfl
     refine ⟨_,hmm,?_⟩
     have hlen:=Dt.length
     simp only [List.length_map] at hlen
     generalize Yh:es.map (·.2)=u7 at Dt ⊢
     have hel:u7.length=es.length:=by rw [<-Yh];simp
     unfold Br
     split
     ·rename_i e
      obtain ⟨v,q,rfl,h1,h2⟩:=Dt
      have:q=[]:=h2
      subst this
      exact ⟨by simpa using h1,.inl (by simp)⟩
     ·rename_i es' hne
      have h1: ¬us.toArray.size=1:=by
       intro h1
       have:u7.length=1:=by rw [hel];simpa [hlen] using h1
       match u7,this with
       | [e],_=>exact hne e rfl
      rw [dif_neg h1,QH u7 .bH [] rfl,List.nil_append]
      exact ⟨⟨us.toArray,rfl,by simpa using Dt⟩,.inr rfl⟩
    obtain ⟨v,hv,hR,Y8⟩:=hrun
    obtain ⟨Nl,YU⟩:=acB (c:={c0 with env:=env}) Mt hE tQ Nj Y8
    have Gw:bb w' (MM c0.M0 bm tm (ib s.σ.get)) w' (fun p=>M p\/iK v rt p):=fun p u hp hn=>⟨hp,fun h=>h.elim (fun h=>hn (.inl h)) (fun h=>hn (YU p h))⟩
    refine ⟨v,hv,v,rfl,?_⟩
    generalize Br (es.map (·.2))=e at h hR
    cases hbx:bx.isSome with
    | false =>
     rw [hbx] at h hbc
     simp only [cond_false,VC.den,List.map_nil] at h
     refine ⟨by rw [<-h.1];exact R.keep Gw _ _ hR,hS.fr,Nl,fun h=>by rw [hbc] at h;cases h⟩
    | true =>
     rw [hbx] at h hbc
     simp only [cond_true] at h
     split at h
     ·rename_i cs hcs
      simp only [VC.den] at h
      obtain ⟨BU,T,q1,q2,q3⟩:=Mt.box 0 cs (tK.2 hcs)
      have hx:c0.X=some g:=by
       show bc.map _=_
       cases bc with
       | none=>simp at hbc
       | some _=>rfl
      have hg:=(hS.x0 g hx).1
      refine ⟨by rw [<-h.1];exact R.keep Gw _ _ hR,hS.fr,Nl,fun _=>⟨BU,T,by rw [<-hg];exact q1,?_⟩⟩
      rw [<-h.2]
      exact Rs.keep Gw _ _ q2.rs
     ·exact h.elim
   ·exact h.elim
  intro e a' w' hp
  cases e with
  | normal =>
   obtain ⟨more,pre,s,h1,h2,h3⟩:=hp
   exact Ni _ s _ a' w' h1 h3
  | exit id=>obtain ⟨k',h1,_⟩:=hp;simp [Bm] at h1
  | ret =>
   obtain ⟨env,s,L,h1,h2⟩:=hp
   exact Ni env s L a' w' h1 h2
  | goto l=>exact hp.elim
  | panic ch=>exact hp.elim
  | outgrown=>exact hp.elim
 have Dh:=Ax hty
 have hfits:dU ds/\dU (bc.getD []):=by
  refine ⟨Rs.fits _ _ hrs,?_⟩
  cases bc with
  | none=>trivial
  | some cs=>obtain ⟨us,T,_,h2,_⟩:=eI cs rfl;exact Rs.fits _ _ h2
 refine wp_mono (adP (fx:=⟨⟨tb,fn.ntmps,rb⟩,fn.results.toList,bx.isSome,rt⟩) (c0:=c0) pF rfl hm (fun d bs=>d=r/\bs=iw) cd ss [] _ (ds++bc.getD []) [] _ w ?_ ?_ (iB hfits.1 hfits.2)) hbody
 ·have F8:bL tb.tab ss.Γ (ds++bc.getD []):=by
   have:=bL.append (tab:=tb.tab) (Γ:=[]) (env:=[]) (fun i t h=>by simp at h) rfl hty
   simpa using this
  have hvl:=hrs.length
  have gh: ∀t,({tmps:=args.toArray++Array.replicate (fn.ntmps-args.toArray.size) undef,defers:=[]}:Act).tmps.getD t undef=args.getD t undef:=fun t=>by
   simp only [Array.getD_eq_getD_getElem?,List.getD]
   by_cases h:t<args.length
   ·rw [Array.getElem?_append_left (by simpa using h)];simp
   ·rw [Array.getElem?_append_right (by simp;omega),List.getElem?_eq_none (by omega)]
    simp only [Array.getElem?_replicate]
    split<;>rfl
  refine ⟨F8,Dh,?_⟩
  unfold Be at gf
  split at gf
  ·
   rename_i ps
   split at gf
   ·rename_i Γ aB
    simp only [Option.some.injEq] at gf;subst gf
    have vm:bc=none:=by cases bc with|none=>rfl|some _=>simp at hbc
    subst vm
    simp only at hargs;subst hargs
    simp only [Option.getD_none,List.append_nil] at Dh F8 ⊢
    have GQ:vs.length<=fn.ntmps:=by
     have:Γ.length=fn.params.size:=by
      have hk: ∀(l:List Nat) (Γ:List VT),qO tb l=some Γ->Γ.length=l.length:=by
       intro l
       induction l with
       | nil=>intro Γ h;simp [qO] at h;subst h;rfl
       | cons T l ih =>
        intro Γ h
        simp only [qO] at h
        split at h
        ·rename_i i l' _ h2
         simp only [Option.some.injEq] at h;subst h
         simp [ih _ h2]
        ·simp at h
      simpa using hk _ _ aB
     omega
    have ql: ∀id cs,(nR 0 0 Γ).get (3*id+1)≠ .box cs:=fun id cs h=>by rw [rV] at h;split at h<;>cases h
    have qm: ∀g n,(nR 0 0 Γ).get (3*g+2)≠ .live n:=fun g n h=>by rw [rV] at h;split at h<;>cases h
    refine ⟨fun x=>x,fun _=>undef,Fr.refl _ _ _,Nat.le_refl _,⟨hM.1,hM.2.1,hM.2.2,fun g' hg'=>by cases hg'⟩,fun t=> ?_,fun id cs h=>absurd h (ql id cs),fun g n h=>absurd h (qm g n),fun id id' cs cs' h=>absurd h (ql id cs),fun id cs g n b h=>absurd h (ql id cs),fun g n g' n' b b' h=>absurd h (qm g n),fun l g h=> ?_,fun id cs h=>absurd h (ql id cs),fun g n h=>absurd h (qm g n),?_,rfl,fun g hg=>by simp [c0] at hg⟩
    ·rw [gh,rV]
     split
     ·rename_i hc
      refine ⟨fun _=> ?_,fun h=>absurd (aK _) h⟩
      have ht:t<ds.length:=by omega
      obtain ⟨v,hv,hr⟩:=hrs.get (List.getElem?_eq_getElem ht)
      simp only [bD,E.den,List.getD,show 0+(3*t/3-0)=t by omega,List.getElem?_eq_getElem ht,hv,Option.getD_some]
      refine R.keep (fun p u hp hn=>⟨hp,?_⟩) _ _ hr
      rintro (h|⟨id,cs,h1,_⟩|⟨g,n,h1,_⟩)
      ·exact hn h
      ·exact ql id cs h1
      ·exact qm g n h1
     ·trivial
    ·rw [rV] at h
     split at h
     ·exact h.elim
     ·exact h.elim
    ·show _=fn.ntmps
     simp only [Array.size_append,Array.size_replicate];simp;omega
   ·simp at gf
  ·
   rename_i oq p0 ps hps hxx
   split at gf
   ·rename_i Γ aB
    simp only [Option.some.injEq] at gf;subst gf
    obtain ⟨tq,rfl⟩: ∃x,bc=some x:=by cases bc with|none=>simp at hbc|some x=>exact ⟨x,rfl⟩
    simp only at hargs;subst hargs
    simp only [Option.getD_some] at Dh F8 hty ⊢
    obtain ⟨us,T,hblk,Y2,Na,Yl⟩:=eI tq rfl
    have hk: ∀(l:List Nat) (Γ:List VT),qO tb l=some Γ->Γ.length=l.length:=by
     intro l
     induction l with
     | nil=>intro Γ h;simp [qO] at h;subst h;rfl
     | cons T l ih =>
      intro Γ h
      simp only [qO] at h
      split at h
      ·rename_i i l' _ h2
       simp only [Option.some.injEq] at h;subst h
       simp [ih _ h2]
      ·simp at h
    have hpl:fn.params.size=ps.length+1:=by rw [<-Array.length_toList,hps];rfl
    have akl:=hk _ _ aB
    have ajY:ds.length=Γ.length:=by
     have:ds.length=fn.params.size-1:=hdl
     omega
    have hbl:tq.length=oq.length:=by simp only [List.length_append,List.length_map] at Dh;omega
    have hget: ∀l,Sg.get ((0,.ptr [] 0 0)::(1,.box (vars Γ.length oq))::nR 1 0 Γ) l=if l=0 then .ptr [] 0 0 else if l=1 then .box (vars Γ.length oq) else (nR 1 0 Γ).get l:=fun l=>by
     rw [Sg.FY,Sg.FY];simp only [aV]
    have ql: ∀id cs,Sg.get ((0,.ptr [] 0 0)::(1,.box (vars Γ.length oq))::nR 1 0 Γ) (3*id+1)= .box cs->id=0/\cs=vars Γ.length oq:=fun id cs h=>by
     rw [hget,if_neg (by omega)] at h
     by_cases e:3*id+1=1
     ·rw [if_pos e] at h;simp only [ST.box.injEq] at h;exact ⟨by omega,h.symm⟩
     ·rw [if_neg e,rV] at h;split at h<;>cases h
    have qm: ∀g n,Sg.get ((0,.ptr [] 0 0)::(1,.box (vars Γ.length oq))::nR 1 0 Γ) (3*g+2)≠ .live n:=fun g n h=>by
     rw [hget,if_neg (by omega),if_neg (by omega),rV] at h;split at h<;>cases h
    have qZ: ∀p,MM M (fun _=>g) (fun _=>undef) (Sg.get ((0,.ptr [] 0 0)::(1,.box (vars Γ.length oq))::nR 1 0 Γ)) p->M p:=by
     rintro p (h|⟨id,cs,h1,h2⟩|⟨g',n,h1,_⟩)
     ·exact h
     ·exact Yl p h2
     ·exact absurd h1 (qm g' n)
    have hkeep:bb w M w (MM M (fun _=>g) (fun _=>undef) (Sg.get ((0,.ptr [] 0 0)::(1,.box (vars Γ.length oq))::nR 1 0 Γ))):=fun p u hp hn=>⟨hp,fun h=>hn (qZ p h)⟩
    refine ⟨fun _=>g,fun _=>undef,Fr.refl _ _ _,Nat.le_refl _,⟨hM.1,hM.2.1,hM.2.2,fun g' hg'=>by cases hg';exact Na⟩,fun t=> ?_,fun id cs h=> ?_,fun g n h=>absurd h (qm g n),fun id id' cs cs' h h' hne=> ?_,fun id cs g n b _ h=>absurd h (qm g n),fun g n g' n' b b' h=>absurd h (qm g n),fun l x h=> ?_,fun id cs h=> ?_,fun g n h=>absurd h (qm g n),?_,rfl,fun g' hg=>⟨?_,by simp [below]⟩⟩
    ·rw [gh,hget]
     by_cases h0:3*t=0
     ·rw [if_pos h0]
      have:t=0:=by omega
      subst this
      exact ⟨fun _=>rfl,fun h=>absurd (aK _) h⟩
     ·rw [if_neg h0,if_neg (by omega),rV]
      split
      ·rename_i hc
       refine ⟨fun _=> ?_,fun h=>absurd (aK _) h⟩
       have ht:t-1<ds.length:=by omega
       obtain ⟨v,hv,hr⟩:=hrs.get (List.getElem?_eq_getElem ht)
       have e1:0+(3*t/3-1)=t-1:=by omega
       have e2:(Value.pointer (some ⟨g,0,none⟩)::vs).getD t undef=v:=by
        obtain ⟨t',rfl⟩: ∃t',t=t'+1:=⟨t-1,by omega⟩
        simp only [List.getD,List.getElem?_cons_succ]
        rw [show t'+1-1=t' by omega] at hv
        rw [hv];rfl
       rw [e2]
       simp only [bD,E.den,e1,List.getD,List.getElem?_append_left ht,List.getElem?_eq_getElem ht,Option.getD_some]
       exact R.keep hkeep _ _ hr
      ·trivial
    ·obtain ⟨rfl,rfl⟩:=ql id cs h
     refine ⟨us,T,hblk,?_,.inr ⟨rfl,rfl⟩⟩
     refine zf (c:={c0 with env:=ds++tq}) oq Γ.length us ?_
     have:((List.range oq.length).map fun j=>(ds++tq).getD (Γ.length+j) .un)=tq:=by
      refine List.ext_getElem? fun i=> ?_
      simp only [List.getElem?_map]
      by_cases hi:i<oq.length
      ·rw [List.getElem?_range hi]
       simp only [Option.map_some,List.getD]
       rw [List.getElem?_append_right (by omega),show Γ.length+i-ds.length=i by omega]
       simp [List.getElem?_eq_getElem (show i<tq.length by omega)]
      ·rw [List.getElem?_eq_none (by simp;omega),List.getElem?_eq_none (by omega)];rfl
     show Rs w _ ((List.range oq.length).map fun j=>(ds++tq).getD (Γ.length+j) .un) us
     rw [this]
     exact Rs.keep hkeep _ _ Y2
    ·obtain ⟨rfl,_⟩:=ql id cs h
     obtain ⟨rfl,_⟩:=ql id' cs' h'
     exact absurd rfl hne
    ·rw [hget] at h
     split at h
     ·simp only [bX] at h;subst h;simp [below]
     ·split at h
      ·exact absurd h (BV _ _ _)
      ·rw [rV] at h;split at h<;>exact h.elim
    ·obtain ⟨rfl,_⟩:=ql id cs h;simp [below]
    ·show _=fn.ntmps
     simp only [Array.size_append,Array.size_replicate];simp;omega
    ·have:(some tq).map (fun _=>g)=some g':=hg
     simpa using this
   ·simp at gf
  ·simp at gf
 ·unfold Be at gf
  split at gf
  ·split at gf
   ·simp only [Option.some.injEq] at gf;subst gf;rfl
   ·simp at gf
  ·split at gf
   ·simp only [Option.some.injEq] at gf;subst gf;rfl
   ·simp at gf
  ·simp at gf
open Classical in
def DN:Option (List CT)->Nat
 | none=>0
 | some _=>1
def bq(P:Program)(tb:TB)(rb:RB)(f:FuncId)(bx:Option (List CT)):VC :=
 match P.funcs[f]? with
 | none=> .fail 90
 | some fn=>match fn.body,Be tb fn.params.toList bx with
  | some c,some ss=>bif !(fn.name== "runtime.NumGoroutine")&&Nat.ble fn.params.size fn.ntmps&&Nat.beq ss.Γ.length (fn.params.size-DN bx+(bx.getD []).length) then
    sx ⟨⟨tb,fn.ntmps,rb⟩,fn.results.toList,bx.isSome,rb.get f⟩ c ss [] (wC ⟨⟨tb,fn.ntmps,rb⟩,fn.results.toList,bx.isSome,rb.get f⟩) else .fail 92
  | _,_=> .fail 91
def bp(P:Program)(tb:TB)(f:FuncId)(bx:Option (List CT)):List VT :=
 match P.funcs[f]? with
 | none=>[]
 | some fn=>match Be tb fn.params.toList bx with
  | some ss=>ss.Γ
  | none=>[]
def VC.ok:VC->Bool
 | .fail _=>false
 | _=>true
theorem cM.of{P:Program}{f:FuncId}{tb:TB}{rb:RB}{bx:Option (List CT)}{V:VC}{Γ:List VT}(hV:bq P tb rb f bx=V)(hok:V.ok=true)(aB:bp P tb f bx=Γ)(pF:cD P tb tb=true)(hm:P.follows .mixedOrders=true)
  {bc:Option (List D)} {ds:List D} {r:D} {iw:List D} (hbc:bc.map List.length=bx.map List.length) (hty:fz tb.tab Γ (ds++bc.getD [])) (rE:bx=none->iw=[])
  (iB:dU ds->dU (bc.getD [])->V.den P tb.tab (ds++bc.getD []) (fun d bs=>d=r/\bs=iw) []):cM P f bc ds r iw (rb.get f):=by
 have Gv:bc.isSome=bx.isSome:=by
  cases bc<;>cases bx<;>first|rfl|(exact absurd hbc (by intro h;cases h))
 unfold bq at hV
 unfold bp at aB
 split at hV
 ·subst hV;exact absurd hok (by intro h;cases h)
 ·rename_i fn hf
  rw [hf] at aB
  simp only at aB
  split at hV
  ·rename_i c ss hb gf
   rw [gf] at aB
   simp only at aB
   subst aB
   generalize hC:(!(fn.name== "runtime.NumGoroutine")&&Nat.ble fn.params.size fn.ntmps&&Nat.beq ss.Γ.length (fn.params.size-DN bx+(bx.getD []).length))=C at hV
   cases C with
   | false=>simp only [cond_false] at hV;subst hV;exact absurd hok (by intro h;cases h)
   | true =>
    simp only [cond_true] at hV
    simp only [Bool.and_eq_true,Bool.not_eq_true'] at hC
    obtain ⟨⟨h1,h2⟩,h3⟩:=hC
    replace h3:=Nat.eq_of_beq_eq_true h3
    refine cM.abB hf hb h1 pF hm gf hV h2 Gv hty ?_ rE iB
    have hl:=Ax hty
    cases bx with
    | none =>
     cases bc with
     | none=>simp [DN] at hl h3;simp only;omega
     | some _=>simp at Gv
    | some ct =>
     cases bc with
     | none=>simp at Gv
     | some cs=>simp [DN] at hl h3 hbc;simp only;omega
  ·subst hV;exact absurd hok (by intro h;cases h)
theorem aD.of{P:Program}{f:FuncId}{tb:TB}{rb:RB}{bx:Option (List CT)}{V:VC}{Γ:List VT}(hV:bq P tb rb f bx=V)(hok:V.ok=true)(aB:bp P tb f bx=Γ)(pF:cD P tb tb=true)(hm:P.follows .mixedOrders=true)
  {bc:Option (List D)} {ds:List D} {r:D} {iw:List D} (hbc:bc.map List.length=bx.map List.length) (hty:fz tb.tab Γ (ds++bc.getD [])) (rE:bx=none->iw=[])
  (iB:dU ds->dU (bc.getD [])->V.den P tb.tab (ds++bc.getD []) (fun d bs=>d=r/\bs=iw) []):aD P f bc ds r iw :=
 .Ia (cM.of hV hok aB pF hm hbc hty rE iB)
end
section
open Go
def ba:RB:=[(7,[(3,2),(5,2)]),(8,[(3,2),(5,2)]),(10,[(3,2),(5,2)]),(16,[(3,2),(5,2),(6,5)]),(17,[(0,4)]),(18,[(3,2),(5,2),(6,5)]),(26,[(3,2),(5,2)]),(33,[(3,2)]),(34,[(0,2)]),(35,[(3,2),(5,2)]),(52,[(3,2)]),(62,[(0,2)]),(64,[(3,2)]),(85,[(0,1)]),(96,[(0,2)]),(100,[(0,2)]),(104,[(0,1)]),(108,[(0,2)]),(111,[(0,1)]),(122,[(0,1)])]
abbrev tyP:V1:= .agg [.str,.bool,.bool,.sl 125,.int .i64,.sl 52]
abbrev uz:V1:= .agg [.int .i64,.int .i64,.str,.int .i64,.int .i64]
abbrev qD:V1:= .agg [.str,.str,.int .i64,.str]
abbrev tyO:V1:= .agg [.str,.bool,.bool,.sl 125,.int .i64]
abbrev tyK:List CT:=[.sl 5,.int .i64,.int .i64]
abbrev bg:VT:= .one (.c (.int .i64))
abbrev dq:VT:= .one (.c .bool)
abbrev dR:VT:= .one (.c .str)
end
section
open Go
set_option maxRecDepth 1000000
def RM:VC:=(.ite (.ic .lss (.ar .sub .i64 (.var 1) (.len (.cell (.var 0) 0))) (.li .i64 0)) (.ret (.li .i64 (-1)) []) (.ite (.ic .lss (.ar .sub .i64 (.ar .sub .i64 (.var 1) (.len (.cell (.var 0) 0))) (.len (.cell (.var 0) 1))) (.li .i64 0)) (.ret (.li .i64 (-1)) []) (.ite (.ic .lss (.ar .sub .i64 (.ar .sub .i64 (.ar .sub .i64 (.var 1) (.len (.cell (.var 0) 0))) (.len (.cell (.var 0) 1))) (.len (.cell (.var 0) 3))) (.li .i64 0)) (.ret (.li .i64 (-1)) []) (.ret (.ar .sub .i64 (.ar .sub .i64 (.ar .sub .i64 (.var 1) (.len (.cell (.var 0) 0))) (.len (.cell (.var 0) 1))) (.len (.cell (.var 0) 3))) []))))
theorem ahL:bq Tryz.prog ay ba 6 none=RM:=by kernel_rfl
def afk:List VT:=[(.one qD),bg]
theorem afn:bp Tryz.prog ay 6 none=afk:=by kernel_rfl
def RD:VC:=(.ite (.ic .neq (.cell (.var 0) 0) (.cell (.var 1) 0)) (.ret (.lb false) []) (.ite (.ic .neq (.cell (.var 0) 1) (.cell (.var 1) 1)) (.ret (.lb false) []) (.ite (.sc .neq (.cell (.var 0) 2) (.cell (.var 1) 2)) (.ret (.lb false) []) (.ite (.ic .neq (.cell (.var 0) 3) (.cell (.var 1) 3)) (.ret (.lb false) []) (.ite (.ic .neq (.cell (.var 0) 4) (.cell (.var 1) 4)) (.ret (.lb false) []) (.ret (.lb true) []))))))
theorem ahD:bq Tryz.prog ay ba 12 none=RD:=by kernel_rfl
def ae4:List VT:=[(.one uz),(.one uz)]
theorem ae7:bp Tryz.prog ay 12 none=ae4:=by kernel_rfl
def QQ:List VT:=[(.one (.agg [.str,.bool,.bool,(.sl 118),(.int .i64),(.sl 86)])),(.one (.c (.sl 43)))]
theorem afV:bp Tryz.prog ay 16 none=QQ:=by kernel_rfl
def Ru:VC:=(.ite (.ic .neq (.len (.var 0)) (.len (.var 1))) (.ret (.lb false) []) (.loop [bg] [(.li .i64 0)] (.ite (.ic .lss (.var 2) (.len (.var 0))) (.rq (.cond [] (.bP (.var 0) (.var 2))) (.rq (.cond [] (.bP (.var 1) (.var 2))) (.rq (.call [] 48 none [(.row [.str,.str,(.int .i64),.str] (.var 0) (.var 2)),(.row [.str,.str,(.int .i64),.str] (.var 1) (.var 2))] dq []) (.ite (.no (.var 3)) (.ret (.lb false) []) (.again 0 [(.ar .add .i64 (.var 2) (.li .i64 1))]))))) (.ret (.lb true) []))))
theorem ahu:bq Tryz.prog ay ba 20 none=Ru:=by kernel_rfl
def aeP:List VT:=[(.one (.c (.sl 43))),(.one (.c (.sl 43)))]
theorem aeQ:bp Tryz.prog ay 20 none=aeP:=by kernel_rfl
def SK:VC:=(.rq (.gA 52 none [(.sub (.var 0) 0 5)] (.one (.agg [.str,.bool,.bool,(.sl 118),(.int .i64)])) [] [(3,2)]) (.rq (.cond [] (.few (.bw 86) (.cell (.var 0) 5))) (.ret (.cat (.ah (.cell (.var 1) 0)) (.cat (.ah (.cell (.var 1) 1)) (.cat (.ah (.cell (.var 1) 2)) (.cat (.ah (.cell (.var 1) 3)) (.cat (.ah (.cell (.var 1) 4)) (.cat (.ah (.app (.bw 86) (.cell (.var 0) 5))) .cB)))))) [])))
theorem aix:bq Tryz.prog ay ba 26 none=SK:=by kernel_rfl
def agQ:List VT:=[(.one (.agg [.str,.bool,.bool,(.sl 118),(.int .i64),(.sl 86)]))]
theorem agR:bp Tryz.prog ay 26 none=agQ:=by kernel_rfl
theorem acH:ba.get 26=[(3,2),(5,2)]:=by kernel_rfl
def Sb:VC:=(.rq (.call [] 55 none [(.var 0),(.len (.cell (.var 0) 5))] bg []) (.ret (.var 1) []))
theorem ah2:bq Tryz.prog ay ba 30 none=Sb:=by kernel_rfl
def afW:List VT:=[(.one (.agg [.str,.bool,.bool,(.sl 118),(.int .i64),(.sl 86)]))]
theorem afX:bp Tryz.prog ay 30 none=afW:=by kernel_rfl
def R0:VC:=(.rq (.cond [] (.an (.ic .leq (.li .i64 0) (.len (.var 0))) (.ic .leq (.len (.var 0)) (.li .i64 4294967296)))) (.loop [bg,(.one (.c (.sl 86)))] [(.li .i64 0),(.rep 86 [.str,(.int .i64)] (.len (.var 0)))] (.ite (.ic .lss (.var 1) (.len (.var 0))) (.rq (.cond [] (.bP (.var 0) (.var 1))) (.rq (.call [] 63 none [(.row [.str,(.int .i64)] (.var 0) (.var 1))] (.one (.agg [.str,(.int .i64)])) []) (.rq (.cond [] (.bP (.mem (.len (.var 0))) (.var 1))) (.again 0 [(.ar .add .i64 (.var 1) (.li .i64 1)),(.aV (.var 2) (.var 1) (.var 3) 0)])))) (.ret (.var 2) []))))
theorem ahX:bq Tryz.prog ay ba 34 none=R0:=by kernel_rfl
def afM:List VT:=[(.one (.c (.sl 83)))]
theorem afN:bp Tryz.prog ay 34 none=afM:=by kernel_rfl
theorem acy:ba.get 34=[(0,2)]:=by kernel_rfl
def Q2:VC:=(.rq (.call [] 67 none [(.var 0),(.len (.cell (.var 0) 5))] bg []) (.ret (.var 1) []))
theorem ag9:bq Tryz.prog ay ba 38 none=Q2:=by kernel_rfl
def aec:List VT:=[(.one (.agg [.str,.bool,.bool,(.sl 118),(.int .i64),(.sl 86)]))]
theorem aed:bp Tryz.prog ay 38 none=aec:=by kernel_rfl
def RA:VC:=(.ite (.ic .neq (.len (.var 0)) (.len (.var 1))) (.ret (.lb false) []) (.loop [bg] [(.li .i64 0)] (.ite (.ic .lss (.var 2) (.len (.var 0))) (.rq (.cond [] (.bP (.var 0) (.var 2))) (.rq (.cond [] (.bP (.var 1) (.var 2))) (.rq (.call [] 76 none [(.row [.str,(.int .i64)] (.var 0) (.var 2)),(.row [.str,(.int .i64)] (.var 1) (.var 2))] dq []) (.ite (.no (.var 3)) (.ret (.lb false) []) (.again 0 [(.ar .add .i64 (.var 2) (.li .i64 1))]))))) (.ret (.lb true) []))))
theorem ahz:bq Tryz.prog ay ba 43 none=RA:=by kernel_rfl
def aeZ:List VT:=[(.one (.c (.sl 86))),(.one (.c (.sl 86)))]
theorem ae0:bp Tryz.prog ay 43 none=aeZ:=by kernel_rfl
def Rt:VC:=(.ite (.sc .neq (.cell (.var 0) 0) (.cell (.var 1) 0)) (.ret (.lb false) []) (.ite (.sc .neq (.cell (.var 0) 1) (.cell (.var 1) 1)) (.ret (.lb false) []) (.ite (.ic .neq (.cell (.var 0) 2) (.cell (.var 1) 2)) (.ret (.lb false) []) (.ite (.sc .neq (.cell (.var 0) 3) (.cell (.var 1) 3)) (.ret (.lb false) []) (.ret (.lb true) [])))))
theorem ahv:bq Tryz.prog ay ba 48 none=Rt:=by kernel_rfl
def aeO:List VT:=[(.one qD),(.one qD)]
theorem aeR:bp Tryz.prog ay 48 none=aeO:=by kernel_rfl
def SE:VC:=(.rq (.cond [] (.few (.bw 118) (.cell (.var 0) 3))) (.ret (.cat (.ah (.cell (.var 0) 0)) (.cat (.ah (.cell (.var 0) 1)) (.cat (.ah (.cell (.var 0) 2)) (.cat (.ah (.app (.bw 118) (.cell (.var 0) 3))) (.cat (.ah (.cell (.var 0) 4)) .cB))))) []))
theorem air:bq Tryz.prog ay ba 52 none=SE:=by kernel_rfl
def agE:List VT:=[(.one (.agg [.str,.bool,.bool,(.sl 118),(.int .i64)]))]
theorem agF:bp Tryz.prog ay 52 none=agE:=by kernel_rfl
theorem acF:ba.get 52=[(3,2)]:=by kernel_rfl
def Sl:VC:=(.loop [bg] [(.li .i64 0)] (.ite (.ic .lss (.var 1) (.len (.var 0))) (.rq (.cond [] (.bP (.var 0) (.var 1))) (.rq (.call [] 83 none [(.at (.var 0) (.var 1)),(.ic .eql (.var 1) (.li .i64 0))] dq []) (.ite (.no (.var 2)) (.ret (.lb false) []) (.again 0 [(.ar .add .i64 (.var 1) (.li .i64 1))])))) (.ret (.an (.ic .gtr (.len (.var 0)) (.li .i64 0)) (.ic .leq (.len (.var 0)) (.li .i64 8))) [])))
theorem ah9:bq Tryz.prog ay ba 56 none=Sl:=by kernel_rfl
def af8:List VT:=[dR]
theorem af9:bp Tryz.prog ay 56 none=af8:=by kernel_rfl
def Sa:VC:=(.rq (.gA 52 none [(.var 0)] (.one (.agg [.str,.bool,.bool,(.sl 118),(.int .i64)])) [] [(3,2)]) (.rq (.call [] 53 none [(.var 0)] dq []) (.rq (.call [((.no (.var 3)),false)] 28 none [(.var 1)] dq []) (.ite (.or (.no (.var 3)) (.no (.var 4))) (.ret (.aI (.aI .bH (.var 2)) (.cat (.ah (.li .i64 7)) (.cat (.ah (.li .i64 0)) (.cat (.ah (.ls ⟨#[]⟩)) (.cat (.ah (.li .i64 0)) (.cat (.ah (.li .i64 0)) .cB)))))) []) (.rq (.call [] 80 none [(.cell (.var 0) 0)] (.aC [(.c (.int .i64)),(.c .bool)]) []) (.rq (.call [] 31 none [(.cell (.var 1) 0)] bg []) (.rq (.call [] 29 none [(.proj (.var 5) 0),(.var 6)] dq []) (.ite (.no (.var 7)) (.rq (.call [] 31 none [(.cell (.var 1) 0)] bg []) (.ret (.aI (.aI .bH (.var 2)) (.cat (.ah (.li .i64 1)) (.cat (.ah (.li .i64 0)) (.cat (.ah (.ls ⟨#[]⟩)) (.cat (.ah (.var 8)) (.cat (.ah (.proj (.var 5) 0)) .cB)))))) [])) (.rq (.call [] 58 none [(.proj (.var 5) 0),(.li .i64 0)] dq []) (.rq (.call [] 86 none [(.var 2),(.var 1),(.var 8)] (.aC [(.agg [.str,.bool,.bool,(.sl 118),(.int .i64)]),uz]) []) (.ret (.aI (.aI .bH (.proj (.var 9) 0)) (.proj (.var 9) 1)) [])))))))))))
theorem ah1:bq Tryz.prog ay ba 60 none=Sa:=by kernel_rfl
def afT:List VT:=[(.one (.agg [.str,.bool,.bool,(.sl 118),(.int .i64)])),(.one qD)]
theorem afU:bp Tryz.prog ay 60 none=afT:=by kernel_rfl
def Q9:VC:=(.rq (.call [] 90 none [(.cell (.var 0) 0)] (.aC [(.c (.int .i64)),(.c .bool)]) []) (.rq (.call [((.no (.proj (.var 1) 1)),false)] 91 none [(.cell (.var 0) 3)] dq []) (.rq (.call [((.or (.or (.no (.proj (.var 1) 1)) (.no (.var 2))) (.an (.ic .gtr (.len (.cell (.var 0) 3)) (.li .i64 0)) (.ic .eql (.ar .and .i64 (.proj (.var 1) 0) (.li .i64 2)) (.li .i64 0)))),false)] 68 none [(.cell (.var 0) 4)] dq []) (.ite (.or (.or (.or (.no (.proj (.var 1) 1)) (.no (.var 2))) (.an (.ic .gtr (.len (.cell (.var 0) 3)) (.li .i64 0)) (.ic .eql (.ar .and .i64 (.proj (.var 1) 0) (.li .i64 2)) (.li .i64 0)))) (.no (.var 3))) (.ret (.lb false) []) (.ret (.an (.no (.an (.cell (.var 0) 1) (.cell (.var 0) 2))) (.or (.ic .eql (.ar .and .i64 (.proj (.var 1) 0) (.li .i64 1)) (.li .i64 1)) (.an (.no (.cell (.var 0) 1)) (.no (.cell (.var 0) 2))))) [])))))
theorem ahe:bq Tryz.prog ay ba 65 none=Q9:=by kernel_rfl
def ael:List VT:=[(.one (.agg [.str,.bool,.bool,(.sl 118),(.int .i64)]))]
theorem aem:bp Tryz.prog ay 65 none=ael:=by kernel_rfl
def Q0:VC:=(.loop [bg] [(.li .i64 0)] (.ite (.ic .lss (.var 1) (.li .i64 6)) (.rq (.call [] 93 none [(.var 1)] (.one (.c (.sl 9))) []) (.rq (.call [] 92 none [(.var 2),(.var 0)] dq []) (.ite (.var 3) (.ret (.var 1) []) (.again 0 [(.ar .add .i64 (.var 1) (.li .i64 1))])))) (.ret (.li .i64 (-1)) [])))
theorem ag7:bq Tryz.prog ay ba 69 none=Q0:=by kernel_rfl
def ad8:List VT:=[dR]
theorem ad9:bp Tryz.prog ay 69 none=ad8:=by kernel_rfl
def Rx:VC:=(.ite (.ic .neq (.len (.var 0)) (.len (.var 1))) (.ret (.lb false) []) (.loop [bg] [(.li .i64 0)] (.ite (.ic .lss (.var 2) (.len (.var 0))) (.rq (.cond [] (.bP (.var 0) (.var 2))) (.rq (.cond [] (.bP (.var 1) (.var 2))) (.rq (.call [] 97 none [(.row [.str,(.int .i64)] (.var 0) (.var 2)),(.row [.str,(.int .i64)] (.var 1) (.var 2))] dq []) (.ite (.no (.var 3)) (.ret (.lb false) []) (.again 0 [(.ar .add .i64 (.var 2) (.li .i64 1))]))))) (.ret (.lb true) []))))
theorem ahw:bq Tryz.prog ay ba 75 none=Rx:=by kernel_rfl
def aeT:List VT:=[(.one (.c (.sl 118))),(.one (.c (.sl 118)))]
theorem aeU:bp Tryz.prog ay 75 none=aeT:=by kernel_rfl
def aic:VC:=(.loop [bg] [(.li .i64 0)] (.ite (.ic .lss (.var 1) (.len (.put (.put (.put (.put (.put (.put (.put (.put (.bw 9) (.ah (.ls ⟨#[115,116,111,110,101]⟩))) (.ah (.ls ⟨#[108,97,109,112]⟩))) (.ah (.ls ⟨#[115,104,101,108,102]⟩))) (.ah (.ls ⟨#[109,101,116,101,114]⟩))) (.ah (.ls ⟨#[100,114,97,119,101,114]⟩))) (.ah (.ls ⟨#[104,111,114,110]⟩))) (.ah (.ls ⟨#[118,97,117,108,116]⟩))) (.ah (.ls ⟨#[114,111,98,111,116]⟩))))) (.rq (.cond [] (.bP (.put (.put (.put (.put (.put (.put (.put (.put (.bw 9) (.ah (.ls ⟨#[115,116,111,110,101]⟩))) (.ah (.ls ⟨#[108,97,109,112]⟩))) (.ah (.ls ⟨#[115,104,101,108,102]⟩))) (.ah (.ls ⟨#[109,101,116,101,114]⟩))) (.ah (.ls ⟨#[100,114,97,119,101,114]⟩))) (.ah (.ls ⟨#[104,111,114,110]⟩))) (.ah (.ls ⟨#[118,97,117,108,116]⟩))) (.ah (.ls ⟨#[114,111,98,111,116]⟩))) (.var 1))) (.ite (.sc .eql (.cell (.row [.str] (.put (.put (.put (.put (.put (.put (.put (.put (.bw 9) (.ah (.ls ⟨#[115,116,111,110,101]⟩))) (.ah (.ls ⟨#[108,97,109,112]⟩))) (.ah (.ls ⟨#[115,104,101,108,102]⟩))) (.ah (.ls ⟨#[109,101,116,101,114]⟩))) (.ah (.ls ⟨#[100,114,97,119,101,114]⟩))) (.ah (.ls ⟨#[104,111,114,110]⟩))) (.ah (.ls ⟨#[118,97,117,108,116]⟩))) (.ah (.ls ⟨#[114,111,98,111,116]⟩))) (.var 1)) 0) (.var 0)) (.rq (.cond [] (.bP (.put (.put (.put (.put (.put (.put (.put (.put (.bw 3) (.ah (.li .i64 0))) (.ah (.li .i64 1))) (.ah (.li .i64 2))) (.ah (.li .i64 5))) (.ah (.li .i64 3))) (.ah (.li .i64 9))) (.ah (.li .i64 19))) (.ah (.li .i64 63))) (.var 1))) (.ret (.aI (.aI .bH (.cell (.row [(.int .i64)] (.put (.put (.put (.put (.put (.put (.put (.put (.bw 3) (.ah (.li .i64 0))) (.ah (.li .i64 1))) (.ah (.li .i64 2))) (.ah (.li .i64 5))) (.ah (.li .i64 3))) (.ah (.li .i64 9))) (.ah (.li .i64 19))) (.ah (.li .i64 63))) (.var 1)) 0)) (.lb true)) [])) (.again 0 [(.ar .add .i64 (.var 1) (.li .i64 1))]))) (.ret (.aI (.aI .bH (.li .i64 0)) (.lb false)) [])))
theorem aid:bq Tryz.prog ay ba 80 none=aic:=by kernel_rfl
def age:List VT:=[dR]
theorem agf:bp Tryz.prog ay 80 none=age:=by kernel_rfl
def Sx:VC:=(.loop [bg] [(.li .i64 0)] (.ite (.ic .lss (.var 2) (.len (.var 0))) (.rq (.cond [] (.bP (.var 0) (.var 2))) (.ite (.sc .eql (.cell (.row [.str] (.var 0) (.var 2)) 0) (.var 1)) (.ret (.lb true) []) (.again 0 [(.ar .add .i64 (.var 2) (.li .i64 1))]))) (.ret (.lb false) [])))
theorem ail:bq Tryz.prog ay ba 84 none=Sx:=by kernel_rfl
def agt:List VT:=[(.one (.c (.sl 9))),dR]
theorem agu:bp Tryz.prog ay 84 none=agt:=by kernel_rfl
def Sz:VC:=(.ite (.ic .lss (.var 0) (.var 1)) (.ret (.var 0) []) (.ret (.var 1) []))
theorem ain:bq Tryz.prog ay ba 88 none=Sz:=by kernel_rfl
def agx:List VT:=[bg,bg]
theorem agy:bp Tryz.prog ay 88 none=agx:=by kernel_rfl
def Ro:VC:=(.loop [bg] [(.li .i64 0)] (.ite (.ic .lss (.var 2) (.len (.var 0))) (.rq (.cond [] (.bP (.var 0) (.var 2))) (.ite (.sc .eql (.cell (.row [.str] (.var 0) (.var 2)) 0) (.var 1)) (.ret (.lb true) []) (.again 0 [(.ar .add .i64 (.var 2) (.li .i64 1))]))) (.ret (.lb false) [])))
theorem ahq:bq Tryz.prog ay ba 92 none=Ro:=by kernel_rfl
def aeH:List VT:=[(.one (.c (.sl 9))),dR]
theorem aeI:bp Tryz.prog ay 92 none=aeH:=by kernel_rfl
def SG:VC:=(.rq (.call [] 107 none [(.cell (.var 0) 3),(.cell (.var 1) 1)] bg []) (.ite (.an (.var 2) (.no (.cell (.var 0) 1))) (.ret (.aI (.aI .bH (.var 0)) (.cat (.ah (.li .i64 2)) (.cat (.ah (.li .i64 0)) (.cat (.ah (.ls ⟨#[]⟩)) (.cat (.ah (.li .i64 0)) (.cat (.ah (.li .i64 0)) .cB)))))) []) (.ite (.an (.sc .eql (.cell (.var 1) 0) (.ls ⟨#[71,101,116]⟩)) (.ic .lss (.var 3) (.li .i64 0))) (.ret (.aI (.aI .bH (.var 0)) (.cat (.ah (.li .i64 4)) (.cat (.ah (.li .i64 0)) (.cat (.ah (.ls ⟨#[]⟩)) (.cat (.ah (.li .i64 0)) (.cat (.ah (.li .i64 0)) .cB)))))) []) (.ite (.sc .eql (.cell (.var 1) 0) (.ls ⟨#[71,101,116]⟩)) (.rq (.cond [] (.bP (.cell (.var 0) 3) (.var 3))) (.ret (.aI (.aI .bH (.var 0)) (.cat (.ah (.li .i64 0)) (.cat (.ah (.cell (.row [.str,(.int .i64)] (.cell (.var 0) 3) (.var 3)) 1)) (.cat (.ah (.ls ⟨#[]⟩)) (.cat (.ah (.li .i64 0)) (.cat (.ah (.li .i64 0)) .cB)))))) [])) (.ite (.an (.ic .lss (.var 3) (.li .i64 0)) (.ic .eql (.len (.cell (.var 0) 3)) (.li .i64 4))) (.ret (.aI (.aI .bH (.var 0)) (.cat (.ah (.li .i64 5)) (.cat (.ah (.li .i64 0)) (.cat (.ah (.ls ⟨#[]⟩)) (.cat (.ah (.li .i64 0)) (.cat (.ah (.li .i64 0)) .cB)))))) []) (.rq (.gA 108 none [(.cell (.var 0) 3),(.cell (.var 1) 1),(.cell (.var 1) 2)] (.one (.c (.sl 118))) [] [(0,2)]) (.rq (.call [] 87 none [(.cell (.var 0) 4)] bg []) (.ret (.aI (.aI .bH (.cat (.ah (.cell (.var 0) 0)) (.cat (.ah (.cell (.var 0) 1)) (.cat (.ah (.cell (.var 0) 2)) (.cat (.ah (.var 4)) (.cat (.ah (.var 5)) .cB)))))) (.cat (.ah (.li .i64 0)) (.cat (.ah (.len (.var 4))) (.cat (.ah (.ls ⟨#[]⟩)) (.cat (.ah (.li .i64 0)) (.cat (.ah (.li .i64 0)) .cB)))))) []))))))))
theorem ait:bq Tryz.prog ay ba 98 none=SG:=by kernel_rfl
def agI:List VT:=[(.one (.agg [.str,.bool,.bool,(.sl 118),(.int .i64)])),(.one qD),dq]
theorem agJ:bp Tryz.prog ay 98 none=agI:=by kernel_rfl
def Q4:VC:=(.rq (.call [] 113 none [(.var 0)] dR []) (.ret (.var 1) []))
theorem ahb:bq Tryz.prog ay ba 102 none=Q4:=by kernel_rfl
def QJ:List VT:=[bg]
theorem aeg:bp Tryz.prog ay 102 none=QJ:=by kernel_rfl
def SH:VC:=(.loop [dq,(.one (.c (.sl 118))),bg] [(.lb false),(.bw 118),(.li .i64 0)] (.ite (.ic .lss (.var 5) (.len (.var 0))) (.rq (.cond [] (.bP (.var 0) (.var 5))) (.ite (.an (.no (.var 3)) (.sc .geq (.cell (.row [.str,(.int .i64)] (.var 0) (.var 5)) 0) (.var 1))) (.rq (.cond [] (.few (.var 4) (.put (.bw 118) (.cat (.ah (.var 1)) (.cat (.ah (.var 2)) .cB))))) (.ite (.sc .neq (.cell (.row [.str,(.int .i64)] (.var 0) (.var 5)) 0) (.var 1)) (.rq (.cond [] (.few (.app (.var 4) (.put (.bw 118) (.cat (.ah (.var 1)) (.cat (.ah (.var 2)) .cB)))) (.put (.bw 118) (.row [.str,(.int .i64)] (.var 0) (.var 5))))) (.again 0 [(.lb true),(.app (.app (.var 4) (.put (.bw 118) (.cat (.ah (.var 1)) (.cat (.ah (.var 2)) .cB)))) (.put (.bw 118) (.row [.str,(.int .i64)] (.var 0) (.var 5)))),(.ar .add .i64 (.var 5) (.li .i64 1))])) (.again 0 [(.lb true),(.app (.var 4) (.put (.bw 118) (.cat (.ah (.var 1)) (.cat (.ah (.var 2)) .cB)))),(.ar .add .i64 (.var 5) (.li .i64 1))]))) (.ite (.sc .neq (.cell (.row [.str,(.int .i64)] (.var 0) (.var 5)) 0) (.var 1)) (.rq (.cond [] (.few (.var 4) (.put (.bw 118) (.row [.str,(.int .i64)] (.var 0) (.var 5))))) (.again 0 [(.var 3),(.app (.var 4) (.put (.bw 118) (.row [.str,(.int .i64)] (.var 0) (.var 5)))),(.ar .add .i64 (.var 5) (.li .i64 1))])) (.again 0 [(.var 3),(.var 4),(.ar .add .i64 (.var 5) (.li .i64 1))])))) (.ite (.no (.var 3)) (.rq (.cond [] (.few (.var 4) (.put (.bw 118) (.cat (.ah (.var 1)) (.cat (.ah (.var 2)) .cB))))) (.ret (.app (.var 4) (.put (.bw 118) (.cat (.ah (.var 1)) (.cat (.ah (.var 2)) .cB)))) [])) (.ret (.var 4) []))))
theorem aiu:bq Tryz.prog ay ba 108 none=SH:=by kernel_rfl
def agK:List VT:=[(.one (.c (.sl 118))),dR,bg]
theorem agL:bp Tryz.prog ay 108 none=agK:=by kernel_rfl
theorem acG:ba.get 108=[(0,2)]:=by kernel_rfl
def Su:VC:=(.loop [bg,bg] [(.li .i64 0),(.li .i64 0)] (.ite (.an (.ic .lss (.var 2) (.len (.var 0))) (.ic .lss (.var 2) (.li .i64 4))) (.rq (.cond [] (.bP (.var 0) (.var 2))) (.again 0 [(.ar .sub .i64 (.ar .add .i64 (.ar .mul .i64 (.li .i64 10) (.var 1)) (.conv .i64 (.at (.var 0) (.var 2)))) (.li .i64 48)),(.ar .add .i64 (.var 2) (.li .i64 1))])) (.rq (.call [((.or (.or (.ic .eql (.len (.var 0)) (.li .i64 0)) (.ic .lss (.var 1) (.li .i64 0))) (.ic .gtr (.var 1) (.li .i64 999))),false)] 109 none [(.var 1)] dR []) (.ite (.or (.or (.or (.ic .eql (.len (.var 0)) (.li .i64 0)) (.ic .lss (.var 1) (.li .i64 0))) (.ic .gtr (.var 1) (.li .i64 999))) (.sc .neq (.var 3) (.var 0))) (.ret (.aI (.aI .bH (.li .i64 0)) (.lb false)) []) (.ret (.aI (.aI .bH (.var 1)) (.lb true)) [])))))
theorem aii:bq Tryz.prog ay ba 112 none=Su:=by kernel_rfl
def QT:List VT:=[dR]
theorem agn:bp Tryz.prog ay 112 none=QT:=by kernel_rfl
end
section
open Go
set_option maxRecDepth 1000000
def R3:VC:=(.rq (.gA 33 none [(.sub (.var 0) 0 5)] (.one (.agg [.str,.bool,.bool,(.sl 118),(.int .i64)])) [] [(3,2)]) (.rq (.gA 34 none [(.cell (.var 0) 5)] (.one (.c (.sl 86))) [] [(0,2)]) (.ret (.cat (.ah (.cell (.var 1) 0)) (.cat (.ah (.cell (.var 1) 1)) (.cat (.ah (.cell (.var 1) 2)) (.cat (.ah (.cell (.var 1) 3)) (.cat (.ah (.cell (.var 1) 4)) (.cat (.ah (.var 2)) .cB)))))) [])))
theorem ahZ:bq Tryz.prog ay ba 8 none=R3:=by kernel_rfl
def afP:List VT:=[(.one (.agg [.str,.bool,.bool,(.sl 110),(.int .i64),(.sl 83)]))]
theorem afQ:bp Tryz.prog ay 8 none=afP:=by kernel_rfl
theorem acz:ba.get 8=[(3,2),(5,2)]:=by kernel_rfl
def RV:VC:=(.rq (.cond [] (.an (.ic .leq (.li .i64 0) (.len (.var 0))) (.ic .leq (.len (.var 0)) (.li .i64 4294967296)))) (.loop [bg,(.one (.c (.sl 43)))] [(.li .i64 0),(.rep 43 [.str,.str,(.int .i64),.str] (.len (.var 0)))] (.ite (.ic .lss (.var 1) (.len (.var 0))) (.rq (.cond [] (.bP (.var 0) (.var 1))) (.rq (.call [] 9 none [(.row [.str,.str,(.int .i64),.str] (.var 0) (.var 1))] (.one qD) []) (.rq (.cond [] (.bP (.mem (.len (.var 0))) (.var 1))) (.again 0 [(.ar .add .i64 (.var 1) (.li .i64 1)),(.aV (.var 2) (.var 1) (.var 3) 0)])))) (.ret (.var 2) []))))
theorem ahS:bq Tryz.prog ay ba 17 none=RV:=by kernel_rfl
def afC:List VT:=[(.one (.c (.sl 29)))]
theorem afD:bp Tryz.prog ay 17 none=afC:=by kernel_rfl
theorem acv:ba.get 17=[(0,4)]:=by kernel_rfl
def RJ:VC:=(.loop [bg,bg] [(.var 1),(.li .i64 0)] (.ite (.ic .lss (.var 3) (.len (.var 0))) (.rq (.cond [] (.bP (.var 0) (.var 3))) (.ite (.ic .neq (.cell (.row [(.int .i64),(.int .i64),.str,(.int .i64),(.int .i64)] (.var 0) (.var 3)) 0) (.var 2)) (.ret (.li .i64 (-1)) []) (.rq (.cond [] (.bP (.var 0) (.var 3))) (.ite (.ic .neq (.cell (.row [(.int .i64),(.int .i64),.str,(.int .i64),(.int .i64)] (.var 0) (.var 3)) 1) (.ar .add .i64 (.var 2) (.li .i64 1))) (.ret (.li .i64 (-1)) []) (.rq (.cond [] (.bP (.var 0) (.var 3))) (.rq (.call [] 49 none [(.ar .add .i64 (.ar .add .i64 (.var 2) (.li .i64 1)) (.li .i64 1))] dR []) (.ite (.sc .neq (.cell (.row [(.int .i64),(.int .i64),.str,(.int .i64),(.int .i64)] (.var 0) (.var 3)) 2) (.var 4)) (.ret (.li .i64 (-1)) []) (.rq (.cond [] (.bP (.var 0) (.var 3))) (.ite (.ic .neq (.cell (.row [(.int .i64),(.int .i64),.str,(.int .i64),(.int .i64)] (.var 0) (.var 3)) 3) (.ar .add .i64 (.ar .add .i64 (.ar .add .i64 (.var 2) (.li .i64 1)) (.li .i64 1)) (.li .i64 1))) (.ret (.li .i64 (-1)) []) (.rq (.cond [] (.bP (.var 0) (.var 3))) (.ite (.ic .neq (.cell (.row [(.int .i64),(.int .i64),.str,(.int .i64),(.int .i64)] (.var 0) (.var 3)) 4) (.ar .add .i64 (.ar .add .i64 (.ar .add .i64 (.ar .add .i64 (.var 2) (.li .i64 1)) (.li .i64 1)) (.li .i64 1)) (.li .i64 1))) (.ret (.li .i64 (-1)) []) (.again 0 [(.ar .add .i64 (.ar .add .i64 (.ar .add .i64 (.ar .add .i64 (.ar .add .i64 (.var 2) (.li .i64 1)) (.li .i64 1)) (.li .i64 1)) (.li .i64 1)) (.li .i64 1)),(.ar .add .i64 (.var 3) (.li .i64 1))])))))))))))) (.ret (.var 2) [])))
theorem ahI:bq Tryz.prog ay ba 23 none=RJ:=by kernel_rfl
def afg:List VT:=[(.one (.c (.sl 39))),bg]
theorem afh:bp Tryz.prog ay 23 none=afg:=by kernel_rfl
def Sn:VC:=(.rq (.call [] 53 none [(.sub (.var 0) 0 5)] dq []) (.ite (.or (.no (.var 1)) (.ic .gtr (.len (.cell (.var 0) 5)) (.li .i64 3))) (.ret (.lb false) []) (.loop [bg] [(.li .i64 0)] (.ite (.ic .lss (.var 2) (.len (.cell (.var 0) 5))) (.rq (.cond [] (.bP (.cell (.var 0) 5) (.var 2))) (.rq (.call [] 54 none [(.cell (.row [.str,(.int .i64)] (.cell (.var 0) 5) (.var 2)) 0)] (.aC [(.c (.int .i64)),(.c .bool)]) []) (.rq (.call [((.no (.proj (.var 3) 1)),false)] 55 none [(.var 0),(.var 2)] bg []) (.rq (.call [((.no (.proj (.var 3) 1)),false)] 29 none [(.var 4),(.proj (.var 3) 0)] dq []) (.ite (.or (.or (.or (.or (.no (.proj (.var 3) 1)) (.no (.var 5))) (.ic .lss (.cell (.row [.str,(.int .i64)] (.cell (.var 0) 5) (.var 2)) 1) (.li .i64 0))) (.ic .gtr (.cell (.row [.str,(.int .i64)] (.cell (.var 0) 5) (.var 2)) 1) (.li .i64 999))) (.an (.ic .gtr (.cell (.row [.str,(.int .i64)] (.cell (.var 0) 5) (.var 2)) 1) (.li .i64 0)) (.no (.or (.sc .eql (.cell (.row [.str,(.int .i64)] (.cell (.var 0) 5) (.var 2)) 0) (.ls ⟨#[99,111,117,110,116,115]⟩)) (.sc .eql (.cell (.row [.str,(.int .i64)] (.cell (.var 0) 5) (.var 2)) 0) (.ls ⟨#[104,101,97,114,115]⟩)))))) (.ret (.lb false) []) (.again 0 [(.ar .add .i64 (.var 2) (.li .i64 1))])))))) (.ret (.lb true) [])))))
theorem aia:bq Tryz.prog ay ba 27 none=Sn:=by kernel_rfl
def aga:List VT:=[(.one (.agg [.str,.bool,.bool,(.sl 118),(.int .i64),(.sl 86)]))]
theorem agb:bp Tryz.prog ay 27 none=aga:=by kernel_rfl
def Sw:VC:=(.rq (.call [] 59 none [(.var 0)] bg []) (.ite (.ic .lss (.var 1) (.li .i64 0)) (.ret (.li .i64 0) []) (.rq (.cond [] (.ic .geq (.var 1) (.li .i64 0))) (.ret (.ar .shl .i64 (.li .i64 1) (.var 1)) []))))
theorem aik:bq Tryz.prog ay ba 31 none=Sw:=by kernel_rfl
def agq:List VT:=[dR]
theorem ags:bp Tryz.prog ay 31 none=agq:=by kernel_rfl
def Rm:VC:=(.rq (.gA 64 none [(.sub (.var 0) 0 5)] (.one (.agg [.str,.bool,.bool,(.sl 118),(.int .i64)])) [] [(3,2)]) (.rq (.cond [] (.few (.bw 86) (.cell (.var 0) 5))) (.ret (.cat (.ah (.cell (.var 1) 0)) (.cat (.ah (.cell (.var 1) 1)) (.cat (.ah (.cell (.var 1) 2)) (.cat (.ah (.cell (.var 1) 3)) (.cat (.ah (.cell (.var 1) 4)) (.cat (.ah (.app (.bw 86) (.cell (.var 0) 5))) .cB)))))) [])))
theorem aho:bq Tryz.prog ay ba 35 none=Rm:=by kernel_rfl
def aeD:List VT:=[(.one (.agg [.str,.bool,.bool,(.sl 118),(.int .i64),(.sl 86)]))]
theorem aeE:bp Tryz.prog ay 35 none=aeD:=by kernel_rfl
theorem acu:ba.get 35=[(3,2),(5,2)]:=by kernel_rfl
def Ri:VC:=(.rq (.call [] 69 none [(.var 0)] bg []) (.ite (.ic .lss (.var 1) (.li .i64 0)) (.ret (.li .i64 0) []) (.rq (.cond [] (.ic .geq (.var 1) (.li .i64 0))) (.ret (.ar .shl .i64 (.li .i64 1) (.var 1)) []))))
theorem ahm:bq Tryz.prog ay ba 39 none=Ri:=by kernel_rfl
def aez:List VT:=[dR]
theorem aeA:bp Tryz.prog ay 39 none=aez:=by kernel_rfl
def RL:VC:=(.ite (.ic .leq (.var 0) (.li .i64 0)) (.ret (.ls ⟨#[109,48]⟩) []) (.loop [dR,bg] [(.ls ⟨#[]⟩),(.var 0)] (.ite (.ic .gtr (.var 2) (.li .i64 0)) (.rq (.cond [] (.ic .neq (.li .i64 10) (.li .i64 0))) (.rq (.cond [] (.kE (.qb (.put (.bw 5) (.ah (.conv .u8 (.ar .add .i64 (.li .i64 48) (.ar .rem .i64 (.var 2) (.li .i64 10))))))) (.var 1))) (.rq (.cond [] (.ic .neq (.li .i64 10) (.li .i64 0))) (.again 0 [(.iG (.qb (.put (.bw 5) (.ah (.conv .u8 (.ar .add .i64 (.li .i64 48) (.ar .rem .i64 (.var 2) (.li .i64 10))))))) (.var 1)),(.ar .quo .i64 (.var 2) (.li .i64 10))])))) (.rq (.cond [] (.kE (.ls ⟨#[109]⟩) (.var 1))) (.ret (.iG (.ls ⟨#[109]⟩) (.var 1)) [])))))
theorem ahJ:bq Tryz.prog ay ba 49 none=RL:=by kernel_rfl
def afi:List VT:=[bg]
theorem afj:bp Tryz.prog ay 49 none=afi:=by kernel_rfl
def Sj:VC:=(.rq (.call [] 80 none [(.cell (.var 0) 0)] (.aC [(.c (.int .i64)),(.c .bool)]) []) (.rq (.call [] 58 none [(.proj (.var 1) 0),(.li .i64 0)] dq []) (.rq (.call [((.no (.proj (.var 1) 1)),false)] 81 none [(.cell (.var 0) 3)] dq []) (.rq (.call [((.or (.no (.proj (.var 1) 1)) (.no (.var 3))),false),((.ic .gtr (.len (.cell (.var 0) 3)) (.li .i64 0)),true)] 58 none [(.proj (.var 1) 0),(.li .i64 1)] dq []) (.ite (.or (.or (.or (.or (.no (.proj (.var 1) 1)) (.no (.var 3))) (.an (.ic .gtr (.len (.cell (.var 0) 3)) (.li .i64 0)) (.no (.var 4)))) (.ic .lss (.cell (.var 0) 4) (.li .i64 0))) (.ic .gtr (.cell (.var 0) 4) (.li .i64 999))) (.ret (.lb false) []) (.ret (.an (.or (.var 2) (.an (.no (.cell (.var 0) 1)) (.no (.cell (.var 0) 2)))) (.no (.an (.cell (.var 0) 1) (.cell (.var 0) 2)))) []))))))
theorem ah7:bq Tryz.prog ay ba 53 none=Sj:=by kernel_rfl
def af5:List VT:=[(.one (.agg [.str,.bool,.bool,(.sl 118),(.int .i64)]))]
theorem af6:bp Tryz.prog ay 53 none=af5:=by kernel_rfl
def Sk:VC:=(.ret (.an (.ic .geq (.var 0) (.li .i64 0)) (.ic .leq (.var 0) (.li .i64 63))) [])
theorem ah8:bq Tryz.prog ay ba 57 none=Sk:=by kernel_rfl
def QS:List VT:=[bg]
theorem af7:bp Tryz.prog ay 57 none=QS:=by kernel_rfl
def RX:VC:=(.rq (.cond [] (.an (.ic .leq (.li .i64 0) (.len (.var 0))) (.ic .leq (.len (.var 0)) (.li .i64 4294967296)))) (.loop [bg,(.one (.c (.sl 118)))] [(.li .i64 0),(.rep 118 [.str,(.int .i64)] (.len (.var 0)))] (.ite (.ic .lss (.var 1) (.len (.var 0))) (.rq (.cond [] (.bP (.var 0) (.var 1))) (.rq (.call [] 89 none [(.row [.str,(.int .i64)] (.var 0) (.var 1))] (.one (.agg [.str,(.int .i64)])) []) (.rq (.cond [] (.bP (.mem (.len (.var 0))) (.var 1))) (.again 0 [(.ar .add .i64 (.var 1) (.li .i64 1)),(.aV (.var 2) (.var 1) (.var 3) 0)])))) (.ret (.var 2) []))))
theorem ahU:bq Tryz.prog ay ba 62 none=RX:=by kernel_rfl
def afG:List VT:=[(.one (.c (.sl 110)))]
theorem afH:bp Tryz.prog ay 62 none=afG:=by kernel_rfl
theorem acw:ba.get 62=[(0,2)]:=by kernel_rfl
def Rp:VC:=(.ite (.sc .eql (.var 0) (.ls ⟨#[112,108,97,105,110]⟩)) (.ret (.aI (.aI (.aI .bH (.li .i64 0)) (.li .i64 0)) (.lb true)) []) (.ite (.sc .eql (.var 0) (.ls ⟨#[114,117,110,115]⟩)) (.ret (.aI (.aI (.aI .bH (.li .i64 1)) (.li .i64 1)) (.lb true)) []) (.ite (.sc .eql (.var 0) (.ls ⟨#[107,101,101,112,115]⟩)) (.ite (.sc .eql (.var 0) (.ls ⟨#[107,101,101,112,115]⟩)) (.ret (.aI (.aI (.aI .bH (.li .i64 2)) (.li .i64 2)) (.lb true)) []) (.ite (.sc .eql (.var 0) (.ls ⟨#[99,111,117,110,116,115]⟩)) (.ret (.aI (.aI (.aI .bH (.li .i64 2)) (.li .i64 6)) (.lb true)) []) (.ite (.sc .eql (.var 0) (.ls ⟨#[108,97,122,121]⟩)) (.ret (.aI (.aI (.aI .bH (.li .i64 3)) (.li .i64 3)) (.lb true)) []) (.ite (.sc .eql (.var 0) (.ls ⟨#[104,101,97,114,115]⟩)) (.ret (.aI (.aI (.aI .bH (.li .i64 1)) (.li .i64 9)) (.lb true)) []) (.ite (.sc .eql (.var 0) (.ls ⟨#[104,101,97,108,115]⟩)) (.ret (.aI (.aI (.aI .bH (.li .i64 1)) (.li .i64 33)) (.lb true)) []) (.ite (.sc .eql (.var 0) (.ls ⟨#[116,119,105,99,101]⟩)) (.ret (.aI (.aI (.aI .bH (.li .i64 4)) (.li .i64 4)) (.lb true)) []) (.ret (.aI (.aI (.aI .bH (.li .i64 0)) (.li .i64 0)) (.lb false)) []))))))) (.ite (.sc .eql (.var 0) (.ls ⟨#[114,101,97,100,115]⟩)) (.ret (.aI (.aI (.aI .bH (.li .i64 2)) (.li .i64 2)) (.lb true)) []) (.ite (.sc .eql (.var 0) (.ls ⟨#[99,111,117,110,116,115]⟩)) (.ret (.aI (.aI (.aI .bH (.li .i64 2)) (.li .i64 6)) (.lb true)) []) (.ite (.sc .eql (.var 0) (.ls ⟨#[108,97,122,121]⟩)) (.ret (.aI (.aI (.aI .bH (.li .i64 3)) (.li .i64 3)) (.lb true)) []) (.ite (.sc .eql (.var 0) (.ls ⟨#[104,101,97,114,115]⟩)) (.ret (.aI (.aI (.aI .bH (.li .i64 1)) (.li .i64 9)) (.lb true)) []) (.ite (.sc .eql (.var 0) (.ls ⟨#[104,101,97,108,115]⟩)) (.ret (.aI (.aI (.aI .bH (.li .i64 1)) (.li .i64 33)) (.lb true)) []) (.ite (.sc .eql (.var 0) (.ls ⟨#[116,119,105,99,101]⟩)) (.ret (.aI (.aI (.aI .bH (.li .i64 4)) (.li .i64 4)) (.lb true)) []) (.ret (.aI (.aI (.aI .bH (.li .i64 0)) (.li .i64 0)) (.lb false)) []))))))))))
theorem aht:bq Tryz.prog ay ba 66 none=Rp:=by kernel_rfl
def aeL:List VT:=[dR]
theorem aeM:bp Tryz.prog ay 66 none=aeL:=by kernel_rfl
def Rb:VC:=(.rq (.cond [((.or (.ic .lss (.len (.var 0)) (.li .i64 1)) (.ic .gtr (.len (.var 0)) (.li .i64 8))),false)] (.bP (.var 0) (.li .i64 0))) (.rq (.cond [((.or (.or (.ic .lss (.len (.var 0)) (.li .i64 1)) (.ic .gtr (.len (.var 0)) (.li .i64 8))) (.ic .lss (.at (.var 0) (.li .i64 0)) (.li .u8 97))),false)] (.bP (.var 0) (.li .i64 0))) (.ite (.or (.or (.or (.ic .lss (.len (.var 0)) (.li .i64 1)) (.ic .gtr (.len (.var 0)) (.li .i64 8))) (.ic .lss (.at (.var 0) (.li .i64 0)) (.li .u8 97))) (.ic .gtr (.at (.var 0) (.li .i64 0)) (.li .u8 122))) (.ret (.lb false) []) (.loop [bg] [(.li .i64 0)] (.ite (.ic .lss (.var 1) (.len (.var 0))) (.rq (.cond [] (.bP (.var 0) (.var 1))) (.rq (.cond [((.ic .lss (.at (.var 0) (.var 1)) (.li .u8 97)),false)] (.bP (.var 0) (.var 1))) (.rq (.cond [((.or (.ic .lss (.at (.var 0) (.var 1)) (.li .u8 97)) (.ic .gtr (.at (.var 0) (.var 1)) (.li .u8 122))),true)] (.bP (.var 0) (.var 1))) (.rq (.cond [((.or (.ic .lss (.at (.var 0) (.var 1)) (.li .u8 97)) (.ic .gtr (.at (.var 0) (.var 1)) (.li .u8 122))),true),((.ic .lss (.at (.var 0) (.var 1)) (.li .u8 48)),false)] (.bP (.var 0) (.var 1))) (.ite (.an (.or (.ic .lss (.at (.var 0) (.var 1)) (.li .u8 97)) (.ic .gtr (.at (.var 0) (.var 1)) (.li .u8 122))) (.or (.ic .lss (.at (.var 0) (.var 1)) (.li .u8 48)) (.ic .gtr (.at (.var 0) (.var 1)) (.li .u8 57)))) (.ret (.lb false) []) (.again 0 [(.ar .add .i64 (.var 1) (.li .i64 1))])))))) (.ret (.lb true) []))))))
theorem ahg:bq Tryz.prog ay ba 70 none=Rb:=by kernel_rfl
def aeo:List VT:=[dR]
theorem aep:bp Tryz.prog ay 70 none=aeo:=by kernel_rfl
def Rz:VC:=(.ite (.sc .neq (.cell (.var 0) 0) (.cell (.var 1) 0)) (.ret (.lb false) []) (.ite (.ic .neq (.cell (.var 0) 1) (.cell (.var 1) 1)) (.ret (.lb false) []) (.ret (.lb true) [])))
theorem ahA:bq Tryz.prog ay ba 76 none=Rz:=by kernel_rfl
def aeY:List VT:=[(.one (.agg [.str,(.int .i64)])),(.one (.agg [.str,(.int .i64)]))]
theorem ae1:bp Tryz.prog ay 76 none=aeY:=by kernel_rfl
def Si:VC:=(.loop [bg] [(.li .i64 0)] (.ite (.ic .lss (.var 1) (.len (.var 0))) (.rq (.cond [] (.bP (.var 0) (.var 1))) (.rq (.call [] 56 none [(.cell (.row [.str,(.int .i64)] (.var 0) (.var 1)) 0)] dq []) (.rq (.cond [((.or (.or (.no (.var 2)) (.ic .lss (.cell (.row [.str,(.int .i64)] (.var 0) (.var 1)) 1) (.li .i64 0))) (.ic .gtr (.cell (.row [.str,(.int .i64)] (.var 0) (.var 1)) 1) (.li .i64 999))),false),((.ic .gtr (.var 1) (.li .i64 0)),true)] (.bP (.var 0) (.ar .sub .i64 (.var 1) (.li .i64 1)))) (.ite (.or (.or (.or (.no (.var 2)) (.ic .lss (.cell (.row [.str,(.int .i64)] (.var 0) (.var 1)) 1) (.li .i64 0))) (.ic .gtr (.cell (.row [.str,(.int .i64)] (.var 0) (.var 1)) 1) (.li .i64 999))) (.an (.ic .gtr (.var 1) (.li .i64 0)) (.sc .geq (.cell (.row [.str,(.int .i64)] (.var 0) (.ar .sub .i64 (.var 1) (.li .i64 1))) 0) (.cell (.row [.str,(.int .i64)] (.var 0) (.var 1)) 0)))) (.ret (.lb false) []) (.again 0 [(.ar .add .i64 (.var 1) (.li .i64 1))]))))) (.ret (.ic .leq (.len (.var 0)) (.li .i64 4)) [])))
theorem ah6:bq Tryz.prog ay ba 81 none=Si:=by kernel_rfl
def af3:List VT:=[(.one (.c (.sl 118)))]
theorem af4:bp Tryz.prog ay 81 none=af3:=by kernel_rfl
def SB:VC:=(.ite (.ic .eql (.var 0) (.li .i64 0)) (.ret (.put (.put (.bw 9) (.ah (.ls ⟨#[83,116,97,114,116]⟩))) (.ah (.ls ⟨#[83,116,111,112]⟩))) []) (.ite (.ic .eql (.var 0) (.li .i64 1)) (.ret (.put (.put (.bw 9) (.ah (.ls ⟨#[71,101,116]⟩))) (.ah (.ls ⟨#[80,117,116]⟩))) []) (.ite (.ic .eql (.var 0) (.li .i64 2)) (.ret (.put (.bw 9) (.ah (.ls ⟨#[84,101,108,108]⟩))) []) (.ite (.ic .eql (.var 0) (.li .i64 3)) (.ret (.put (.bw 9) (.ah (.ls ⟨#[72,101,97,114]⟩))) []) (.ite (.ic .eql (.var 0) (.li .i64 4)) (.ret (.put (.put (.bw 9) (.ah (.ls ⟨#[76,111,97,100]⟩))) (.ah (.ls ⟨#[83,97,118,101]⟩))) []) (.ite (.ic .eql (.var 0) (.li .i64 5)) (.ret (.put (.bw 9) (.ah (.ls ⟨#[72,101,97,108]⟩))) []) (.ret (.bw 9) [])))))))
theorem aip:bq Tryz.prog ay ba 85 none=SB:=by kernel_rfl
def agA:List VT:=[bg]
theorem agB:bp Tryz.prog ay 85 none=agA:=by kernel_rfl
theorem acE:ba.get 85=[(0,1)]:=by kernel_rfl
def RW:VC:=(.ret (.var 0) [])
theorem ahV:bq Tryz.prog ay ba 89 none=RW:=by kernel_rfl
def afF:List VT:=[(.one (.agg [.str,(.int .i64)]))]
theorem afI:bp Tryz.prog ay 89 none=afF:=by kernel_rfl
def Q3:VC:=(.rq (.call [] 91 none [(.var 0)] dq []) (.ite (.no (.var 1)) (.ret (.ls ⟨#[]⟩) []) (.ite (.ic .eql (.len (.var 0)) (.li .i64 0)) (.ret (.ls ⟨#[45]⟩) []) (.loop [(.one (.c (.sl 9))),bg] [(.bw 9),(.li .i64 0)] (.ite (.ic .lss (.var 3) (.len (.var 0))) (.rq (.cond [] (.bP (.var 0) (.var 3))) (.rq (.cond [] (.kE (.cell (.row [.str,(.int .i64)] (.var 0) (.var 3)) 0) (.ls ⟨#[61]⟩))) (.rq (.call [] 102 none [(.cell (.row [.str,(.int .i64)] (.var 0) (.var 3)) 1)] dR []) (.rq (.cond [] (.kE (.iG (.cell (.row [.str,(.int .i64)] (.var 0) (.var 3)) 0) (.ls ⟨#[61]⟩)) (.var 4))) (.rq (.cond [] (.few (.var 2) (.put (.bw 9) (.ah (.iG (.iG (.cell (.row [.str,(.int .i64)] (.var 0) (.var 3)) 0) (.ls ⟨#[61]⟩)) (.var 4)))))) (.again 0 [(.app (.var 2) (.put (.bw 9) (.ah (.iG (.iG (.cell (.row [.str,(.int .i64)] (.var 0) (.var 3)) 0) (.ls ⟨#[61]⟩)) (.var 4))))),(.ar .add .i64 (.var 3) (.li .i64 1))])))))) (.rq (.call [] 103 none [(.var 2),(.ls ⟨#[44]⟩)] dR []) (.ret (.var 4) [])))))))
theorem aha:bq Tryz.prog ay ba 95 none=Q3:=by kernel_rfl
def aee:List VT:=[(.one (.c (.sl 118)))]
theorem aef:bp Tryz.prog ay 95 none=aee:=by kernel_rfl
def Sc:VC:=(.rq (.call [] 81 none [(.var 0)] dq []) (.ite (.no (.var 1)) (.ret (.ls ⟨#[]⟩) []) (.loop [(.one (.c (.sl 9))),bg] [(.bw 9),(.li .i64 0)] (.ite (.ic .lss (.var 3) (.len (.var 0))) (.rq (.cond [] (.bP (.var 0) (.var 3))) (.rq (.cond [] (.kE (.cell (.row [.str,(.int .i64)] (.var 0) (.var 3)) 0) (.ls ⟨#[61]⟩))) (.rq (.call [] 109 none [(.cell (.row [.str,(.int .i64)] (.var 0) (.var 3)) 1)] dR []) (.rq (.cond [] (.kE (.iG (.cell (.row [.str,(.int .i64)] (.var 0) (.var 3)) 0) (.ls ⟨#[61]⟩)) (.var 4))) (.rq (.cond [] (.few (.var 2) (.put (.bw 9) (.ah (.iG (.iG (.cell (.row [.str,(.int .i64)] (.var 0) (.var 3)) 0) (.ls ⟨#[61]⟩)) (.var 4)))))) (.again 0 [(.app (.var 2) (.put (.bw 9) (.ah (.iG (.iG (.cell (.row [.str,(.int .i64)] (.var 0) (.var 3)) 0) (.ls ⟨#[61]⟩)) (.var 4))))),(.ar .add .i64 (.var 3) (.li .i64 1))])))))) (.ite (.ic .eql (.len (.var 2)) (.li .i64 0)) (.ret (.ls ⟨#[45]⟩) []) (.rq (.call [] 110 none [(.var 2),(.ls ⟨#[44]⟩)] dR []) (.ret (.var 4) [])))))))
theorem ah3:bq Tryz.prog ay ba 99 none=Sc:=by kernel_rfl
def afY:List VT:=[(.one (.c (.sl 118)))]
theorem afZ:bp Tryz.prog ay 99 none=afY:=by kernel_rfl
def Re:VC:=(.rq (.call [] 114 none [(.var 0),(.var 1)] dR []) (.ret (.var 2) []))
theorem ahi:bq Tryz.prog ay ba 103 none=Re:=by kernel_rfl
def aes:List VT:=[(.one (.c (.sl 9))),dR]
theorem aet:bp Tryz.prog ay 103 none=aes:=by kernel_rfl
def Sd:VC:=(.ite (.ic .eql (.var 0) (.li .i64 (-9223372036854775808))) (.ret (.ls ⟨#[45,57,50,50,51,51,55,50,48,51,54,56,53,52,55,55,53,56,48,56]⟩) []) (.ite (.ic .lss (.var 0) (.li .i64 0)) (.rq (.call [] 109 none [(.ar .sub .i64 (.li .i64 0) (.var 0))] dR []) (.rq (.cond [] (.kE (.ls ⟨#[45]⟩) (.var 1))) (.ret (.iG (.ls ⟨#[45]⟩) (.var 1)) []))) (.rq (.cond [] (.ic .neq (.li .i64 10) (.li .i64 0))) (.ite (.ic .gtr (.var 0) (.li .i64 9)) (.rq (.cond [] (.ic .neq (.li .i64 10) (.li .i64 0))) (.rq (.call [] 109 none [(.ar .quo .i64 (.var 0) (.li .i64 10))] dR []) (.rq (.cond [] (.kE (.var 1) (.qb (.put (.bw 5) (.ah (.conv .u8 (.ar .add .i64 (.li .i64 48) (.ar .rem .i64 (.var 0) (.li .i64 10))))))))) (.ret (.iG (.var 1) (.qb (.put (.bw 5) (.ah (.conv .u8 (.ar .add .i64 (.li .i64 48) (.ar .rem .i64 (.var 0) (.li .i64 10)))))))) [])))) (.ret (.qb (.put (.bw 5) (.ah (.conv .u8 (.ar .add .i64 (.li .i64 48) (.ar .rem .i64 (.var 0) (.li .i64 10))))))) [])))))
theorem ah4:bq Tryz.prog ay ba 109 none=Sd:=by kernel_rfl
def QR:List VT:=[bg]
theorem af0:bp Tryz.prog ay 109 none=QR:=by kernel_rfl
end
end Go.Proofs.YtimickglpboilaaGreatDoor
