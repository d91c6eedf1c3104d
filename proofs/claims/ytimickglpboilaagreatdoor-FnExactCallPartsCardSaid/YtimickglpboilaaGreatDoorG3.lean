/- Each operation does to a world what the executor says it does: structs and slices built, boxes, calls, append. No program in sight. -/
import Derived.Test.YtimickglpboilaaGreatDoorG2
set_option linter.unusedVariables false
set_option linter.unusedSimpArgs false
set_option linter.unusedSectionVars false
namespace Go.Proofs.YtimickglpboilaaGreatDoor
open Go.RowKit
variable [GC]
section
variable {w:World}{M:Addr->Prop}
theorem QB{α:Type}: ∀(r l:List α) (i:Nat),i+r.length<=l.length->(iQ l i r).take (i+r.length)=l.take i++r
 | [],l,i,_=>by simp [iQ]
 | x::r,l,i,h=>by
  simp only [List.length_cons] at h
  have:=QB r (l.set i x) (i+1) (by simp;omega)
  simp only [iQ,List.length_cons]
  rw [show i+(r.length+1)=i+1+r.length by omega,this]
  have h1:(l.set i x).take (i+1)=l.take i++[x]:=by
   rw [List.take_succ_eq_append_getElem (by simp;omega)]
   simp [List.take_set_of_le]
  rw [h1];simp
theorem tz{tab:Nat->List CT}{t:CT}{d:D}{v:Value}(ht:bM tab t d)(h:R w M d v):v.cells= #[v]/\v.oneCell'=true:=by
 cases t with
 | bool=>obtain ⟨b,rfl⟩:=nF ht;simp only [R] at h;subst h;exact ⟨rfl,rfl⟩
 | int k=>obtain ⟨n,rfl⟩:=oA ht;obtain ⟨rfl,_⟩:=h;exact ⟨rfl,rfl⟩
 | str=>obtain ⟨s,rfl⟩:=mD ht;obtain ⟨rfl,_⟩:=h;exact ⟨rfl,rfl⟩
 | sl e=>obtain ⟨r,rfl,_⟩:=nG ht;obtain ⟨_,_,_,rfl,_⟩:=h;exact ⟨rfl,rfl⟩
 | mem=>obtain ⟨n,rfl⟩:=Aw ht;obtain ⟨_,_,rfl,_⟩:=h;exact ⟨rfl,rfl⟩
 | fn=>obtain ⟨f,fW,rfl⟩:=C9 ht;obtain ⟨_,rfl,_⟩:=h;exact ⟨rfl,rfl⟩
theorem Cy{tab:Nat->List CT}: ∀{ts:List CT} {l:List D} {vs:List Value},bf tab ts l->Rs w M l vs-> ∀v∈vs,v.oneCell'=true
 | [],[],_,_,h,v,hv=>by subst h;simp at hv
 | t::ts,d::ds,vs,ht,⟨u,q,e,h1,h2⟩,v,hv=>by
  subst e
  simp only [bf] at ht
  rcases List.mem_cons.1 hv with rfl|hv
  ·exact (tz ht.1 h1).2
  ·exact Cy ht.2 h2 v hv
 | [],_::_,_,ht,_,_,_=>by simp [bf] at ht
 | _::_,[],_,ht,_,_,_=>by simp [bf] at ht
theorem LZ(off:Nat): ∀(l:List Value) (k:Nat) (cs:Array Value),(l.zipIdx k).foldl (fun cs (x:Value×Nat)=>cs.setIfInBounds (off+x.2) x.1) cs=fH cs (off+k) l
 | [],_,_=>rfl
 | x::r,k,cs=>by
  simp only [List.zipIdx_cons,List.foldl_cons,fH]
  rw [LZ off r (k+1)];rfl
theorem Xt(off:Nat)(v cs:Array Value):v.zipIdx.foldl (fun cs (x:Value×Nat)=>cs.setIfInBounds (off+x.2) x.1) cs=fH cs off v.toList:=by
 rw [<-Array.foldl_toList,Array.toList_zipIdx,LZ];rfl
theorem FR{place:Nat->Option (Nat×Nat)}{cs:Array Value}{i:Nat}{v:Value}{r:List (Nat×Value)}{off sz:Nat}(hp:place i=some (off,sz))(hsz:v.cells.size=sz)(hle:off+sz<=cs.size) :
  Instr.fill place cs ((i,v)::r)=Instr.fill place (fH cs off v.cells.toList) r:=by
 have h1:=Xt off v.cells cs
 simp only [Instr.fill,hp]
 rw [if_neg (by simp [hsz];omega), <-h1]
theorem dr.of_flat{b:Nat}: ∀{rows:List (List D)} {vs:List Value} {o:Nat},Rs w M rows.flatten vs-> ∀{w':World} {M':Addr->Prop},bb w M w' M'->(∀i u,vs[i]? =some u->w'.cell? ⟨b,o+i,none⟩=some u/\ ¬M' ⟨b,o+i,none⟩)->dr w' M' rows b o
 | [],_,_,_,_,_,_,_=>trivial
 | r::l,vs,o,h,w',M',hk,hc=>by
  simp only [List.flatten_cons] at h
  have h1:=h.take r.length
  have h2:=h.drop r.length
  rw [List.take_left'] at h1
  rw [List.drop_left'] at h2
  ·refine ⟨Rw.of fun i d hd=> ?_,dr.of_flat h2 hk fun i u hu=> ?_⟩
   ·obtain ⟨v,hv,hr⟩:=h1.get hd
    simp only [List.getElem?_take] at hv
    split at hv
    ·exact ⟨v,(hc i v hv).1,(hc i v hv).2,hr.keep hk⟩
    ·simp at hv
   ·rw [List.getElem?_drop] at hu
    have:=hc _ _ hu
    rwa [show o+(r.length+i)=o+r.length+i by omega] at this
  ·rfl
  ·rfl
end
section
variable {P:Program}{c:SC}{F:Nat->Prop}{σ:Nat->ST}{bm:Nat->Nat}{tm:Nat->Value}{a:Act}{w:World}{tb:TB}{Γ:List VT}{gs:Gd}
theorem aL.EI(hs:aL c F σ bm tm a w): ∀p,MM c.M0 bm tm σ p->p.block<w.heap.size:=by
 rintro p (h|⟨id,cs,h1,h2⟩|⟨g,n,h1,h2⟩)
 ·exact Nat.lt_of_lt_of_le (hs.m0.1 p h) hs.hB
 ·rw [h2];exact (hs.box id cs h1).lt
 ·exact (hs.live g n h1).lt (DS h2)
theorem aL.gi(hs:aL c F σ bm tm a w):j6 w:=hs.m0.2.1.keep fun k hk=>hs.fr.block k (Nat.lt_of_lt_of_le hk hs.m0.2.2.1) fun e=>by have:=hs.m0.2.2.2 k e.symm;omega
theorem aL.lZ(hs:aL c F σ bm tm a w):kf w (MM c.M0 bm tm σ):=⟨hs.EI,hs.gi,Nat.le_trans hs.m0.2.2.1 hs.hB⟩
theorem Hw{α:Type}: ∀(r l:List α) (i:Nat) {x:α},x∈iQ l i r->x∈l\/x∈r
 | [],l,i,x,h=> .inl h
 | y::r,l,i,x,h=>by
  rcases Hw r _ _ h with h|h
  ·rcases List.mem_or_eq_of_mem_set h with h|h
   ·exact .inl h
   ·exact .inr (by simp [h])
  ·exact .inr (by simp [h])
theorem Ip{M:Addr->Prop}{l:List D}{k:K}{e:E}{vs:List Value}(h:e.den c.env= .agg l)(hr:Rs w M l vs)(hk:bD w M tm c.env k e (.agg vs.toArray)):ck w M tm c.env (apart k l.length e) vs:=by
 have key: ∀(n:Nat) (l':List D) (vs':List Value),Rs w M l' vs'->(∀i d,l'[i]? =some d->l[n+i]? =some d)->(∀(i:Nat) (u:Value),vs'[i]? =some u->vs[n+i]? =some u)->ck w M tm c.env ((List.range' n l'.length).map fun j=>(k.nth j,E.cell e j)) vs':=by
  intro n l'
  induction l' generalizing n with
  | nil=>intro vs' h _ _;subst h;simp [ck]
  | cons d r ih =>
   intro vs' hr' hl hv
   obtain ⟨v,q,rfl,h1,h2⟩:=hr'
   simp only [List.length_cons,List.range'_succ,List.map_cons]
   refine ⟨v,q,rfl,?_,ih (n+1) q h2 (fun i d' hd=> ?_) fun i u hu=> ?_⟩
   ·have hd:=hl 0 d rfl
    have hu:=hv 0 v rfl
    rw [Nat.add_zero] at hd hu
    refine bD.OT ?_ (hk.nth (by simpa [iV,fY] using hu))
    simp only [E.den,h,D.kH,List.getD]
    rw [hd];exact h1
   ·have:=hl (i+1) d' (by simpa using hd)
    rwa [show n+(i+1)=n+1+i by omega] at this
   ·have:=hv (i+1) u (by simpa using hu)
    rwa [show n+(i+1)=n+1+i by omega] at this
 have:=key 0 l vs hr (by simp) (by simp)
 simpa [apart,List.range_eq_range'] using this
theorem ES{k:K}{n:Nat}{e:E}{x:Nat}(h: ∃z∈apart k n e,z.1.has x):k.has x:=by
 obtain ⟨z,hz,hx⟩:=h
 obtain ⟨j,_,rfl⟩:=List.mem_map.1 hz
 exact K.Gf hx
theorem Ii(hs:aL c F σ bm tm a w){fs:List (Nat×Nat)}: ∀(parts:List (Nat×Operand)) (es es':List (K×E)),mw tb Γ gs σ fs parts es=some es'->(∀g,(∃z∈es,z.1.has g)->F g)-> ∀g,(∃z∈es',z.1.has g)->F g
 | [],es,es',h,h0,g,hg=>by simp only [mw,Option.some.injEq] at h;subst h;exact h0 g hg
 | (f,x)::r,es,es',h,h0,g,hg=>by
  simp only [mw] at h
  split at h
  ·split at h
   ·rename_i fi kx e hfi hx
    have hm:=(cL hs hx).2
    split at h
    ·split at h
     ·refine Ii hs r _ es' h (fun g ⟨z,hz,Bc⟩=> ?_) g hg
      rcases List.mem_or_eq_of_mem_set hz with hz|rfl
      ·exact h0 g ⟨z,hz,Bc⟩
      ·exact hm g Bc
     ·simp at h
    ·split at h
     ·refine Ii hs r _ es' h (fun g ⟨z,hz,Bc⟩=> ?_) g hg
      rcases Hw _ _ _ hz with hz|hz
      ·exact h0 g ⟨z,hz,Bc⟩
      ·exact hm g (ES ⟨z,hz,Bc⟩)
     ·simp at h
    ·simp at h
   ·simp at h
  ·simp at h
theorem run_places(aH:cD P tb tb=true): ∀(fs:List (Nat×Nat)) (fl:List Field),mz tb fs fl=true-> ∃pl:List (Nat×Nat),(fl.mapM (m:=Sem) fun f=>do pure (f.offset, <-sizeOf f.type)).run P w= .ok pl w /\
  ∀(f fo ft:Nat) (fi:TI) (v1:V1),fs[f]? =some (fo,ft)->tb.get ft=some fi->fi.vt= .one v1->pl[f]? =some (fo,v1.cells.length)
 | [],[],_=>⟨[],by simp,fun f fo ft fi v1 h=>by simp at h⟩
 | [],_::_,h=>by simp [mz] at h
 | _::_,[],h=>by simp [mz] at h
 | (fo,ft)::r,x::fl,h=>by
  simp only [mz,Bool.and_eq_true,beq_iff_eq] at h
  obtain ⟨⟨⟨h1,h2⟩,h3⟩,h4⟩:=h
  obtain ⟨pl,hpl,hget⟩:=run_places aH r fl h4
  split at h3
  ·rename_i ti aM
   split at h3
   ·rename_i v1 hv1
    obtain ⟨j,hj,hjs,_⟩:=pR aH aM hv1
    refine ⟨(fo,v1.cells.length)::pl,?_,fun f Xr Xw Xl v' hf hfi hv'=> ?_⟩
    ·rw [List.mapM_cons]
     simp only [Sem.run_bind,Sem.run_pure, <-h2,run_sizeOf hj,hjs,Result.andThen_ok,hpl, <-h1]
    ·cases f with
     | zero =>
      simp at hf;obtain ⟨rfl,rfl⟩:=hf
      rw [aM] at hfi;simp at hfi;subst hfi
      rw [hv1] at hv';simp at hv';subst hv';rfl
     | succ f=>simp at hf;simpa using hget f Xr Xw Xl v' hf hfi hv'
   ·simp at h3
  ·simp at h3
theorem FT(hs:aL c F σ bm tm a w)(aB:bL tb.tab Γ c.env)(hg:bB c.env gs){fs:List (Nat×Nat)}{pl:List (Nat×Nat)}(aH:cD P tb tb=true)
  (hpl: ∀(f fo ft:Nat) (fi:TI) (v1:V1),fs[f]? =some (fo,ft)->tb.get ft=some fi->fi.vt= .one v1->pl[f]? =some (fo,v1.cells.length)) :
  ∀(parts:List (Nat×Operand)) (es es':List (K×E)) (cs:Array Value),mw tb Γ gs σ fs parts es=some es'->ck w (MM c.M0 bm tm σ) tm c.env es cs.toList ->
   ∃cs',Instr.fill (fun i=>pl.toArray[i]?) cs (parts.map fun p=>(p.1,a.eval p.2))=some cs'/\ck w (MM c.M0 bm tm σ) tm c.env es' cs'.toList
 | [],es,es',cs,h,hr=>by simp only [mw,Option.some.injEq] at h;subst h;exact ⟨cs,rfl,hr⟩
 | (f,x)::r,es,es',cs,h,hr=>by
  simp only [mw] at h
  split at h
  ·rename_i fo ft hf
   split at h
   ·rename_i fi kx e hfi hx
    have fe:=(cL hs hx).1 hg
    split at h
    ·rename_i t t' hv he
     split at h
     ·rename_i hlt
      have hp:=hpl f fo ft fi _ hf hfi hv
      have hty:=E.cP aB e _ he
      obtain ⟨hc1,hc2⟩:=tz hty fe.rd
      have hlen:=hr.length
      simp only [Array.length_toList] at hlen
      obtain ⟨cs',h1,h2⟩:=FT hs aB hg aH hpl r _ es' (fH cs fo [a.eval x]) h (by
       rw [wH]
       exact hr.set fo (c:=(kx,e)) fe)
      refine ⟨cs',?_,h2⟩
      simp only [List.map_cons]
      rw [FR (off:=fo) (sz:=1) (by simpa [V1.cells] using hp) (by rw [hc1];rfl) (by omega),hc1]
      exact h1
     ·simp at h
    ·rename_i us ts hv he
     split at h
     ·rename_i hcnd
      have hp:=hpl f fo ft fi _ hf hfi hv
      obtain ⟨l,hl,hlt⟩:=gV (E.cP aB e _ he)
      have jl:=fe.rd
      rw [hl] at jl
      obtain ⟨vs,hvs,hrs⟩:=jl
      have hlen:=hr.length
      have yD:=hrs.length
      have MW:=hlt.length
      simp only [Array.length_toList] at hlen yD
      obtain ⟨cs',h1,h2⟩:=FT hs aB hg aH hpl r _ es' (fH cs fo vs.toList) h (by
       rw [wH, <-MW]
       exact ck.iQ (Ip hl hrs (by rw [hvs] at fe;simpa using fe)) fo hr)
      refine ⟨cs',?_,h2⟩
      simp only [List.map_cons]
      have hcl:(a.eval x).cells=vs:=by rw [hvs];rfl
      rw [FR (off:=fo) (sz:=us.length) (by simpa [V1.cells] using hp) (by rw [hcl,yD,MW];exact hcnd.1.symm) (by omega),hcl]
      exact h1
     ·simp at h
    ·simp at h
   ·simp at h
  ·simp at h
theorem EA{M:Addr->Prop}{t:CT}{v:Value}(h:zeroV t v=true):R w M (fU t) v/\bD w M tm c.env (sA t).1 (sA t).2 v:=by
 cases t with
 | mem=>simp [zeroV] at h
 | fn=>simp [zeroV] at h
 | bool=>cases v<;>simp [zeroV] at h;subst h;exact ⟨rfl,rfl⟩
 | int k =>
  cases v<;>simp [zeroV] at h
  obtain ⟨rfl,rfl⟩:=h
  have:k.min<=0/\0<=k.max:=by cases k<;>simp [IntKind.min,IntKind.max,IntKind.signed,IntKind.bits]
  exact ⟨⟨rfl,this⟩,⟨rfl,this⟩⟩
 | str=>cases v<;>simp [zeroV] at h;subst h;exact ⟨⟨rfl,by decide⟩,⟨rfl,by decide⟩⟩
 | sl e =>
  rcases v with _|_|_|_|_|_|⟨ad,len,cap⟩|_|_|_|_|_|_|_|_<;>try (simp [zeroV] at h;done)
  rcases ad with _|ad<;>rcases len with _|len<;>rcases cap with _|cap<;>simp [zeroV] at h
  have hr:R w M (.sl []) (.slice none 0 0):=⟨none,0,0,rfl,rfl,Nat.le_refl _,by decide,fun _=>rfl,fun b o s h=>by cases h⟩
  exact ⟨hr,hr,none,rfl⟩
theorem EB{M:Addr->Prop}: ∀{ts:List CT} {vs:List Value},lB ts vs=true->Rs w M (ts.map fU) vs/\ck w M tm c.env (ts.map sA) vs
 | [],[],_=>⟨rfl,rfl⟩
 | t::ts,v::vs,h=>by
  simp only [lB,Bool.and_eq_true] at h
  have h1:=EA (w:=w) (M:=M) (tm:=tm) (c:=c) h.1
  have h2:=EB (M:=M) h.2
  exact ⟨⟨v,vs,rfl,h1.1,h2.1⟩,⟨v,vs,rfl,h1.2,h2.2⟩⟩
 | [],_::_,h=>by simp [lB] at h
 | _::_,[],h=>by simp [lB] at h
theorem acZ(aH:cD P tb tb=true)(hs:aL c F σ bm tm a w)(aB:bL tb.tab Γ c.env){n:Nat}{o:Oper}{T:Nat}{parts:Array (Nat×Operand)}(ho:o.op= .build T parts){ti:TI}(aM:tb.get T=some ti){aP:aT}
  (h:CF tb Γ gs o.dst σ ti parts.toList=some aP):ia P c F gs σ bm tm a w n o aP:=by
 unfold CF at h
 split at h
 ·rename_i ts hv
  simp only [Option.map_eq_some_iff] at h
  obtain ⟨es,hes,rfl⟩:=h
  refine ⟨_,rfl,rfl,fun g hg=> ?_,fun hg _=> ?_⟩
  ·obtain ⟨q,hq,hx⟩:=K.Gg (show (qw _).has g from hg)
   obtain ⟨z,hz,rfl⟩:=List.mem_map.1 hq
   exact Ii hs parts.toList _ es hes (fun g ⟨x,hx,hg⟩=>by obtain ⟨t,_,rfl⟩:=List.mem_map.1 hx;cases t<;>simp [sA,K.has] at hg) g ⟨z,hz,hx⟩
  obtain ⟨i,fields,z,hi,hsz,_,hz,Zn,hu,hfo⟩:=kY aH aM hv
  obtain ⟨pl,hpl,hget⟩:=run_places (w:=w) aH ti.fs fields.toList hfo
  obtain ⟨cs',h1,h2⟩:=FT hs aB hg aH hget parts.toList _ es z hes (EB (w:=w) (M:=MM c.M0 bm tm σ) (tm:=tm) (c:=c) Zn).2
  refine ⟨.agg cs',w,?_,Below.refl _ _,dJ hg ?_⟩
  ·have hm:(fields.mapM (m:=Sem) fun f=>do pure (f.offset, <-sizeOf f.type)).run P w= .ok pl.toArray w:=by
    rw [Array.mapM_eq_mapM_toList,Sem.run_map,hpl];rfl
   simp only [execOp,ho,Instr.build,Sem.run_bind,zeroValue,run_typeInfo hi,hz,Result.andThen_ok,Sem.run_pure,run_underlying hu,hm,Value.cells]
   simp only [List.getElem?_toArray] at h1
   simp [h1]
  ·have e:cs'=cs'.toList.toArray:=by simp
   rw [e]
   refine bD.pack ?_ fun j k u hk hu=> ?_
   ·rw [Fk aB]
    exact h2.rs.BL
   ·simp only [List.getElem?_map,Option.map_eq_some_iff] at hk
    obtain ⟨z,hz,rfl⟩:=hk
    obtain ⟨u',hu',hr'⟩:=h2.get hz
    rw [hu] at hu';cases hu'
    exact hr'.kk
 ·simp at h
theorem LM(hs:aL c F σ bm tm a w)(aB:bL tb.tab Γ c.env)(hg:bB c.env gs){el sz:Nat}(hsz:(tb.tab el).length=sz) :
  ∀(parts:List (Nat×Operand)) (k:Nat) (acc e':E) (rows:List (List D)) (cs:Array Value),kM tb Γ gs σ el k parts acc=some e'->acc.den c.env= .sl rows->rows.length=k->(∀r∈rows,r.length=sz)->(k+parts.length)*sz<=cs.size ->
   Rs w (MM c.M0 bm tm σ) rows.flatten (cs.toList.take (k*sz)) ->
   ∃cs' rows',Instr.fill (fun i=>some (i*sz,sz)) cs (parts.map fun p=>(p.1,a.eval p.2))=some cs'/\e'.den c.env= .sl rows'/\rows'.length=k+parts.length/\(∀r∈rows',r.length=sz)/\cs'.size=cs.size /\
    Rs w (MM c.M0 bm tm σ) rows'.flatten (cs'.toList.take ((k+parts.length)*sz))
 | [],k,acc,e',rows,cs,h,hacc,hk,hl,hle,hr=>by
  simp only [kM,Option.some.injEq] at h;subst h
  exact ⟨cs,rows,rfl,hacc,by simpa using hk,hl,rfl,by simpa using hr⟩
 | (i,x)::r,k,acc,e',rows,cs,h,hacc,hk,hl,hle,hr=>by
  simp only [kM] at h
  split at h
  ·rename_i hik;subst hik
   split at h
   ·rename_i kx e hx
    have fe:=(cL hs hx).1 hg
    have hle2:i*sz+sz<=cs.size:=by
     have:(i+1)*sz<=(i+(((i,x)::r).length))*sz:=Nat.mul_le_mul_right _ (by simp)
     rw [Nat.add_mul,Nat.one_mul] at this;omega
    have hgo: ∀(row:List D) (vals:List Value) (nx:E),nx.den c.env= .sl (rows++[row])->row.length=sz->vals.length=sz->Rs w (MM c.M0 bm tm σ) row vals->(a.eval x).cells.toList=vals->kM tb Γ gs σ el (i+1) r nx=some e' ->
      ∃cs' rows',Instr.fill (fun i=>some (i*sz,sz)) cs (((i,x)::r).map fun p=>(p.1,a.eval p.2))=some cs'/\e'.den c.env= .sl rows'/\rows'.length=i+((i,x)::r).length/\(∀r∈rows',r.length=sz)/\cs'.size=cs.size /\
       Rs w (MM c.M0 bm tm σ) rows'.flatten (cs'.toList.take ((i+((i,x)::r).length)*sz)):=by
     intro row vals nx Dp hrow Nr hrs hcl hnext
     have htk:(fH cs (i*sz) vals).toList.take ((i+1)*sz)=cs.toList.take (i*sz)++vals:=by
      rw [wH,Nat.add_mul,Nat.one_mul]
      have:=QB vals cs.toList (i*sz) (by simp;omega)
      rwa [Nr] at this
     obtain ⟨cs',rows',h1,h2,h3,h4,h5,h6⟩:=LM hs aB hg hsz r (i+1) nx e' (rows++[row]) (fH cs (i*sz) vals) hnext Dp (by simp [hk]) (fun q hq=>(List.mem_append.1 hq).elim (hl q) fun h=>by simp at h;subst h;exact hrow)
      (by rw [BG];simp only [List.length_cons] at hle;rwa [show i+1+r.length=i+(r.length+1) by omega])
      (by rw [htk,List.flatten_append];simpa using hr.append hrs)
     refine ⟨cs',rows',?_,h2,by simp only [List.length_cons];omega,h4,by rw [h5,BG],by
      simp only [List.length_cons];rwa [show i+(r.length+1)=i+1+r.length by omega]⟩
     simp only [List.map_cons]
     have hcs:(a.eval x).cells.size=sz:=by rw [<-Array.length_toList,hcl,Nr]
     rw [FR (off:=i*sz) (sz:=sz) rfl hcs hle2,hcl]
     exact h1
    split at h
    ·rename_i t he
     split at h
     ·rename_i htab
      have hs1:sz=1:=by rw [<-hsz,htab];rfl
      have hty:=E.cP aB e _ he
      obtain ⟨hc1,hc2⟩:=tz hty fe.rd
      exact hgo [e.den c.env] [a.eval x] _ (by simp [E.den,hacc]) (by simp [hs1]) (by simp [hs1]) (Rs.one fe.rd) (by rw [hc1]) h
     ·simp at h
    ·rename_i ts he
     split at h
     ·rename_i htab
      obtain ⟨l,hll,hlt⟩:=gV (E.cP aB e _ he)
      have jl:=fe.rd
      rw [hll] at jl
      obtain ⟨vs,hvs,hrs⟩:=jl
      have hlen:=hrs.length
      have yD:=hlt.length
      rw [<-htab,hsz] at yD
      exact hgo l vs.toList _ (by simp [E.den,hacc,hll]) yD (by rw [hlen,yD]) hrs (by rw [hvs];rfl) h
     ·simp at h
    ·simp at h
   ·simp at h
  ·simp at h
theorem PS(aH:cD P tb tb=true)(hs:aL c F σ bm tm a w)(aB:bL tb.tab Γ c.env){o:Oper}{T len el:Nat}{parts:Array (Nat×Operand)}(ho:o.op= .buildSlice T len parts){ti:TI}(aM:tb.get T=some ti)(hv:ti.vt= .one (.c (.sl el))){e:E}
  (hlen:parts.toList.length=len) (hok:CL tb el len=true) (he:kM tb Γ gs σ el 0 parts.toList (.bw el)=some e) (hg:bB c.env gs) :
  ∃w' cells,(execOp a.eval o).run P w= .ok (.value (.slice (some ⟨w.heap.size,0,none⟩) len len)) w'/\Below w.heap.size w w'/\w'.heap[w.heap.size]? =some (.cells cells el (0,0))/\len*(tb.tab el).length<=cells.size /\
   ∀M':Addr->Prop,(∀p,M' p->MM c.M0 bm tm σ p)->R w' M' (e.den c.env) (.slice (some ⟨w.heap.size,0,none⟩) len len):=by
 unfold CL at hok
 split at hok
 ·rename_i ei gb
  split at hok
  ·rename_i v1 hv1
   simp only [Bool.and_eq_true,decide_eq_true_eq] at hok
   obtain ⟨j,hj,hjs,_⟩:=pR aH gb hv1
   have hcl:ei.cells=v1.cells:=by simp [TI.cells,hv1]
   rw [hcl] at hok
   have htab:tb.tab el=v1.cells:=by simp [TB.tab,gb,TI.cells,hv1]
   obtain ⟨_,d1,_,_,_,_,hd1,dD⟩:=eZ aH aM hv
   simp only [fK] at dD;subst dD
   obtain ⟨z0,hz0⟩: ∃z,j.zero=some z:=by
    cases v1 with
    | c t=>obtain ⟨i',d',hi',_,_,⟨z,hz,_⟩,_⟩:=eZ aH gb hv1;rw [hj] at hi';simp at hi';subst hi';exact ⟨z,hz⟩
    | agg ts=>obtain ⟨i',f',cs',hi',_,_,hz,_⟩:=kY aH gb hv1;rw [hj] at hi';simp at hi';subst hi';exact ⟨_,hz⟩
   have hlen':len*v1.cells.length<=65536:=hok.1
   have hll:len<=65536:=Nat.le_trans (Nat.le_mul_of_pos_right _ hok.2) hlen'
   have hfin: ∀(z:Array Value),z.size=len*v1.cells.length-> ∃cs' rows',Instr.fill (fun i=>some (i*v1.cells.length,v1.cells.length)) z (parts.toList.map fun p=>(p.1,a.eval p.2))=some cs'/\e.den c.env= .sl rows'/\rows'.length=len/\(∀r∈rows',r.length=v1.cells.length)/\Rs w (MM c.M0 bm tm σ) rows'.flatten cs'.toList/\cs'.size=len*v1.cells.length:=by
    intro z hz
    obtain ⟨cs',rows',h1,h2,h3,h4,h5,h6⟩:=LM hs aB hg (by rw [htab]) parts.toList 0 (.bw el) e [] z he rfl rfl (by simp) (by rw [Nat.zero_add,hlen,hz];exact Nat.le_refl _) (by simp [Rs])
    refine ⟨cs',rows',h1,h2,by rw [h3,hlen];omega,h4,?_,by rw [h5,hz]⟩
    rw [Nat.zero_add,hlen, <-hz, <-h5, <-Array.length_toList,List.take_length] at h6
    exact h6
   have hrun: ∃cs' rows',(Instr.buildSlice T len (parts.map fun x=>(x.1,a.eval x.2))).run P w= .ok (.slice (some ⟨w.heap.size,0,none⟩) len len) (w.alloc (.cells cs' el))/\e.den c.env= .sl rows'/\rows'.length=len/\(∀r∈rows',r.length=v1.cells.length)/\Rs w (MM c.M0 bm tm σ) rows'.flatten cs'.toList/\cs'.size=len*v1.cells.length:=by
    by_cases h0:len*v1.cells.length=0
    ·obtain ⟨cs',rows',h1,h2,h3,h4,h5,h6⟩:=hfin #[] (by simp [h0])
     refine ⟨cs',rows',?_,h2,h3,h4,h5,h6⟩
     have hr0:Array.range 0= #[]:=rfl
     simp only [Instr.buildSlice,Sem.run_bind,run_underlying hd1,run_sizeOf hj,hjs,Result.andThen_ok,h0,hr0]
     simp [h1,newRow]
    ·obtain ⟨cs',rows',h1,h2,h3,h4,h5,h6⟩:=hfin ((Array.range (len*v1.cells.length)).map fun x=>z0.cells[x%z0.cells.size]!) (by simp)
     refine ⟨cs',rows',?_,h2,h3,h4,h5,h6⟩
     have X7: ¬(len*v1.cells.length>2^24):=by omega
     simp only [Instr.buildSlice,Sem.run_bind,run_underlying hd1,run_sizeOf hj,hjs,Result.andThen_ok,if_neg X7,if_neg h0,zeroValue,run_typeInfo hj,hz0,Sem.run_pure,Sem.run_ite]
     simp [h1,newRow]
   obtain ⟨cs',rows',h1,h2,h3,h4,h5,h6⟩:=hrun
   have hb:Below w.heap.size w (w.alloc (.cells cs' el)):=(Below.refl _ _).alloc (Nat.le_refl _) _
   refine ⟨_,cs',by simp only [execOp,ho];rw [Sem.run_bind,h1];rfl,hb,heap_alloc_new w _,by rw [h6,htab];exact Nat.le_refl _,fun M' jf=> ?_⟩
   rw [h2]
   refine ⟨_,_,_,rfl,h3.symm,Nat.le_refl _,by unfold maxLen;omega,(fun h=>by cases h),fun b o' s Mw=> ?_⟩
   simp only [Option.some.injEq,Addr.mk.injEq] at Mw
   obtain ⟨rfl,rfl,rfl⟩:=Mw
   refine ⟨fun _=>rfl,dr.of_flat h5 (bb.below hb fun p _ h=>jf p h) fun i u hu=>⟨?_,fun hm=> ?_⟩⟩
   ·rw [World.cell?_alloc_new];simpa using hu
   ·have:=hs.EI _ (jf _ hm)
    simp at this
  ·simp at hok
 ·simp at hok
theorem ac1(aH:cD P tb tb=true)(hs:aL c F σ bm tm a w)(aB:bL tb.tab Γ c.env){n:Nat}{o:Oper}{T len:Nat}{parts:Array (Nat×Operand)}(ho:o.op= .buildSlice T len parts){ti:TI}(aM:tb.get T=some ti){aP:aT}
  (h:CH tb Γ gs o.dst σ ti len parts.toList=some aP):ia P c F gs σ bm tm a w n o aP:=by
 unfold CH at h
 split at h
 ·rename_i el hv
  split at h
  ·rename_i hcnd
   obtain ⟨hlen,hok⟩:=hcnd
   simp only [Option.map_eq_some_iff] at h
   obtain ⟨e,he,rfl⟩:=h
   refine ⟨_,rfl,rfl,fun g hg=> ?_,fun hg _=> ?_⟩
   ·cases hz:Nat.beq len 0<;>rw [hz] at hg<;>simp [bX,K.has] at hg
   ·obtain ⟨w',cells,h1,h2,_,_,h4⟩:=PS aH hs aB ho aM hv hlen hok he hg
    refine ⟨_,w',h1,h2,dJ hg ?_⟩
    have hR:=h4 _ fun _ h=>h
    cases hz:Nat.beq len 0 with
    | true =>
     have h0:len=0:=Nat.eq_of_beq_eq_true hz
     subst h0
     exact ⟨hR,_,rfl⟩
    | false=>exact hR
  ·simp at h
 ·simp at h
end
end Go.Proofs.YtimickglpboilaaGreatDoor
