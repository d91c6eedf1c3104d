/- Each operation does to a world what the executor says it does: operations that compute or read. No program in sight. -/
import Derived.Test.YtimickglpboilaaGreatDoorF1
set_option linter.unusedVariables false
set_option linter.unusedSimpArgs false
set_option linter.unusedSectionVars false
namespace Go.Proofs.YtimickglpboilaaGreatDoor
section
open Go.RowKit
variable [GC]
theorem Av{tab:Nat->List CT}{d:D}(h:bW tab .mem d): ∃n,d= .mem n:=by
 cases d<;>simp [bW] at h;exact ⟨_,rfl⟩
def iy(P:Program)(f:FuncId):Bool :=
 match P.funcs[f]? with
 | some fn=> !(fn.name== "runtime.NumGoroutine")&&fn.body.isSome
 | none=>false
def aG(P:Program)(f:FuncId)(bx:Option (List D))(ds:List D)(r:D)(iw:List D):Prop :=
 iy P f=true/\ ∀(w:World) (M:Addr->Prop) (g:Nat) (vs:List Value),jU w M->Rs w M ds vs ->
  (∀cs,bx=some cs-> ∃us T,w.heap[g]? =some (.cells us.toArray T (0,0))/\Rs w M cs us/\NG<=g/\ ∀p,p.block=g->M p) ->
  Calls P f (match bx with|none=>vs|some _=> .pointer (some ⟨g,0,none⟩)::vs).toArray w fun e w' =>
   ∃v,e= .returned v/\R w' M r v/\Fr w.heap.size (bx.map fun _=>g) w w'/\(bx.isSome=true-> ∃us T,w'.heap[g]? =some (.cells us.toArray T (0,0))/\Rs w' M iw us)
def r9(B:Nat)(w:World)(u:Value)(n:Nat):Prop :=
 ∀b o s len cap,u= .slice (some ⟨b,o,s⟩) len cap->0<cap->s=none/\B<=b/\ ∃cells T,w.heap[b]? =some (.cells cells T (0,0))/\o+cap*n<=cells.size
def Cc(u u':Value):Prop:= ∀b o s len cap b' o' s' len' cap',u= .slice (some ⟨b,o,s⟩) len cap->0<cap->u'= .slice (some ⟨b',o',s'⟩) len' cap'->0<cap'->b≠b'
def lE(v:Value)(x:Nat×Nat):Value:=(iZ v).getD x.1 undef
def uF(B:Nat)(w:World)(v:Value)(rt:List (Nat×Nat)):Prop :=
 (∀x∈rt,r9 B w (lE v x) x.2)/\ ∀(i j:Nat) (x y:Nat×Nat),rt[i]? =some x->rt[j]? =some y->i≠j->Cc (lE v x) (lE v y)
def iM(v:Value)(rt:List (Nat×Nat)):Addr->Prop:=fun p=> ∃x∈rt,wI (lE v x) x.2 p
def dw(P:Program)(f:FuncId)(bx:Option (List D))(ds:List D)(r:D)(iw:List D)(rt:List (Nat×Nat)):Prop :=
 iy P f=true/\ ∀(w:World) (M:Addr->Prop) (g:Nat) (vs:List Value),jU w M->Rs w M ds vs ->
  (∀cs,bx=some cs-> ∃us T,w.heap[g]? =some (.cells us.toArray T (0,0))/\Rs w M cs us/\NG<=g/\ ∀p,p.block=g->M p) ->
  Calls P f (match bx with|none=>vs|some _=> .pointer (some ⟨g,0,none⟩)::vs).toArray w fun e w' =>
   ∃v,e= .returned v/\R w' (fun p=>M p\/iM v rt p) r v/\Fr w.heap.size (bx.map fun _=>g) w w'/\uF w.heap.size w' v rt/\(bx.isSome=true-> ∃us T,w'.heap[g]? =some (.cells us.toArray T (0,0))/\Rs w' (fun p=>M p\/iM v rt p) iw us)
theorem aG.D6{P:Program}{f:FuncId}{bx:Option (List D)}{ds:List D}{r:D}{iw:List D}{rt:List (Nat×Nat)}(h:dw P f bx ds r iw rt):aG P f bx ds r iw:=by
 refine ⟨h.1,fun w M g vs h1 h2 h3=>(h.2 w M g vs h1 h2 h3).mono ?_⟩
 have hk: ∀w' v,bo w' (fun p=>M p\/iM v rt p) w' M:=fun w' v p u hp hn=>⟨hp,fun h=>hn (.inl h)⟩
 rintro e w' ⟨v,q1,q2,q3,q4,q5⟩
 refine ⟨v,q1,R.keep (hk w' v) _ _ q2,q3,fun hb=> ?_⟩
 obtain ⟨us,T,u1,u2⟩:=q5 hb
 exact ⟨us,T,u1,Rs.keep (hk w' v) _ _ u2⟩
def EQ(P:Program)(f:FuncId)(ds:List D)(cs:List D):Prop :=
 iy P f=true/\ ∀(w:World) (M:Addr->Prop) (vs:List Value),jU w M->Rs w M ds vs ->
  Calls P f vs.toArray w fun e w'=> ∃g us T,e= .returned (.pointer (some ⟨g,0,none⟩))/\w.heap.size<=g/\w'.heap[g]? =some (.cells us.toArray T (0,0))/\Rs w' (fun p=>M p\/p.block=g) cs us/\Below w.heap.size w w'
def SY(P:Program)(f:FuncId)(ds:List D)(gb:List (List D))(r:D):Prop :=
 iy P f=true/\ ∀(w:World) (M:Addr->Prop) (vs ps:List Value),jU w M->Rs w M ds vs->nP w M gb ps ->
  Calls P f (vs++ps).toArray w fun e w'=> ∃v,e= .returned v/\R w' M r v/\Below w.heap.size w w'
def Jr(P:Program)(x:D)(ds:List D)(r:D):Prop:= ∃f gb,x= .fn f gb/\SY P f ds gb r
def D.one:D->Prop
 | .agg _| .aE _| .un=>False
 | _=>True
def xo:VT->D->Prop
 | .one (.c _),d=>d.one
 | _,_=>True
theorem xo.of{tab:Nat->List CT}{vt:VT}{d:D}(h:bX tab vt d):xo vt d:=by
 rcases vt with (t|ts)|vs
 ·have h:bW tab t d:=h
  cases t with
  | bool=>obtain ⟨b,rfl⟩:=nk h;trivial
  | int k=>obtain ⟨n,rfl⟩:=nX h;trivial
  | str=>obtain ⟨s,rfl⟩:=mB h;trivial
  | sl e=>obtain ⟨r,rfl,_⟩:=nY h;trivial
  | mem=>obtain ⟨n,rfl⟩:=Av h;trivial
  | fn=>obtain ⟨f,gb,rfl⟩:=Dn h;trivial
 ·trivial
 ·trivial
theorem D.Bt{w:World}{M:Addr->Prop}{d:D}{v:Value}(h:d.one)(hr:R w M d v):iZ v=[v]:=by
 cases d with
 | bool b=>have:v= .bool b:=hr;subst this;rfl
 | int k n=>have:v= .int k n:=hr.1;subst this;rfl
 | str s=>have:v= .string s:=hr.1;subst this;rfl
 | sl rows=>obtain ⟨ad,len,cap,rfl,_⟩:=hr;rfl
 | mem n=>obtain ⟨ad,cap,rfl,_⟩:=hr;rfl
 | fn f gb=>obtain ⟨ps,rfl,_⟩:=hr;rfl
 | _=>exact h.elim
def Jo:VT->D->Prop
 | .one (.agg ts),d=> ∃l,d= .agg l/\l.length=ts.length
 | _,_=>True
def hO(P:Program)(env:List D)(n:Nat):Rq->Prop
 | .cond gs c=>bE env gs->c.den env= .bool true
 | .call gs f bx args _ nb=>bE env gs->aG P f (bx.map (·.map (·.den env))) (args.map (·.den env)) (env.getD n .un) ((List.range nb.length).map fun j=>env.getD (n+1+j) .un)
 | .gW f bx args vt nb rt=>xo vt (env.getD n .un)/\dw P f (bx.map (·.map (·.den env))) (args.map (·.den env)) (env.getD n .un) ((List.range nb.length).map fun j=>env.getD (n+1+j) .un) rt
 | .new f args nb=>EQ P f (args.map (·.den env)) ((List.range nb.length).map fun j=>env.getD (n+j) .un)
 | .cm gs e args _=>bE env gs->Jr P (e.den env) (args.map (·.den env)) (env.getD n .un)
 | .nV g vt ix=>ER g (env.getD n .un)/\Jy env ix/\Jo vt (env.getD n .un)
def wJ(gs:Gd):ST->Prop
 | .v g _ _=>g=gs
 | .ptr g _ _=>g=gs
 | .ro g _ _=>g=gs
 | .gp g _ _ _=>g=gs
 | .mp g _ _ _ _=>g=gs
 | .iv g _ _ _ _ _ _=>g=gs
 | .ip g _ _ _ _ _ _ _ _=>g=gs
 | _=>False
theorem Ee{w:World}{M:Addr->Prop}{bm:Nat->Nat}{tm:Nat->Value}{env:List D}{gs:Gd}{st:ST}(h:wJ gs st)(hg: ¬bE env gs):kI w M bm tm env st undef:=by
 cases st<;>simp only [wJ] at h<;>first|(subst h;exact ⟨fun h=>absurd h hg,fun _=>rfl⟩)|exact h.elim
section
variable {P:Program}{c:SC}{F:Nat->Prop}{σ:Nat->ST}{bm:Nat->Nat}{tm:Nat->Value}{a:Act}{w:World}{tb:TB}{Γ:List VT}{gs:Gd}
theorem mG(hs:aM c F σ bm tm a w){T:Nat}{x:Operand}{st:ST}(h:aT tb σ T x=some st):kI w (MM c.M0 bm tm σ) bm tm c.env st (a.eval x)/\ ∀g,cf st g->F g:=by
 cases x with
 | tmp t=>simp only [aT,Option.some.injEq] at h;subst h;exact ⟨hs.tmps t,fun g hg=>hs.f1 _ g hg⟩
 | const v =>
  simp only [aT] at h
  simp only [Act.eval]
  unfold uQ at h
  split at h
  ·simp at h;subst h;exact ⟨⟨fun _=>rfl,fun h=>absurd (aP _) h⟩,fun g hg=>hg.elim⟩
  ·split at h
   ·rename_i hr;simp at h;subst h;exact ⟨⟨fun _=>⟨rfl,hr⟩,fun h=>absurd (aP _) h⟩,fun g hg=>hg.elim⟩
   ·simp at h
  ·split at h
   ·rename_i hr;simp at h;subst h;exact ⟨⟨fun _=>⟨rfl,hr⟩,fun h=>absurd (aP _) h⟩,fun g hg=>hg.elim⟩
   ·simp at h
  ·split at h
   ·simp at h;subst h
    exact ⟨⟨fun _=>⟨⟨none,0,0,rfl,rfl,Nat.le_refl _,by decide,fun _=>rfl,fun b o s h=>by cases h⟩,none,rfl⟩,fun h=>absurd (aP _) h⟩,fun g hg=>hg.elim⟩
   ·simp at h
  ·simp at h
 | global g=>simp [aT] at h
 | func f=>simp [aT] at h
theorem qu{st st':ST}(h:under gs st=some st'):(∃g k e,st= .v g k e/\mZ g gs=true/\st'= .v gs k e)\/(∃g id off,st= .ptr g id off/\mZ g gs=true/\st'= .ptr gs id off)\/(∃g e off,st= .ro g e off/\mZ g gs=true/\st'= .ro gs e off):=by
 cases st with
 | un=>simp [under] at h
 | box cs=>simp [under] at h
 | live n=>simp [under] at h
 | gp _ _ _ _=>simp [under] at h
 | mp _ _ _ _ _=>simp [under] at h
 | iv _ _ _ _ _ _ _=>simp [under] at h
 | ip _ _ _ _ _ _ _ _ _=>simp [under] at h
 | v g k e =>
  simp only [under] at h
  cases hi:mZ g gs<;>rw [hi] at h<;>simp at h
  exact .inl ⟨g,k,e,rfl,hi,h.symm⟩
 | ptr g id off =>
  simp only [under] at h
  cases hi:mZ g gs<;>rw [hi] at h<;>simp at h
  exact .inr (.inl ⟨g,id,off,rfl,hi,h.symm⟩)
 | ro g e off =>
  simp only [under] at h
  cases hi:mZ g gs<;>rw [hi] at h<;>simp at h
  exact .inr (.inr ⟨g,e,off,rfl,hi,h.symm⟩)
theorem QQ{st:ST}{v:Value}{M:Addr->Prop}{g:Gd}{k:K}{e:E}{env:List D}(h:under gs st=some (.v g k e))(hr:kI w M bm tm env st v)(hg:bE env gs):bG w M tm env k e v/\(∀x,k.has x->cf st x):=by
 rcases qu h with ⟨g',k',e',rfl,hi,h⟩|⟨_,_,_,_,_,h⟩|⟨_,_,_,_,_,h⟩<;>cases h
 exact ⟨hr.1 (xR hi hg),fun x hx=>hx⟩
theorem zl{st:ST}{v:Value}{M:Addr->Prop}{g:Gd}{id off:Nat}{env:List D}(h:under gs st=some (.ptr g id off))(hr:kI w M bm tm env st v)(hg:bE env gs):v= .pointer (some ⟨bm id,off,none⟩):=by
 rcases qu h with ⟨_,_,_,_,_,h⟩|⟨g',i',o',rfl,hi,h⟩|⟨_,_,_,_,_,h⟩<;>cases h
 exact hr.1 (xR hi hg)
theorem zm{st:ST}{v:Value}{M:Addr->Prop}{g:Gd}{e:E}{off:Nat}{env:List D}(h:under gs st=some (.ro g e off))(hr:kI w M bm tm env st v)(hg:bE env gs): ∃b o,v= .pointer (some ⟨b,o,none⟩)/\Rw w M ((e.den env).il.drop off) b o:=by
 rcases qu h with ⟨_,_,_,_,_,h⟩|⟨_,_,_,_,_,h⟩|⟨g',i',o',rfl,hi,h⟩<;>cases h
 exact hr.1 (xR hi hg)
theorem ED{st st':ST}{x:Nat}(h:under gs st=some st')(hm:cf st' x):cf st x:=by
 rcases qu h with ⟨g',k',e',rfl,hi,rfl⟩|⟨g',i',o',rfl,hi,rfl⟩|⟨g',i',o',rfl,hi,rfl⟩
 ·exact hm
 ·exact hm
 ·exact hm
theorem EE{st st':ST}(h:under gs st=some st'):wJ gs st':=by
 rcases qu h with ⟨g',k',e',rfl,hi,rfl⟩|⟨g',i',o',rfl,hi,rfl⟩|⟨g',i',o',rfl,hi,rfl⟩<;>rfl
theorem oJ{s:Option ST}{st':ST}(h:s.bind (under gs)=some st'): ∃st,s=some st/\under gs st=some st':=by
 cases s with
 | none=>simp at h
 | some st=>exact ⟨st,rfl,by simpa using h⟩
theorem I9{s:Option ST}{k:K}{e:E}(h:eA gs s=some (k,e)): ∃st g,s=some st/\under gs st=some (.v g k e):=by
 unfold eA at h
 split at h
 ·rename_i g k' e' hb
  simp at h;obtain ⟨rfl,rfl⟩:=h
  obtain ⟨st,h1,h2⟩:=oJ hb
  exact ⟨st,g,h1,h2⟩
 ·simp at h
theorem cW(hs:aM c F σ bm tm a w){T:Nat}{x:Operand}{k:K}{e:E}(h:eA gs (aT tb σ T x)=some (k,e)):(bE c.env gs->bG w (MM c.M0 bm tm σ) tm c.env k e (a.eval x))/\ ∀g,k.has g->F g:=by
 obtain ⟨st,g,h1,h2⟩:=I9 h
 obtain ⟨h3,h4⟩:=mG hs h1
 exact ⟨fun hg=>(QQ h2 h3 hg).1,fun x hx=>h4 x (ED h2 hx)⟩
def ib(P:Program)(c:SC)(F:Nat->Prop)(gs:Gd)(σ:Nat->ST)(bm:Nat->Nat)(tm:Nat->Value)(a:Act)(w:World)(n:Nat)(o:Oper)(aS:aU):Prop :=
 ∃st,aS.wr=wv o.dst st/\wJ gs st/\(∀g,cf st g->F g) /\
  (bE c.env gs->(∀r∈aS.rq,hO P c.env n r)-> ∃v w',(execOp a.eval o).run P w= .ok (.value v) w'/\Below w.heap.size w w'/\kI w' (MM c.M0 bm tm σ) bm tm c.env st v)
theorem dV{M:Addr->Prop}{k:K}{e:E}{v:Value}{env:List D}(hg:bE env gs)(h:bG w M tm env k e v):kI w M bm tm env (.v gs k e) v:=⟨fun _=>h,fun h=>absurd hg h⟩
theorem Qa(hs:aM c F σ bm tm a w){n:Nat}{o:Oper}{x:Operand}(ho:o.op= .move x\/o.op= .assign x){T:Nat}{aS:aU}(h:FU gs o.dst (aT tb σ T x)=some aS):ib P c F gs σ bm tm a w n o aS:=by
 unfold FU at h
 simp only [Option.map_eq_some_iff] at h
 obtain ⟨st',h1,rfl⟩:=h
 obtain ⟨st,h2,h3⟩:=oJ h1
 obtain ⟨h4,h5⟩:=mG hs h2
 refine ⟨st',rfl,EE h3,fun g hg=>h5 g (ED h3 hg),fun hg _=>⟨a.eval x,w,?_,Below.refl _ _,?_⟩⟩
 ·rcases ho with ho|ho<;>simp [execOp,ho]
 ·cases st'<;>simp only [kI]
  ·have:=QQ h3 h4 hg
   have e:=EE h3;simp only [wJ] at e;subst e
   exact ⟨fun _=>this.1,fun h=>absurd hg h⟩
  ·have:=zl h3 h4 hg
   have e:=EE h3;simp only [wJ] at e;subst e
   exact ⟨fun _=>this,fun h=>absurd hg h⟩
  ·have:=zm h3 h4 hg
   have e:=EE h3;simp only [wJ] at e;subst e
   exact ⟨fun _=>this,fun h=>absurd hg h⟩
  all_goals rcases qu h3 with ⟨_,_,_,_,_,h⟩|⟨_,_,_,_,_,h⟩|⟨_,_,_,_,_,h⟩<;>cases h
theorem zV(env:List D): ∀es:List E,(mk es).den env= .agg (es.map (·.den env))
 | []=>rfl
 | e::r=>by simp [mk,E.den,zV env r]
theorem FA{env:List D}(aB:bQ tb.tab Γ env)(es:List E):(pack tb.tab Γ es).den env= .agg (es.map (·.den env)):=by
 unfold pack
 split
 ·rename_i x i r
  split
  ·rename_i us he
   split
   ·rename_i heq
    obtain ⟨heq,hle⟩:=heq
    obtain ⟨l,hl,hlt⟩:=gX (E.cZ aB x _ he)
    have hll:=hlt.length
    generalize hn:(E.cell x i::r).length=n at heq hle
    have key:(E.cell x i::r).map (·.den env)=(l.drop i).take n:=by
     rw [heq]
     refine List.ext_getElem? fun q=> ?_
     simp only [List.map_map,List.getElem?_map,List.getElem?_take,List.getElem?_drop]
     by_cases hi:q<n
     ·rw [if_pos hi]
      simp [List.getElem?_range' hi,E.den,hl,List.getD,List.getElem?_eq_getElem (show i+q<l.length by omega)]
     ·rw [if_neg hi,List.getElem?_eq_none (by simp;omega)];rfl
    split
    ·rename_i h0
     rw [key,hl]
     rw [h0.1,List.drop_zero,List.take_of_length_le (by omega)]
    ·rw [key];simp [E.den,hl]
   ·exact zV env _
  ·exact zV env _
 ·exact zV env _
theorem Rs.BO{M:Addr->Prop}{l:List D}{vs:List Value}(h:Rs w M l vs):R w M (.agg l) (.agg vs.toArray):=⟨vs.toArray,rfl,by simpa using h⟩
theorem Fe{c:SC}{M:Addr->Prop}{id:Nat}{cs:List (K×E)}(h:mg c w M bm tm id cs): ∃vs,cr w M tm c.env cs vs/\(∀j u,vs[j]? =some u->w.cell? ⟨bm id,j,none⟩=some u)/\ ∃T,w.heap[bm id]? =some (.cells vs.toArray T (0,0)):=by
 obtain ⟨vs,T,h1,h2,h3⟩:=h
 exact ⟨vs,h2,fun j u hu=>by rw [cell_of_row w _ j _ T _ h1];simpa using hu,T,h1⟩
theorem acE(aI:cL P tb tb=true)(hs:aM c F σ bm tm a w)(aB:bQ tb.tab Γ c.env){n:Nat}{o:Oper}{x:Operand}{T:Nat}(ho:o.op= .load T x){ti:TI}(aQ:tb.get T=some ti){aS:aU}
  (h:xI tb.tab Γ gs o.dst σ ti (aT tb σ 0 x)=some aS):ib P c F gs σ bm tm a w n o aS:=by
 unfold xI at h
 split at h
 ·rename_i g id off hb
  obtain ⟨st,h2,h3⟩:=oJ hb
  obtain ⟨h4,h5⟩:=mG hs h2
  split at h
  ·rename_i cs eU
   obtain ⟨vs,hvs,hcell,T0,hblk⟩:=Fe (hs.box id cs eU)
   split at h
   ·rename_i t hv
    split at h
    ·rename_i k e hk
     simp at h;subst h
     refine ⟨_,rfl,rfl,fun g hg=> ?_,fun hg _=> ?_⟩
     ·exact hs.f1 (3*id+1) _ (by rw [eU];exact ⟨_,List.mem_of_getElem? hk,hg⟩)
     ·obtain ⟨u,hu,hr⟩:=hvs.get hk
      obtain ⟨i,d,hi,_,_,_,hd,jo⟩:=fk aI aQ hv
      have:=zl h3 h4 hg
      exact ⟨u,w,by simp [execOp,ho,this,Instr.loadAt,Instr.sureAddr,Em hd jo (hcell off u hu)],Below.refl _ _,dV hg hr⟩
    ·simp at h
   ·rename_i ts hv
    split at h
    ·rename_i hle
     simp only [Option.some.injEq] at h;subst h
     refine ⟨_,rfl,rfl,fun g hg=> ?_,fun hg _=> ?_⟩
     ·obtain ⟨q,hq,hx⟩:=K.Gq (show (qj _).has g from hg)
      simp only [List.mem_map] at hq
      obtain ⟨z,hz,rfl⟩:=hq
      exact hs.f1 (3*id+1) _ (by rw [eU];exact ⟨z,List.mem_of_mem_drop (List.mem_of_mem_take hz),hx⟩)
     obtain ⟨i,fields,z,hi,hsz,_,_,_,hu,_⟩:=lG aI aQ hv
     have:=zl h3 h4 hg
     have hrel:=(hvs.drop off).take ts.length
     have hlen:((vs.drop off).take ts.length).length=i.size:=by
      have:=hvs.length
      simp [hsz];omega
     refine ⟨.agg ((vs.drop off).take ts.length).toArray,w,?_,Below.refl _ _,dV hg ?_⟩
     ·have hl:=En (P:=P) (w:=w) hu hi (b:=bm id) (o:=off) hlen (fun j u hj=>by
       simp only [List.getElem?_take,List.getElem?_drop] at hj
       split at hj
       ·exact hcell _ _ hj
       ·simp at hj)
      simp [execOp,ho,this,Instr.loadAt,Instr.sureAddr,hl]
     ·refine bG.pack ?_ fun j k u hk hu=> ?_
      ·rw [FA aB]
       have:=hrel.rs.BO
       simpa only [List.map_take,List.map_drop] using this
      ·have hk': ∃z,((cs.drop off).take ts.length)[j]? =some z/\z.1=k:=by
        simp only [<-List.map_take, <-List.map_drop,List.getElem?_map,Option.map_eq_some_iff] at hk
        exact hk
       obtain ⟨z,hz,rfl⟩:=hk'
       obtain ⟨u',hu',hr'⟩:=hrel.get hz
       rw [hu] at hu';cases hu'
       exact hr'.kk
    ·simp at h
   ·simp at h
  ·simp at h
 ·rename_i g e off hb
  obtain ⟨st,h2,h3⟩:=oJ hb
  obtain ⟨h4,h5⟩:=mG hs h2
  split at h
  ·rename_i us he
   obtain ⟨l,hl,hlt⟩:=gX (E.cZ aB e _ he)
   split at h
   ·rename_i t hv
    split at h
    ·rename_i hoff
     simp at h;subst h
     refine ⟨_,rfl,rfl,fun g hg=>by simp [cf,K.has] at hg,fun hg _=> ?_⟩
     obtain ⟨b,o',hp,hr⟩:=zm h3 h4 hg
     rw [hl,D.kM] at hr
     obtain ⟨i,d,hi,_,_,_,hd,jo⟩:=fk aI aQ hv
     have vz:off<l.length:=by rw [hlt.length];exact hoff
     obtain ⟨u,hu,_,vC⟩:=hr.get (i:=0) (d:=l[off]) (by simp [List.getElem?_drop,vz])
     refine ⟨u,w,by simp [execOp,ho,hp,Instr.loadAt,Instr.sureAddr,Em hd jo (by simpa using hu)],Below.refl _ _,dV hg ?_⟩
     simp only [bG,E.den,hl,D.kM,List.getD,List.getElem?_eq_getElem vz,Option.getD_some]
     exact vC
    ·simp at h
   ·rename_i ts hv
    obtain ⟨i,fields,z,hi,hsz,_,_,_,hu,_⟩:=lG aI aQ hv
    split at h
    ·rename_i hc
     simp at h;subst h
     refine ⟨_,rfl,rfl,fun g hg=>by simp [cf,K.has] at hg,fun hg _=> ?_⟩
     obtain ⟨b,o',hp,hr⟩:=zm h3 h4 hg
     rw [hl,D.kM,hc.1,List.drop_zero] at hr
     obtain ⟨vs,hvl,hrs,hcs⟩:=hr.cells
     have hll:=En (P:=P) (w:=w) hu hi (b:=b) (o:=o') (vs:=vs) (by rw [hvl,hlt.length,hsz];exact hc.2.symm) hcs
     refine ⟨.agg vs.toArray,w,by simp [execOp,ho,hp,Instr.loadAt,Instr.sureAddr,hll],Below.refl _ _,dV hg ?_⟩
     simp only [bG,hl]
     exact hrs.BO
    ·split at h
     ·rename_i hc
      simp at h;subst h
      refine ⟨_,rfl,rfl,fun g hg=>by simp [cf,K.has] at hg,fun hg _=> ?_⟩
      obtain ⟨b,o',hp,hr⟩:=zm h3 h4 hg
      rw [hl,D.kM] at hr
      obtain ⟨vs,hvl,hrs,hcs⟩:=(hr.take ts.length).cells
      have hll:=En (P:=P) (w:=w) hu hi (b:=b) (o:=o') (vs:=vs) (by rw [hvl,hsz];have:=hlt.length;simp;omega) hcs
      refine ⟨.agg vs.toArray,w,by simp [execOp,ho,hp,Instr.loadAt,Instr.sureAddr,hll],Below.refl _ _,dV hg ?_⟩
      simp only [bG,E.den,hl,D.kM]
      exact hrs.BO
     ·simp at h
   ·simp at h
  ·simp at h
 ·simp at h
theorem F6: ∀{fs:List (Nat×Nat)} {fl:List Field},mw tb fs fl=true-> ∀{f fo ft:Nat},fs[f]? =some (fo,ft)-> ∃x,fl[f]? =some x/\x.offset=fo/\x.type=ft
 | [],_,_,f,fo,ft,hf=>by simp at hf
 | (o',t')::r,[],h,f,fo,ft,hf=>by simp [mw] at h
 | (o',t')::r,x::fl,h,f,fo,ft,hf=>by
  simp only [mw,Bool.and_eq_true,beq_iff_eq] at h
  cases f with
  | zero=>simp at hf;obtain ⟨rfl,rfl⟩:=hf;exact ⟨x,rfl,h.1.1.1.symm,h.1.1.2.symm⟩
  | succ f=>simp at hf;simpa using F6 h.2 hf
theorem acy(aI:cL P tb tb=true)(hs:aM c F σ bm tm a w){n:Nat}{o:Oper}{x:Operand}{T f:Nat}(ho:o.op= .fieldAddr T x f){ti:TI}(aQ:tb.get T=some ti){aS:aU}
  (h:FM tb Γ gs o.dst ti (aT tb σ 0 x) f=some aS):ib P c F gs σ bm tm a w n o aS:=by
 unfold FM at h
 split at h
 ·rename_i ts fo ft hv hf
  obtain ⟨i,fields,z,hi,hsz,_,_,_,hu,hfo⟩:=lG aI aQ hv
  obtain ⟨fl,hfl,hoff,hty⟩:=F6 hfo hf
  split at h
  ·rename_i fi hfi
   split at h
   ·simp at h
   ·rename_i hne
    split at h
    ·simp at h
    ·rename_i v1 hv1
     obtain ⟨j,hj,hjs,_⟩:=pJ aI hfi hv1
     have hcl:fi.cells=v1.cells:=by simp [TI.cells,hv1]
     have hrun: ∀(ad:Addr),(Instr.fieldAt T (.pointer (some ad)) f).run P w= .ok (.pointer (some (ad.add fo))) w:=fun ad=>by
      have X5:fields[f]? =some fl:=by simpa using hfl
      have Yq:v1.cells≠[]:=by rw [<-hcl];intro e;simp [e] at hne
      have yF:(sizeOf fl.type).run P w= .ok v1.cells.length w:=by rw [hty,run_sizeOf hj,hjs]
      simp [Instr.fieldAt,run_underlying hu,X5,Instr.sureAddr,fieldPlace,yF,Yq,hoff]
     split at h
     ·rename_i g id off hb
      simp at h;subst h
      obtain ⟨st,h2,h3⟩:=oJ hb
      obtain ⟨h4,h5⟩:=mG hs h2
      refine ⟨_,rfl,rfl,fun g hg=>h5 g (ED h3 (by simpa [cf] using hg)),fun hg _=> ?_⟩
      have:=zl h3 h4 hg
      refine ⟨.pointer (some ⟨bm id,off+fo,none⟩),w,by simp [execOp,ho,this,hrun,addr_add],Below.refl _ _,fun _=>rfl,fun h=>absurd hg h⟩
     ·rename_i g e off hb
      simp at h;subst h
      obtain ⟨st,h2,h3⟩:=oJ hb
      obtain ⟨h4,h5⟩:=mG hs h2
      refine ⟨_,rfl,rfl,fun g hg=>by simp [cf,K.has] at hg,fun hg _=> ?_⟩
      obtain ⟨b,o',hp,hr⟩:=zm h3 h4 hg
      refine ⟨.pointer (some ⟨b,o'+fo,none⟩),w,by simp [execOp,ho,hp,hrun,addr_add],Below.refl _ _,fun _=>⟨b,o'+fo,rfl,?_⟩,fun h=>absurd hg h⟩
      have:=hr.drop fo
      rwa [List.drop_drop] at this
     ·simp at h
  ·simp at h
 ·simp at h
theorem jE{M:Addr->Prop}{env:List D}(aB:bQ tb.tab Γ env){k:K}{e:E}{v:Value}{kk:IntKind}(h:e.inf tb.tab Γ=some (.one (.c (.int kk))))(hr:bG w M tm env k e v): ∃n,e.den env= .int kk n/\v= .int kk n/\kk.min<=n/\n<=kk.max:=by
 obtain ⟨n,hn⟩:=nX (E.cZ aB e _ h)
 have:=hr.rd
 rw [hn] at this
 exact ⟨n,hn,this.1,this.2⟩
theorem tq{M:Addr->Prop}{env:List D}(aB:bQ tb.tab Γ env){k:K}{e:E}{v:Value}(h:e.inf tb.tab Γ=some (.one (.c .bool)))(hr:bG w M tm env k e v): ∃b,e.den env= .bool b/\v= .bool b:=by
 obtain ⟨n,hn⟩:=nk (E.cZ aB e _ h)
 have:=hr.rd
 rw [hn] at this
 exact ⟨n,hn,this⟩
theorem uW{M:Addr->Prop}{env:List D}(aB:bQ tb.tab Γ env){k:K}{e:E}{v:Value}(h:e.inf tb.tab Γ=some (.one (.c .str)))(hr:bG w M tm env k e v): ∃s,e.den env= .str s/\v= .string s/\s.size<=maxLen:=by
 obtain ⟨n,hn⟩:=mB (E.cZ aB e _ h)
 have:=hr.rd
 rw [hn] at this
 exact ⟨n,hn,this.1,this.2⟩
theorem xN{M:Addr->Prop}{env:List D}(aB:bQ tb.tab Γ env){k:K}{e:E}{v:Value}{el:Nat}(h:e.inf tb.tab Γ=some (.one (.c (.sl el))))(hr:bG w M tm env k e v) :
  ∃rows,e.den env= .sl rows/\dI tb.tab (tb.tab el) rows/\ ∃ad len cap,v= .slice ad len cap/\len=rows.length/\len<=cap/\cap<=maxLen/\(ad=none->cap=0)/\ ∀b o s,ad=some ⟨b,o,s⟩->(0<len->s=none)/\dF w M rows b o:=by
 obtain ⟨rows,hn,ht⟩:=nY (E.cZ aB e _ h)
 have:=hr.rd
 rw [hn] at this
 exact ⟨rows,hn,ht,this⟩
theorem P9(aI:cL P tb tb=true)(hs:aM c F σ bm tm a w)(aB:bQ tb.tab Γ c.env){n:Nat}{o:Oper}{x i:Operand}{T:Nat}(ho:o.op= .indexAddr T x i){ti:TI}(aQ:tb.get T=some ti){aS:aU}
  (h:CS tb Γ gs o.dst ti (aT tb σ T x) (aT tb σ 0 i)=some aS):ib P c F gs σ bm tm a w n o aS:=by
 unfold CS at h
 split at h
 ·rename_i el kx ex ki ei hv hx hi
  split at h
  ·rename_i CZ gq
   split at h
   ·simp at h
   ·rename_i v1 hv1
    split at h
    ·rename_i hc
     simp at h;subst h
     refine ⟨_,rfl,rfl,fun g hg=>by simp [cf,K.has] at hg,fun hg hr=> ?_⟩
     have hin:hO P c.env n (.cond gs (.cw ex ei)):=hr _ (by simp)
     replace hin:=hin hg
     obtain ⟨rows,hrows,ef,ad,len,cap,hval,hlen,hcap,hmax,hnone,hcells⟩:=xN aB (nD hc.1) ((cW hs hx).1 hg)
     obtain ⟨kk,hkk⟩:=rE hc.2
     obtain ⟨m,hm,hmv,_⟩:=jE aB hkk ((cW hs hi).1 hg)
     simp only [E.den,hrows,hm,D.dE,jd,D.bool.injEq,decide_eq_true_eq] at hin
     obtain ⟨i',d,YN,_,_,_,hd,jo⟩:=fk aI aQ hv
     simp only [fO] at jo;subst jo
     obtain ⟨j,hj,hjs,_⟩:=pJ aI gq hv1
     have htab:tb.tab el=v1.cells:=by simp [TB.tab,gq,TI.cells,hv1]
     have hlt:m.toNat<rows.length:=by omega
     rcases ad with _|⟨b,o',s⟩
     ·have:=hnone rfl;omega
     ·obtain ⟨hs0,vD⟩:=hcells b o' s rfl
      have vG:=hs0 (by omega);subst vG
      refine ⟨.pointer (some ⟨b,o'+m.toNat*v1.cells.length,none⟩),w,?_,Below.refl _ _,fun _=>⟨b,_,rfl,?_⟩,fun h=>absurd hg h⟩
      ·have jM:m<(len:Int):=by omega
       simp [execOp,ho,hval,hmv,Instr.indexAt,asIntOf,run_underlying hd,run_sizeOf hj,hjs,hin.1,jM,addr_add]
      ·simp only [E.den,hrows,hm,D.wN,D.dE,List.getElem?_eq_getElem hlt,Option.getD_some,D.kM,List.drop_zero]
       exact vD.get (fun r hr=>by rw [ef.len r hr,htab]) (List.getElem?_eq_getElem hlt)
    ·simp at h
  ·simp at h
 ·simp at h
theorem acK(hs:aM c F σ bm tm a w){n:Nat}{o:Oper}{x:Operand}(ho:o.op= .nilCheck x){T:Nat}{aS:aU}(h:FW gs o.dst (aT tb σ T x)=some aS):ib P c F gs σ bm tm a w n o aS:=by
 unfold FW at h
 split at h
 ·rename_i g id off hb
  simp at h;subst h
  obtain ⟨st,h2,h3⟩:=oJ hb
  obtain ⟨h4,h5⟩:=mG hs h2
  refine ⟨_,rfl,rfl,fun g hg=>h5 g (ED h3 (by simpa [cf] using hg)),fun hg _=> ?_⟩
  have:=zl h3 h4 hg
  exact ⟨_,w,by simp [execOp,ho,this],Below.refl _ _,fun _=>rfl,fun h=>absurd hg h⟩
 ·rename_i g e off hb
  simp at h;subst h
  obtain ⟨st,h2,h3⟩:=oJ hb
  obtain ⟨h4,h5⟩:=mG hs h2
  refine ⟨_,rfl,rfl,fun g hg=>by simp [cf,K.has] at hg,fun hg _=> ?_⟩
  obtain ⟨b,o',hp,hr⟩:=zm h3 h4 hg
  exact ⟨_,w,by simp [execOp,ho,hp],Below.refl _ _,fun _=>⟨b,o',rfl,hr⟩,fun h=>absurd hg h⟩
 ·simp at h
theorem acL(hs:aM c F σ bm tm a w)(aB:bQ tb.tab Γ c.env){n:Nat}{o:Oper}{x:Operand}{T T':Nat}(ho:o.op= .unOp .not T' x){aS:aU}(h:FX tb.tab Γ gs o.dst (aT tb σ T x)=some aS):ib P c F gs σ bm tm a w n o aS:=by
 unfold FX at h
 split at h
 ·rename_i k e hx
  split at h
  ·rename_i hc
   simp at h;subst h
   refine ⟨_,rfl,rfl,fun g hg=>by simp [cf,K.has] at hg,fun hg _=> ?_⟩
   obtain ⟨b,hb,hv⟩:=tq aB (nD hc) ((cW hs hx).1 hg)
   exact ⟨.bool !b,w,by simp [execOp,ho,hv,Op.unary],Below.refl _ _,dV hg (by simp [bG,E.den,hb,R])⟩
  ·simp at h
 ·simp at h
theorem acI(hs:aM c F σ bm tm a w)(aB:bQ tb.tab Γ c.env){n:Nat}{o:Oper}{x:Operand}{T T':Nat}(ho:o.op= .unOp .neg T' x){aS:aU}(h:FV tb.tab Γ gs o.dst (aT tb σ T x)=some aS):ib P c F gs σ bm tm a w n o aS:=by
 unfold FV at h
 split at h
 ·rename_i k e hx
  split at h
  ·rename_i kk hk
   simp at h;subst h
   refine ⟨_,rfl,rfl,fun g hg=>by simp [cf,K.has] at hg,fun hg _=> ?_⟩
   obtain ⟨m,hm,hmv,_⟩:=jE aB hk ((cW hs hx).1 hg)
   refine ⟨.int kk (kk.wrap (0-m)),w,by simp [execOp,ho,hmv,Op.unary,Op.intArith],Below.refl _ _,dV hg ?_⟩
   simp only [bG,E.den,hm,D.dE,R,cP]
   exact ⟨trivial,wrap_within _ _⟩
  ·simp at h
 ·simp at h
theorem LQ{t:CT}{d:D}{v:Value}{M:Addr->Prop}(ht:cE tb.tab (.c t) d)(hr:R w M d v):gf v=[v]:=by
 have ht:bW tb.tab t d:=ht
 cases t with
 | bool=>obtain ⟨b,rfl⟩:=nk ht;have:v= .bool b:=hr;subst this;rfl
 | int k=>obtain ⟨n,rfl⟩:=nX ht;have:v= .int k n:=hr.1;subst this;rfl
 | str=>obtain ⟨s,rfl⟩:=mB ht;have:v= .string s:=hr.1;subst this;rfl
 | sl e=>obtain ⟨r,rfl,_⟩:=nY ht;obtain ⟨ad,len,cap,rfl,_⟩:=hr;rfl
 | mem=>obtain ⟨n,rfl⟩:=Av ht;obtain ⟨ad,cap,rfl,_⟩:=hr;rfl
 | fn=>obtain ⟨f,gb,rfl⟩:=Dn ht;obtain ⟨ps,rfl,_⟩:=hr;rfl
theorem W4{v1:V1}{d:D}{v:Value}{M:Addr->Prop}(ht:cE tb.tab v1 d)(hr:R w M d v):(gf v).length=v1.cells.length:=by
 cases v1 with
 | c t=>rw [LQ ht hr];rfl
 | agg ts =>
  obtain ⟨l,rfl,hlt⟩:=gX ht
  obtain ⟨cs,rfl,hrs⟩:=hr
  simp only [gf,V1.cells]
  rw [hrs.length,hlt.length]
theorem LU{M:Addr->Prop}: ∀{vs:List V1} {l:List D} {us:List Value},gZ tb.tab vs l->Rs w M l us-> ∀{i j:Nat} {u x:Value},i<vs.length->us[i]? =some u->(gf u)[j]? =some x->(us.flatMap gf)[rL vs i+j]? =some x
 | [],_,_,_,_,i,_,_,_,hi,_,_=>by simp at hi
 | v::vs,[],_,h,_,_,_,_,_,_,_,_=>by simp [gZ] at h
 | v::vs,d::l,us,h,⟨u0,q,e,h1,h2⟩,i,j,u,x,hi,hu,hx=>by
  subst e
  simp only [gZ] at h
  have hlen:=W4 h.1 h1
  cases i with
  | zero =>
   simp at hu;subst hu
   have hj:j<(gf u0).length:=(List.getElem?_eq_some_iff.1 hx).1
   simp only [List.flatMap_cons,rL,Nat.zero_add]
   rw [List.getElem?_append_left hj];exact hx
  | succ i =>
   simp at hu hi
   have:=LU h.2 h2 hi hu hx
   simp only [List.flatMap_cons,rL]
   rw [List.getElem?_append_right (by omega),show v.cells.length+rL vs i+j-(gf u0).length=rL vs i+j by omega]
   exact this
theorem W7{M:Addr->Prop}{vs:List V1}{l:List D}{cs:Array Value}(h:gZ tb.tab vs l)(hr:Rs w M l cs.toList){i j:Nat}{u x:Value}(hi:i<vs.length)(hu:cs.toList[i]? =some u)(hx:(gf u)[j]? =some x):(iZ (.tuple cs))[rL vs i+j]? =some x :=
 LU h hr hi hu hx
theorem acx(hs:aM c F σ bm tm a w)(aB:bQ tb.tab Γ c.env){n:Nat}{o:Oper}{x:Operand}{T i:Nat}(ho:o.op= .extract x i){aS:aU}(h:FL tb.tab Γ gs o.dst (aT tb σ T x) i=some aS):ib P c F gs σ bm tm a w n o aS:=by
 unfold FL at h
 split at h
 ·rename_i k e hx
  split at h
  ·rename_i vs he
   split at h
   ·rename_i hi
    simp at h;subst h
    refine ⟨_,rfl,rfl,fun g hg=>(cW hs hx).2 g (K.XM (show (IW _ _ _).has g from hg)),fun hg _=> ?_⟩
    obtain ⟨l,hl,hlt⟩:=Gn (E.cZ aB e _ he)
    have hk0:=(cW hs hx).1 hg
    have hr:=((cW hs hx).1 hg).rd
    rw [hl] at hr
    obtain ⟨cs,hcs,hrs⟩:=hr
    obtain ⟨d,hd,_⟩:=hlt.get (List.getElem?_eq_getElem hi)
    obtain ⟨u,hu,vC⟩:=hrs.get hd
    have hu':cs[i]? =some u:=by simpa using hu
    have Ar:R w (MM c.M0 bm tm σ) ((E.proj e i).den c.env) u:=by simpa [E.den,hl,List.getD,hd] using vC
    refine ⟨u,w,by simp [execOp,ho,hcs,Instr.extract,hu'],Below.refl _ _,dV hg ?_⟩
    have hty:cE tb.tab vs[i] ((E.proj e i).den c.env):=by
     obtain ⟨d',hd',ht'⟩:=hlt.get (List.getElem?_eq_getElem hi)
     rw [hd] at hd';cases hd'
     simpa [E.den,hl,List.getD,hd] using ht'
    rw [hcs] at hk0
    have hfl: ∀(j:Nat) (x:Value),(gf u)[j]? =some x->(iZ (.tuple cs))[rL vs i+j]? =some x:=fun j x hx=>W7 hlt hrs hi (by simpa using hu') hx
    rw [List.getElem?_eq_getElem hi]
    cases hv1:vs[i] with
    | c t =>
     rw [hv1] at hty
     have h1:gf u=[u]:=LQ hty Ar
     exact bG.OM Ar (hk0.nth (by have:=hfl 0 u (by rw [h1];rfl);simpa using this))
    | agg ts =>
     rw [hv1] at hty
     obtain ⟨l',hl',vz⟩:=gX hty
     have Mq:=Ar
     rw [hl'] at Mq
     obtain ⟨us,rfl,rC⟩:=Mq
     have:us=us.toList.toArray:=by simp
     rw [this] at Ar ⊢
     refine bG.pack Ar fun j k x hk hx=> ?_
     simp only [List.getElem?_map,Option.map_eq_some_iff] at hk
     obtain ⟨j',hj',rfl⟩:=hk
     have hj2:j'=j:=by
      rw [List.getElem?_eq_some_iff] at hj'
      obtain ⟨q1,q2⟩:=hj'
      simpa using q2.symm
     subst hj2
     exact hk0.nth (hfl j' x (by simpa [gf] using hx))
   ·simp at h
  ·simp at h
 ·simp at h
theorem acw(aI:cL P tb tb=true)(hs:aM c F σ bm tm a w)(aB:bQ tb.tab Γ c.env){n:Nat}{o:Oper}{x:Operand}{S T:Nat}(ho:o.op= .convert S T x){si ti:TI}(hsi:tb.get S=some si)(aQ:tb.get T=some ti){aS:aU}
  (h:FK tb.tab Γ gs o.dst (I8 tb si) si ti (aT tb σ S x)=some aS):ib P c F gs σ bm tm a w n o aS:=by
 unfold FK at h
 split at h
 ·rename_i k1 k2 kx e hv1 hv2 hx
  split at h
  ·rename_i hc
   simp at h;subst h
   refine ⟨_,rfl,rfl,fun g hg=>by simp [cf,K.has] at hg,fun hg _=> ?_⟩
   obtain ⟨kk,hkk⟩:=rE hc
   obtain ⟨m,hm,hmv,_⟩:=jE aB hkk ((cW hs hx).1 hg)
   obtain ⟨_,d1,_,_,_,_,hd1,dM⟩:=fk aI hsi hv1
   obtain ⟨_,d2,_,_,_,_,jn,tL⟩:=fk aI aQ hv2
   simp only [fO] at dM tL;subst dM tL
   refine ⟨.int k2 (k2.wrap m),w,by simp [execOp,ho,hmv,convert,run_underlying hd1,run_underlying jn,Conv.intToInt],Below.refl _ _,dV hg ?_⟩
   simp only [bG,E.den,hm,D.dE,R]
   exact ⟨trivial,wrap_within _ _⟩
  ·simp at h
 ·rename_i el kx e hv1 hv2 hx
  split at h
  ·rename_i hc
   simp at h;subst h
   refine ⟨_,rfl,rfl,fun g hg=>by simp [cf,K.has] at hg,fun hg _=> ?_⟩
   obtain ⟨rows,hrows,ef,ad,len,cap,hval,hlen,hcap,hmax,hnone,hcells⟩:=xN aB (nD hc.1) ((cW hs hx).1 hg)
   obtain ⟨_,d1,_,_,_,_,hd1,dM⟩:=fk aI hsi hv1
   obtain ⟨_,d2,_,_,_,_,jn,tL⟩:=fk aI aQ hv2
   simp only [fO] at dM tL;subst dM tL
   have hel:P.underlying el=some (.int .u8):=by
    have h8:=hc.2.1
    unfold I8 at h8
    rw [hv1] at h8
    simp only at h8
    split at h8
    ·rename_i i hi
     split at h8
     ·rename_i YR
      obtain ⟨_,d3,_,_,_,_,hd3,Mz⟩:=fk aI hi YR
      simp only [fO] at Mz;subst Mz;exact hd3
     ·simp at h8
    ·simp at h8
   rw [hc.2.2] at ef
   refine ⟨.string (s9 (.sl rows)),w,?_,Below.refl _ _,dV hg ?_⟩
   ·rcases ad with _|⟨b,o',s⟩
    ·have h0:rows=[]:=List.eq_nil_of_length_eq_zero (by have:=hnone rfl;omega)
     subst h0
     have:=run_convert_bytes_nil (P:=P) w S el hd1 hel len cap T jn
     simp [execOp,ho,hval,this]
     rfl
    ·obtain ⟨hs0,vD⟩:=hcells b o' s rfl
     have hcs: ∀i,i<len->w.cell? ⟨b,o'+i,none⟩=some (.int .u8 ((rows.map fun r=>(r.headD .un).cC).getD i 0)):=by
      intro i hi
      have hr:=vD.get (n:=1) (fun r hr=>ef.len r hr) (List.getElem?_eq_getElem (show i<rows.length by omega))
      have hm:=ef.mem _ (List.getElem_mem (show i<rows.length by omega))
      match vB:rows[i],hm with
      | [d],hm =>
       obtain ⟨n,rfl⟩:=nX hm.1
       rw [vB] at hr
       obtain ⟨⟨v,h1,_,h2⟩,_⟩:=hr
       have:v= .int .u8 n:=h2.1
       subst this
       rw [Nat.mul_one] at h1
       rw [h1]
       simp [List.getD,List.getElem?_eq_getElem (show i<rows.length by omega),vB]
     rcases Nat.eq_zero_or_pos len with h0|h0
     ·subst h0
      have h0':rows=[]:=List.eq_nil_of_length_eq_zero hlen.symm
      subst h0'
      have hrun:(convert S T (.slice (some ⟨b,o',s⟩) 0 cap)).run P w= .ok (.string (strOfNums [])) w:=by
       rw [run_convert_bytes_string w S T el _ 0 cap hd1 hel jn,run_bytesToString w _ 0 cap [] (by simpa using run_loadCells_list (P:=P) (w:=w) ⟨b,o',s⟩ [] (fun j u h=>by simp at h))]
       rfl
      simp [execOp,ho,hval,hrun,s9]
     ·have:=hs0 h0;subst this
      have hrun:=run_convert_bytes_arg (P:=P) w S el hd1 hel b o' len cap (rows.map fun r=>(r.headD .un).cC) (by simp [hlen]) hcs T jn
      simp [execOp,ho,hval,hrun,s9]
   ·simp only [bG,E.den,hrows,R]
    refine ⟨trivial,?_⟩
    show (strOfNums _).size<=_
    simp [strOfNums,ByteArray.size]
    omega
  ·simp at h
 ·simp at h
theorem Er{n:Nat}(h:n<=maxLen):IntKind.i64.min<=(n:Int)/\(n:Int)<=IntKind.i64.max:=by
 unfold maxLen at h
 simp [IntKind.min,IntKind.max,IntKind.signed,IntKind.bits]
 omega
theorem sLen(aI:cL P tb tb=true)(hs:aM c F σ bm tm a w)(aB:bQ tb.tab Γ c.env){n:Nat}{o:Oper}{x:Operand}{T:Nat}{cl:Call}(ho:o.op= .call cl)(hcl:cl.callee= .builtin .len)(har:cl.args.toList=[x])(hat:cl.argTypes.toList=[T])
  {ti:TI} (aQ:tb.get T=some ti) {aS:aU} (h:FQ tb.tab Γ gs o.dst ti (aT tb σ T x)=some aS):ib P c F gs σ bm tm a w n o aS:=by
 have har':cl.args= #[x]:=by rw [<-Array.toList_inj,har]
 have hat':cl.argTypes= #[T]:=by rw [<-Array.toList_inj,hat]
 unfold FQ at h
 split at h
 ·rename_i k e hx
  split at h
  ·rename_i hc
   simp at h;subst h
   refine ⟨_,rfl,rfl,fun g hg=>by simp [cf,K.has] at hg,fun hg _=> ?_⟩
   have fq:=(cW hs hx).1 hg
   rcases hc with hc|⟨mE,hsl⟩
   rotate_left
   ·obtain ⟨n,hn⟩:=Av (E.cZ aB e _ mE)
    have jr:=fq.rd
    rw [hn] at jr
    obtain ⟨ad,cap,hval,hcap,hmax,_⟩:=jr
    unfold NH at hsl
    split at hsl
    ·rename_i el hv
     obtain ⟨_,d1,_,_,_,_,hd1,dM⟩:=fk aI aQ hv
     simp only [fO] at dM;subst dM
     refine ⟨.int .i64 n,w,by simp [execOp,ho,resolve,hcl,invoke,builtin,Builtin.len_,har',hat',hval,run_underlying hd1,goInt],Below.refl _ _,dV hg ?_⟩
     simp only [bG,E.den,hn,jd,R]
     exact ⟨trivial,Er (by omega)⟩
    ·simp at hsl
   obtain ⟨mE,vF⟩:=hc
   unfold DR at vF
   split at vF
   ·rename_i hv
    obtain ⟨_,d1,_,_,_,_,hd1,dM⟩:=fk aI aQ hv
    simp only [fO] at dM;subst dM
    obtain ⟨s,DJ,hsv,gr⟩:=uW aB (by rw [mE,hv]) fq
    refine ⟨.int .i64 s.size,w,by simp [execOp,ho,resolve,hcl,invoke,builtin,Builtin.len_,har',hat',hsv,run_underlying hd1,goInt],Below.refl _ _,dV hg ?_⟩
    simp only [bG,E.den,DJ,jd,R]
    exact ⟨trivial,Er gr⟩
   ·rename_i el hv
    obtain ⟨_,d1,_,_,_,_,hd1,dM⟩:=fk aI aQ hv
    simp only [fO] at dM;subst dM
    obtain ⟨rows,hrows,ef,ad,len,cap,hval,hlen,hcap,hmax,hnone,hcells⟩:=xN aB (by rw [mE,hv]) fq
    refine ⟨.int .i64 len,w,by simp [execOp,ho,resolve,hcl,invoke,builtin,Builtin.len_,har',hat',hval,run_underlying hd1,goInt],Below.refl _ _,dV hg ?_⟩
    simp only [bG,E.den,hrows,jd,R,hlen]
    exact ⟨trivial,Er (by omega)⟩
   ·simp at vF
  ·simp at h
 ·simp at h
theorem sAt(aI:cL P tb tb=true)(hs:aM c F σ bm tm a w)(aB:bQ tb.tab Γ c.env){n:Nat}{o:Oper}{x i:Operand}{T:Nat}(ho:o.op= .index T x i){ti:TI}(aQ:tb.get T=some ti){aS:aU}
  (h:FH tb.tab Γ gs o.dst ti (aT tb σ T x) (aT tb σ 0 i)=some aS):ib P c F gs σ bm tm a w n o aS:=by
 unfold FH at h
 split at h
 ·rename_i kx ex ki ei hv hx hi
  split at h
  ·rename_i hc
   simp at h;subst h
   refine ⟨_,rfl,rfl,fun g hg=>by simp [cf,K.has] at hg,fun hg hr=> ?_⟩
   have hin:hO P c.env n (.cond gs (.cw ex ei)):=hr _ (by simp)
   replace hin:=hin hg
   obtain ⟨s,hs1,hsv,gr⟩:=uW aB (nD hc.1) ((cW hs hx).1 hg)
   obtain ⟨kk,hkk⟩:=rE hc.2
   obtain ⟨m,hm,hmv,_⟩:=jE aB hkk ((cW hs hi).1 hg)
   simp only [E.den,hs1,hm,D.dE,jd,D.bool.injEq,decide_eq_true_eq] at hin
   obtain ⟨_,d1,_,_,_,_,hd1,dM⟩:=fk aI aQ hv
   simp only [fO] at dM;subst dM
   have hlt:m.toNat<s.size:=by omega
   refine ⟨.int .u8 (s[m.toNat]'hlt).toNat,w,by simp [execOp,ho,hsv,hmv,Instr.index,asIntOf,run_underlying hd1,hin.1,hlt],Below.refl _ _,dV hg ?_⟩
   have h8:=(s[m.toNat]'hlt).toNat_lt
   simp only [bG,E.den,hs1,hm,D.fM,D.dE,R]
   simp [hlt,IntKind.min,IntKind.max,IntKind.signed,IntKind.bits]
   omega
  ·simp at h
 ·simp at h
theorem X7{tab:Nat->List CT}{n:Nat}{t:CT}{d:D}(h:cE tab (.agg (List.replicate n t)) d): ∃l,d= .agg l/\l.length=n/\ba tab (List.replicate n t) l:=by
 obtain ⟨l,hl,hlt⟩:=gX h
 exact ⟨l,hl,by rw [hlt.length,List.length_replicate],hlt⟩
theorem Zf{ei:TI}{e:Nat}{t:CT}(aI:cL P tb tb=true)(gq:tb.get e=some ei)(hv:ei.vt= .one (.c t)):(isAgg e).run P w= .ok false w:=by
 obtain ⟨i,d,_,_,_,_,hd,jo⟩:=fk aI gq hv
 exact IG hd jo
theorem acB(aI:cL P tb tb=true)(hs:aM c F σ bm tm a w)(yz:kp w)(aB:bQ tb.tab Γ c.env){o:Oper}{g T:Nat}(ho:o.op= .load T (.global g)){ti:TI}(aQ:tb.get T=some ti){aS:aU}
  (h:FP tb Γ gs o.dst ti g=some aS):ib P c F gs σ bm tm a w Γ.length o aS:=by
 unfold FP at h
 split at h
 ·rename_i n t ha
  simp at h;subst h
  obtain ⟨e,ei,i,hu,gq,hev,hi,hsz⟩:=I4 aI aQ ha
  refine ⟨_,rfl,rfl,fun g hg=>by simp [cf,K.has] at hg,fun hg hr=> ?_⟩
  have hq:hO P c.env Γ.length (.nV g (.one (.agg (List.replicate n t))) none):=hr _ (by simp)
  obtain ⟨hq1,_,l,hl,hll⟩:=hq
  rw [List.length_replicate] at hll
  rw [hl] at hq1
  obtain ⟨cs,t0,f0,h1,h2⟩:=hq1 w yz
  have h3:=h2 w (MM c.M0 bm tm σ)
  simp only [D.kM] at h3
  have hrun:=acf (P:=P) (w:=w) hu hi (b:=g) (o:=0) (vs:=cs.toList) (by rw [h3.length,hll,hsz]) (fun j u hj=>by
   rw [Nat.zero_add]
   simp only [World.cell?,h1]
   simpa using hj)
  refine ⟨.agg cs,w,?_,Below.refl _ _,dV hg ?_⟩
  ·simp [execOp,ho,Act.eval,Instr.loadAt,Instr.sureAddr,hrun]
  ·show R w _ (c.env.getD Γ.length .un) (.agg cs)
   rw [hl]
   exact ⟨cs,rfl,h3⟩
 ·simp at h
theorem acA(aI:cL P tb tb=true)(hs:aM c F σ bm tm a w)(aB:bQ tb.tab Γ c.env){o:Oper}{g T T':Nat}{i:Operand}(ho:o.op= .indexAddr T (.global g) i){ti:TI}(aQ:tb.get T=some ti){aS:aU}
  (h:FO tb Γ gs o.dst ti g (aT tb σ T' i)=some aS):ib P c F gs σ bm tm a w Γ.length o aS:=by
 unfold FO at h
 split at h
 ·rename_i n t ki ei ha hx
  split at h
  ·rename_i hint
   simp at h;subst h
   obtain ⟨e,CZ,i',hu,gq,hev,hi,hsz⟩:=I4 aI aQ ha
   refine ⟨_,rfl,rfl,fun g hg=>by simp [cf] at hg,fun hg hr=> ?_⟩
   have hq:hO P c.env Γ.length (.nV g (.one (.agg (List.replicate n t))) (some (gs,ei,n))):=hr _ (by simp)
   obtain ⟨hq1,hq2,l,hl,hll⟩:=hq
   rw [List.length_replicate] at hll
   obtain ⟨h0,h1⟩:=hq2 hg
   obtain ⟨kk,hkk⟩:=rE hint
   obtain ⟨m,hm,hmv,_⟩:=jE aB hkk ((cW hs hx).1 hg)
   rw [hm] at h0 h1
   simp only [D.dE] at h0 h1
   obtain ⟨j,hj,hjs,_⟩:=pJ aI gq hev
   refine ⟨.pointer (some ⟨g,m.toNat,none⟩),w,?_,Below.refl _ _,fun _=>⟨?_,hq1,?_⟩,fun h=>absurd hg h⟩
   ·have vr:a.eval (.global g)= .pointer (some ⟨g,0,none⟩):=rfl
    simp [execOp,ho,vr,hmv,Instr.indexAt,asIntOf,Instr.sureAddr,run_underlying hu,run_sizeOf hj,hjs,V1.cells,h0,h1,addr_add]
   ·rw [hm];rfl
   ·show _<(c.env.getD Γ.length .un).il.length
    rw [hl,hm]
    simp only [D.kM,D.dE,hll];omega
  ·simp at h
 ·simp at h
theorem acF(aI:cL P tb tb=true)(hs:aM c F σ bm tm a w)(aB:bQ tb.tab Γ c.env){n:Nat}{o:Oper}{x i:Operand}{T T1 T2:Nat}(ho:o.op= .indexAddr T x i){ti:TI}(aQ:tb.get T=some ti){g0:Gd}{g:Nat}{l:E}(hx:aT tb σ T1 x=some (.v g0 (.own g) l)){aS:aU}
  (h:FR tb Γ gs o.dst ti g0 g l (aT tb σ T2 i)=some aS):ib P c F gs σ bm tm a w n o aS:=by
 unfold FR at h
 split at h
 ·rename_i el ki ei hv hi
  split at h
  ·rename_i e' he'
   split at h
   ·simp at h
   ·rename_i v1 hv1
    split at h
    ·rename_i hc
     simp at h;subst h
     obtain ⟨h4,h5⟩:=mG hs hx
     refine ⟨_,rfl,rfl,fun x hx=>h5 x hx,fun hg hr=> ?_⟩
     have hin:hO P c.env n (.cond gs (.cw l ei)):=hr _ (by simp)
     replace hin:=hin hg
     obtain ⟨kk,hkk⟩:=rE hc.2.2
     obtain ⟨m,hm,hmv,_⟩:=jE aB hkk ((cW hs hi).1 hg)
     obtain ⟨jr,gu⟩:=h4.1 (xR hc.1 hg)
     obtain ⟨L,hL⟩:=Av (E.cZ aB l _ (nD hc.2.1))
     rw [hL] at jr
     obtain ⟨ad,cap,hval,hcap,hmax,hnone,vG⟩:=jr
     simp only [E.den,hm,hL,D.dE,jd,D.bool.injEq,decide_eq_true_eq] at hin
     obtain ⟨i',d,YN,_,_,_,hd,jo⟩:=fk aI aQ hv
     simp only [fO] at jo;subst jo
     obtain ⟨j,hj,hjs,_⟩:=pJ aI he' hv1
     have htab:tb.tab el=v1.cells:=by simp [TB.tab,he',TI.cells,hv1]
     have hlt:m.toNat<L:=by omega
     rcases ad with _|⟨b,o',s⟩
     ·have:=hnone rfl;omega
     ·obtain rfl:=vG b o' s rfl (by omega)
      refine ⟨.pointer (some ⟨b,o'+m.toNat*v1.cells.length,none⟩),w,?_,Below.refl _ _,fun _=>⟨b,o',_,cap,gu.symm.trans hval,?_,?_,?_⟩,fun h=>absurd hg h⟩
      ·simp [execOp,ho,hval,hmv,Instr.indexAt,asIntOf,run_underlying hd,run_sizeOf hj,hjs,hin.1,hin.2,addr_add]
      ·rw [hm];exact hin.1
      ·rw [hm];exact hlt
      ·rw [hm,htab];rfl
    ·simp at h
  ·simp at h
 ·simp at h
theorem acz(aI:cL P tb tb=true)(hs:aM c F σ bm tm a w){n:Nat}{o:Oper}{x:Operand}{T f:Nat}(ho:o.op= .fieldAddr T x f){ti:TI}(aQ:tb.get T=some ti){aS:aU}
  (h:FN tb Γ gs o.dst ti (aT tb σ 0 x) f=some aS):ib P c F gs σ bm tm a w n o aS:=by
 unfold FN at h
 split at h
 ·rename_i hx;exact (by simp [KV] at h)
 ·exact acy aI hs ho aQ h
theorem PK{v:Value}{n:Nat}{Q:Nat->Nat->D->Value->Prop}{d:D}(hb:nO w v n Q d){a:Option Addr}{len cap:Nat}(hv:v= .slice a len cap){k:Nat}(hk:k<len) :
  ∃b o rows r,a=some ⟨b,o,none⟩/\d= .sl rows/\rows[k]? =some r/\r.length=n/\(∀r∈rows,r.length=n)/\rows.length=len/\len<=cap/\ ∀j d,r[j]? =some d-> ∃u,w.cell? ⟨b,o+k*n+j,none⟩=some u/\Q k j d u:=by
 obtain ⟨a',len',cap',rows,h1,h2,h3,h4,h5,h6,h7,h8⟩:=hb
 rw [hv] at h1
 simp only [Value.slice.injEq] at h1
 obtain ⟨rfl,rfl,rfl⟩:=h1
 have hlt:k<rows.length:=by omega
 rcases a with _|⟨b,o,s⟩
 ·have:=h6 rfl;omega
 ·obtain rfl:=(h8 b o s rfl).1 (by omega)
  exact ⟨b,o,rows,rows[k],rfl,h2,List.getElem?_eq_getElem hlt,h7 _ (List.getElem_mem hlt),h7,h3.symm,h4,fun j d hj=>(h8 b o none rfl).2 k _ (List.getElem?_eq_getElem hlt) j d hj⟩
theorem sLd(aI:cL P tb tb=true)(hs:aM c F σ bm tm a w)(yz:kp w)(aB:bQ tb.tab Γ c.env){o:Oper}{x:Operand}{T:Nat}(ho:o.op= .load T x){ti:TI}(aQ:tb.get T=some ti){aS:aU}
  (h:xH tb Γ gs o.dst σ ti x=some aS):ib P c F gs σ bm tm a w Γ.length o aS:=by
 unfold xH at h
 split at h
 ·rename_i g;exact acB aI hs yz aB ho aQ h
 ·split at h
  ·rename_i g0 g y ei hst
   split at h
   ·rename_i t ts hv hy
    split at h
    ·rename_i hc
     simp at h;subst h
     obtain ⟨hgd,hts⟩:=hc
     refine ⟨_,rfl,rfl,fun g hg=>by simp [cf,K.has] at hg,fun hg hr=> ?_⟩
     obtain ⟨h4,_⟩:=mG hs hst
     obtain ⟨hp,hG,hlt2⟩:=h4.1 (xR hgd hg)
     obtain ⟨cs,t0,f0,q1,q2⟩:=hG w yz
     have q3:=q2 w (MM c.M0 bm tm σ)
     obtain ⟨u,hu,vC⟩:=q3.get (List.getElem?_eq_getElem hlt2)
     obtain ⟨i,d,hi,_,_,_,hd,jo⟩:=fk aI aQ hv
     have hcell:w.cell? ⟨g,(ei.den c.env).cC.toNat,none⟩=some u:=by
      simp only [World.cell?,q1]
      simpa using hu
     refine ⟨u,w,by simp [execOp,ho,hp,Instr.loadAt,Instr.sureAddr,Em hd jo hcell],Below.refl _ _,dV hg ?_⟩
     simp only [bG,E.den,List.getElem?_eq_getElem hlt2,Option.getD_some]
     exact vC
    ·simp at h
   ·simp at h
  ·rename_i hst;exact (by simp [KW] at h)
  ·rename_i hst;exact (by simp [KT] at h)
  ·exact acE aI hs aB ho aQ h
theorem acC(aI:cL P tb tb=true)(hs:aM c F σ bm tm a w)(aB:bQ tb.tab Γ c.env){o:Oper}{x i:Operand}{T:Nat}(ho:o.op= .indexAddr T x i){ti:TI}(aQ:tb.get T=some ti){aS:aU}
  (h:xG tb Γ gs o.dst σ ti T x i=some aS):ib P c F gs σ bm tm a w Γ.length o aS:=by
 unfold xG at h
 split at h
 ·rename_i g;exact acA aI hs aB ho aQ h
 ·split at h
  ·rename_i g0 g l hst
   cases hm:fu .mem (l.inf tb.tab Γ) with
   | true=>rw [hm] at h;exact acF aI hs aB ho aQ hst h
   | false=>rw [hm] at h;exact P9 aI hs aB ho aQ h
  ·rename_i hst;exact (by simp [KS] at h)
  ·exact P9 aI hs aB ho aQ h
theorem acN(aI:cL P tb tb=true)(hs:aM c F σ bm tm a w)(aB:bQ tb.tab Γ c.env){n:Nat}{o:Oper}{x i:Operand}{T:Nat}(ho:o.op= .index T x i){ti:TI}(aQ:tb.get T=some ti){aS:aU}
  (h:FZ tb Γ gs o.dst ti (aT tb σ T x) (aT tb σ 0 i)=some aS):ib P c F gs σ bm tm a w n o aS:=by
 unfold FZ at h
 split at h
 ·rename_i m t ha
  split at h
  ·rename_i kx ex ki ei hx hi
   split at h
   ·rename_i hc
    simp at h;subst h
    obtain ⟨hty,hint⟩:=hc
    obtain ⟨e,CZ,i',hu,gq,hev,hi',hsz⟩:=I4 aI aQ ha
    refine ⟨_,rfl,rfl,fun g hg=>by simp [cf,K.has] at hg,fun hg hr=> ?_⟩
    have hq:hO P c.env n (.cond gs (.an (.ic .leq (.li .i64 0) ei) (.ic .lss ei (.li .i64 m)))):=hr _ (by simp)
    replace hq:=hq hg
    obtain ⟨l,hl,hll,hlt⟩:=X7 (E.cZ aB ex _ hty)
    obtain ⟨kk,hkk⟩:=rE hint
    obtain ⟨z,hz,hzv,_⟩:=jE aB hkk ((cW hs hi).1 hg)
    simp only [E.den,hz,D.dE,D.fL,bb,D.bool.injEq,Bool.and_eq_true,decide_eq_true_eq] at hq
    have hr0:=((cW hs hx).1 hg).rd
    rw [hl] at hr0
    obtain ⟨cs,hcs,hrs⟩:=hr0
    have hlt2:z.toNat<l.length:=by omega
    obtain ⟨u,hu',vC⟩:=hrs.get (List.getElem?_eq_getElem hlt2)
    obtain ⟨j,hj,hjs,_⟩:=pJ aI gq hev
    have XV:cs[z.toNat]? =some u:=by simpa using hu'
    have hag:=Zf (P:=P) (w:=w) aI gq hev
    refine ⟨u,w,?_,Below.refl _ _,dV hg ?_⟩
    ·simp [execOp,ho,hcs,hzv,Instr.index,asIntOf,run_underlying hu,run_sizeOf hj,hjs,V1.cells,hq.1,hq.2,part,hag,XV]
    ·simp only [bG,E.den,hl,hz,D.kM,D.dE,List.getElem?_eq_getElem hlt2,Option.getD_some]
     exact vC
   ·simp at h
  ·simp at h
 ·exact sAt aI hs aB ho aQ h
theorem acM(hs:aM c F σ bm tm a w)(aB:bQ tb.tab Γ c.env){n:Nat}{o:Oper}{x y z:Operand}{T1 T2 T3:Nat}(ho:o.op= .pick x y z){aS:aU}(h:FY tb.tab Γ gs o.dst (aT tb σ T1 x) (aT tb σ T2 y) (aT tb σ T3 z)=some aS):ib P c F gs σ bm tm a w n o aS:=by
 unfold FY at h
 split at h
 ·rename_i kx ex hx
  split at h
  ·rename_i hc
   split at h
   ·rename_i ky ey kz ez hy hz
    simp only [Option.some.injEq] at h;subst h
    refine ⟨_,rfl,rfl,fun g hg=>by simp [cf,K.has] at hg,fun hg _=> ?_⟩
    obtain ⟨b,hb,hv⟩:=tq aB (nD hc) ((cW hs hx).1 hg)
    have iF:(Ip tb.tab Γ ex ey ez).den c.env=if b=true then ey.den c.env else ez.den c.env:=by
     unfold Ip
     split
     ·rename_i h1
      obtain ⟨q,hq⟩:=nk (E.cZ aB ez _ (nD h1.2))
      cases b<;>simp [E.den,hb,hq,h1.1]
     ·split
      ·rename_i h1
       obtain ⟨q,hq⟩:=nk (E.cZ aB ey _ (nD h1.2))
       cases b<;>simp [E.den,hb,hq,h1.1]
      ·cases b<;>simp [E.den,hb]
    cases b with
    | true =>
     have:=((cW hs hy).1 (Ge.2 ⟨hg,hb⟩)).rd
     exact ⟨a.eval y,w,by simp [execOp,ho,hv,asBool],Below.refl _ _,dV hg (by simp only [bG];rw [iF];exact this)⟩
    | false =>
     have:=((cW hs hz).1 (Ge.2 ⟨hg,hb⟩)).rd
     exact ⟨a.eval z,w,by simp [execOp,ho,hv,asBool],Below.refl _ _,dV hg (by simp only [bG];rw [iF];exact this)⟩
   ·simp at h
  ·simp at h
 ·simp at h
end
end
section
open Go.RowKit
variable [GC]
theorem adt{k:IntKind}{a b:Int}(h1:k.min<=a)(h2:a<=k.max):k.min<=a.tmod b/\a.tmod b<=k.max:=by
 have hk:k.min<=0/\0<=k.max:=by cases k<;>simp [IntKind.min,IntKind.max,IntKind.signed,IntKind.bits]
 have hn:(a.tmod b).natAbs<=a.natAbs:=by rw [Int.natAbs_tmod];exact Nat.mod_le _ _
 by_cases h0:0<=a
 ·have:=Int.tmod_nonneg b h0;omega
 ·have h3:=Int.tmod_nonneg b (show 0<= -a by omega)
  rw [Int.neg_tmod] at h3
  omega
theorem WY{k:IntKind}{a:Int}(n:Nat)(h1:k.min<=a)(h2:a<=k.max):k.min<=a.fdiv (2^n)/\a.fdiv (2^n)<=k.max:=by
 have hk:k.min<=0/\0<=k.max:=by cases k<;>simp [IntKind.min,IntKind.max,IntKind.signed,IntKind.bits]
 have hp:(0:Int)<2^n:=Int.pow_pos (by decide)
 rw [Int.fdiv_eq_ediv_of_nonneg _ (Int.le_of_lt hp)]
 by_cases h0:0<=a
 ·have h3:=Int.ediv_nonneg h0 (Int.le_of_lt hp)
  have h4:=Int.ediv_le_self (2^n) h0
  omega
 ·have h3:a<=a/2^n:=by
   rw [Int.le_ediv_iff_mul_le hp]
   have:=Int.mul_le_mul_of_nonpos_left (show a<=0 by omega) (show (1:Int)<=2^n by omega)
   omega
  have h4:a/2^n<0:=Int.ediv_neg_of_neg_of_pos (by omega) hp
  omega
section
variable {P:Program}{c:SC}{F:Nat->Prop}{σ:Nat->ST}{bm:Nat->Nat}{tm:Nat->Value}{a:Act}{w:World}{tb:TB}{Γ:List VT}{gs:Gd}
theorem zb{op:BinOp}{T:Nat}{x y:Operand}{k k':IntKind}{m n:Int}:(eqGuard op T x y (.int k m) (.int k' n)).run P w= .ok () w:=by
 cases op<;>simp [eqGuard]
theorem PU{op:BinOp}{T:Nat}{x y:Operand}{s t:ByteArray}:(eqGuard op T x y (.string s) (.string t)).run P w= .ok () w:=by
 cases op<;>simp [eqGuard]
theorem K2: ∀{a b a' b':List D},a.length=b.length->kR (a++a') (b++b')=(kR a b&&kR a' b')
 | [],[],_,_,_=>by simp [kR]
 | x::a,y::b,a',b',h=>by simp only [List.cons_append,kR,K2 (a:=a) (b:=b) (by simpa using h),Bool.and_assoc]
 | [],_::_,_,_,h=>by simp at h
 | _::_,[],_,_,h=>by simp at h
theorem PX{t:Nat}{d:TypeDesc}{ct:CT}(h:P.underlying t=some d)(hd:fO ct d){cs:Array Value}{off:Nat}{v:Value}(hv:cs[off]? =some v):(part t cs off).run P w= .ok v w:=by
 simp [part,IG h hd,hv]
theorem PY{t:Nat}{f:Array Field}(h:P.underlying t=some (.struct f)){i:TypeInfo}(hi:P.info? t=some i){cs:Array Value}{off:Nat}:(part t cs off).run P w= .ok (.agg (cs.extract off (off+i.size))) w:=by
 simp [part,PW h,run_sizeOf hi]
theorem run_eq(aI:cL P tb tb=true){M:Addr->Prop}: ∀(d T:Nat) (ti:TI) (v:V1),uU P tb d T=true->tb.get T=some ti->ti.vt= .one v-> ∀(dx dy:D) (x y:Value),cE tb.tab v dx->cE tb.tab v dy->R w M dx x->R w M dy y-> ∀e,d<=e ->
  (Op.equalIn e T x y).run P w= .ok (match v with| .c _=>K1 dx dy| .agg _=>kR dx.il dy.il) w
 | 0,T,ti,v,h,_,_,_,_,_,_,_,_,_,_,_,_=>by simp [uU] at h
 | d+1,T,ti,v,h,aQ,hv,dx,dy,x,y,hx,hy,rx,ry,e,he=>by
  obtain ⟨e,rfl⟩: ∃e',e=e'+1:=⟨e-1,by omega⟩
  simp only [uU,aQ,hv] at h
  cases v with
  | c t =>
   obtain ⟨_,d1,_,_,_,_,hd1,dM⟩:=fk aI aQ hv
   cases t with
   | mem=>exact dM.elim
   | fn=>exact dM.elim
   | sl el=>simp at h
   | bool =>
    obtain ⟨a,rfl⟩:=nk hx
    obtain ⟨b,rfl⟩:=nk hy
    simp only [R] at rx ry;subst rx ry
    simp only [fO] at dM;subst dM
    rw [run_equalIn_bool' w e T a b hd1];rfl
   | int k =>
    obtain ⟨a,rfl⟩:=nX hx
    obtain ⟨b,rfl⟩:=nX hy
    obtain ⟨rfl,_⟩:=rx
    obtain ⟨rfl,_⟩:=ry
    simp only [fO] at dM;subst dM
    rw [run_equalIn_int w e T k k a b hd1];rfl
   | str =>
    obtain ⟨a,rfl⟩:=mB hx
    obtain ⟨b,rfl⟩:=mB hy
    obtain ⟨rfl,_⟩:=rx
    obtain ⟨rfl,_⟩:=ry
    simp only [fO] at dM;subst dM
    rw [run_equalIn_string w e T a b hd1];rfl
  | agg ts =>
   simp only [Bool.and_eq_true,Bool.not_eq_true',List.all_eq_true] at h
   obtain ⟨⟨⟨h1,h2⟩,h3⟩,h4⟩:=h
   obtain ⟨i,fields,z,hi,hsz,_,_,_,hu,hfo⟩:=lG aI aQ hv
   obtain ⟨l,rfl,hl⟩:=gX hx
   obtain ⟨m,rfl,hm⟩:=gX hy
   obtain ⟨xs,rfl,hxs⟩:=rx
   obtain ⟨ys,rfl,hys⟩:=ry
   have AB:P.fieldsOf T=fields:=by simp [Program.fieldsOf,hu]
   rw [run_equalIn_struct w e T xs ys (by rw [AB];exact hu) h1,AB]
   rw [AB] at h2
   have key: ∀(fs:List (Nat×Nat)) (fl:List Field) (o:Nat),mw tb fs fl=true->(∀f∈fl,(f.name== "_")=false)->(∀q∈fs,uU P tb d q.2=true)->qF tb o (ts.drop o) fs=true->(Op.eqFields e xs ys fl).run P w= .ok (kR (l.drop o) (m.drop o)) w:=by
    have hll:=hl.length
    have jM:=hm.length
    intro fs
    induction fs with
    | nil =>
     intro fl o AE _ _ hco
     cases fl with
     | nil =>
      simp only [qF,List.isEmpty_iff] at hco
      have:ts.length<=o:=by simpa using hco
      rw [List.drop_eq_nil_of_le (by omega),List.drop_eq_nil_of_le (by omega)]
      simp [Op.eqFields,kR]
     | cons _ _=>simp [mw] at AE
    | cons q r ih =>
     intro fl o AE hnm heq hco
     obtain ⟨o',ft⟩:=q
     cases fl with
     | nil=>simp [mw] at AE
     | cons f fl =>
      simp only [mw,Bool.and_eq_true,beq_iff_eq] at AE
      obtain ⟨⟨⟨q1,q2⟩,q3⟩,q4⟩:=AE
      simp only [qF,Bool.and_eq_true] at hco
      obtain ⟨hb,hco⟩:=hco
      have:o=o':=Nat.eq_of_beq_eq_true hb
      subst this
      split at hco
      ·rename_i fi hfi
       simp only [Bool.and_eq_true,decide_eq_true_eq] at hco
       obtain ⟨htk,hco⟩:=hco
       rw [List.drop_drop] at hco
       have hrest:=ih fl (o+fi.cells.length) q4 (fun f' hf'=>hnm f' (by simp [hf'])) (fun q hq=>heq q (by simp [hq])) hco
       rw [hfi] at q3
       simp only at q3
       split at q3
       ·rename_i v1 hv1
        have hcl:fi.cells=v1.cells:=by simp [TI.cells,hv1]
        rw [hcl] at hrest htk
        have hle:o+v1.cells.length<=ts.length\/v1.cells.length=0:=by
         have:=congrArg List.length htk
         simp at this;omega
        have hne:f.name≠ "_" :=fun e'=>by have:=hnm f (by simp);rw [e'] at this;simp at this
        have MF:=heq (o,ft) (by simp)
        have YL:kR (l.drop o) (m.drop o)=(kR ((l.drop o).take v1.cells.length) ((m.drop o).take v1.cells.length)&&kR (l.drop (o+v1.cells.length)) (m.drop (o+v1.cells.length))):=by
         rw [<-K2 (by simp;omega)]
         rw [<-List.drop_drop, <-List.drop_drop,List.take_append_drop,List.take_append_drop]
        have rz:=(hl.drop o).take v1.cells.length
        have nC:=(hm.drop o).take v1.cells.length
        rw [htk] at rz nC
        have AQ:=(hxs.drop o).take v1.cells.length
        have vE:=(hys.drop o).take v1.cells.length
        obtain ⟨j,hj,hjs,_⟩:=pJ aI hfi hv1
        have Yw: ∃(px py:Value),(part f.type xs f.offset).run P w= .ok px w/\(part f.type ys f.offset).run P w= .ok py w/\(Op.equalIn e ft px py).run P w= .ok (kR ((l.drop o).take v1.cells.length) ((m.drop o).take v1.cells.length)) w:=by
         rw [<-q1, <-q2]
         cases v1 with
         | c t =>
          obtain ⟨_,d1,_,_,_,_,hd1,dM⟩:=fk aI hfi hv1
          simp only [V1.cells] at rz nC AQ vE ⊢
          generalize (l.drop o).take [t].length=la at rz AQ ⊢
          generalize (m.drop o).take [t].length=lb at nC vE ⊢
          cases la with
          | nil=>simp [ba] at rz
          | cons ea ra =>
           cases lb with
           | nil=>simp [ba] at nC
           | cons eb rb =>
            simp only [ba] at rz nC
            have YA:ra=[]:=by cases ra with|nil=>rfl|cons _ _=>simp [ba] at rz
            have YB:rb=[]:=by cases rb with|nil=>rfl|cons _ _=>simp [ba] at nC
            subst YA YB
            obtain ⟨px,qx,hpx,YF,_⟩:=AQ
            obtain ⟨py,qy,hpy,YG,_⟩:=vE
            have hx0:xs[o]? =some px:=by
             have:=congrArg (fun l=>l[0]?) hpx
             simpa using this
            have hy0:ys[o]? =some py:=by
             have:=congrArg (fun l=>l[0]?) hpy
             simpa using this
            refine ⟨px,py,PX hd1 dM hx0,PX hd1 dM hy0,?_⟩
            have:=run_eq aI d ft fi (.c t) MF hfi hv1 ea eb px py rz.1 nC.1 YF YG e (by omega)
            simpa [kR] using this
         | agg us =>
          obtain ⟨i',f',z',hi',yF,_,_,_,hu',_⟩:=lG aI hfi hv1
          simp only [V1.cells] at rz nC AQ vE hle ⊢
          have ex: ∀zs:Array Value,(zs.extract o (o+i'.size)).toList=(zs.toList.drop o).take us.length:=fun zs=>by simp [yF,List.extract_eq_take_drop]
          refine ⟨.agg (xs.extract o (o+i'.size)),.agg (ys.extract o (o+i'.size)),PY hu' hi',PY hu' hi',?_⟩
          exact run_eq aI d ft fi (.agg us) MF hfi hv1 (.agg _) (.agg _) _ _ rz nC ⟨_,rfl,by rw [ex];exact AQ⟩ ⟨_,rfl,by rw [ex];exact vE⟩ e (by omega)
        obtain ⟨px,py,e1,e2,e4⟩:=Yw
        simp only [Op.eqFields,if_pos hne,Sem.run_bind,e1,e2,Result.andThen_ok]
        rw [<-q2,e4]
        simp only [Result.andThen_ok,YL]
        cases kR ((l.drop o).take v1.cells.length) ((m.drop o).take v1.cells.length) with
        | true=>simp [hrest]
        | false=>simp
       ·simp at q3
      ·simp at hco
   have:=key ti.fs fields.toList 0 hfo (fun f hf=>by simpa using h2 f hf) h3 (by simpa using h4)
   simpa using this
theorem WW(aI:cL P tb tb=true){T:Nat}{ti:TI}(aQ:tb.get T=some ti){ts:List CT}(hv:ti.vt= .one (.agg ts))(he:ti.eq=true):uU P tb 8 T=true/\P.eqGuardType P.depth T=false:=by
 have h:=BM aI aQ
 simp only [zj,hv] at h
 split at h
 ·simp at h
 ·simp only [Bool.and_eq_true,Bool.or_eq_true,Bool.not_eq_true'] at h
  have h5:=h.2
  rw [he] at h5
  simpa using h5
theorem acn(aI:cL P tb tb=true)(hs:aM c F σ bm tm a w)(aB:bQ tb.tab Γ c.env){n:Nat}{o:Oper}{x y:Operand}{T T':Nat}{op:BinOp}(ho:o.op= .binOp op T x y T'){aS:aU}
  (h:FI tb.tab Γ gs o.dst op (tb.get T) (aT tb σ T x) (aT tb σ T y)=some aS):ib P c F gs σ bm tm a w n o aS:=by
 unfold FI at h
 split at h
 ·rename_i kx ea ky eb hx hy
  split at h
  ·rename_i k k' oo hkb
   split at h
   ·rename_i hop
    simp only [Option.some.injEq] at h;subst h
    refine ⟨_,rfl,rfl,fun g hg=>by simp [cf,K.has] at hg,fun hg hr=> ?_⟩
    have hin:hO P c.env n (.cond gs (.ic .geq eb (.li k' 0))):=hr _ (by simp)
    replace hin:=hin hg
    obtain ⟨m,hm,hmv,tS,hm2⟩:=jE aB oo ((cW hs hx).1 hg)
    obtain ⟨q,hq,kF,hq1,hq2⟩:=jE aB hkb ((cW hs hy).1 hg)
    simp [E.den,hq,bb] at hin
    have hnl: ¬q<0:=by omega
    rcases hop with rfl|rfl
    ·refine ⟨.int k (cP .shl k m q),w,?_,Below.refl _ _,dV hg ?_⟩
     ·simp [execOp,ho,hmv,kF,zb,binOp,Op.shift,hnl,cP]
     ·simp only [bG,E.den,hm,hq,D.dE,R];exact ⟨trivial,wrap_within _ _⟩
    ·refine ⟨.int k (cP .shr k m q),w,?_,Below.refl _ _,dV hg ?_⟩
     ·simp [execOp,ho,hmv,kF,zb,binOp,Op.shift,hnl,cP]
     ·simp only [bG,E.den,hm,hq,D.dE,R];exact ⟨trivial,WY _ tS hm2⟩
   ·rename_i hns
    split at h
    ·simp at h
    ·rename_i hkk
     have hkk:k=k':=by simpa using hkk
     subst hkk
     split at h
     ·rename_i hop
      simp only [Option.some.injEq] at h;subst h
      refine ⟨_,rfl,rfl,fun g hg=>by simp [cf,K.has] at hg,fun hg _=> ?_⟩
      obtain ⟨m,hm,hmv,tS,hm2⟩:=jE aB oo ((cW hs hx).1 hg)
      obtain ⟨q,hq,kF,hq1,hq2⟩:=jE aB hkb ((cW hs hy).1 hg)
      refine ⟨.int k (cP op k m q),w,?_,Below.refl _ _,dV hg ?_⟩
      ·cases op<;>simp [yL] at hop<;>simp [execOp,ho,hmv,kF,zb,binOp,Op.intArith,Op.intBits,cP]
      ·simp only [bG,E.den,hm,hq,D.dE,R]
       refine ⟨trivial,?_⟩
       cases op<;>simp [yL] at hop<;>exact wrap_within _ _
     ·split at h
      ·rename_i hop
       simp only [Option.some.injEq] at h;subst h
       refine ⟨_,rfl,rfl,fun g hg=>by simp [cf,K.has] at hg,fun hg _=> ?_⟩
       obtain ⟨m,hm,hmv,tS,hm2⟩:=jE aB oo ((cW hs hx).1 hg)
       obtain ⟨q,hq,kF,hq1,hq2⟩:=jE aB hkb ((cW hs hy).1 hg)
       refine ⟨.bool (bb op m q),w,?_,Below.refl _ _,dV hg ?_⟩
       ·cases op<;>simp [vN] at hop<;>simp [execOp,ho,hmv,kF,zb,binOp,Op.intCmp,bb]
       ·simp only [bG,E.den,hm,hq,D.dE,R]
      ·split at h
       ·rename_i hop
        simp only [Option.some.injEq] at h;subst h
        refine ⟨_,rfl,rfl,fun g hg=>by simp [cf,K.has] at hg,fun hg hr=> ?_⟩
        have hin:hO P c.env n (.cond gs (.ic .neq eb (.li k 0))):=hr _ (by simp)
        replace hin:=hin hg
        obtain ⟨m,hm,hmv,tS,hm2⟩:=jE aB oo ((cW hs hx).1 hg)
        obtain ⟨q,hq,kF,hq1,hq2⟩:=jE aB hkb ((cW hs hy).1 hg)
        simp [E.den,hq,bb] at hin
        rcases hop with rfl|rfl
        ·refine ⟨.int k (cP .quo k m q),w,?_,Below.refl _ _,dV hg ?_⟩
         ·simp [execOp,ho,hmv,kF,zb,binOp,Op.intDiv,hin,cP]
         ·simp only [bG,E.den,hm,hq,D.dE,R];exact ⟨trivial,wrap_within _ _⟩
        ·refine ⟨.int k (cP .rem k m q),w,?_,Below.refl _ _,dV hg ?_⟩
         ·simp [execOp,ho,hmv,kF,zb,binOp,Op.intDiv,hin,cP]
         ·simp only [bG,E.den,hm,hq,D.dE,R];exact ⟨trivial,adt tS hm2⟩
       ·simp at h
  ·rename_i oo hkb
   split at h
   ·rename_i hop
    simp only [Option.some.injEq] at h;subst h
    refine ⟨_,rfl,rfl,fun g hg=>by simp [cf,K.has] at hg,fun hg _=> ?_⟩
    obtain ⟨m,hm,hmv,tS⟩:=uW aB oo ((cW hs hx).1 hg)
    obtain ⟨q,hq,kF,hq1⟩:=uW aB hkb ((cW hs hy).1 hg)
    refine ⟨.bool (fQ op m q),w,?_,Below.refl _ _,dV hg ?_⟩
    ·cases op<;>simp [vN] at hop<;>simp [execOp,ho,hmv,kF,PU,binOp,Op.stringOp,fQ]
    ·simp only [bG,E.den,hm,hq,D.fM,R]
   ·split at h
    ·rename_i hop
     subst hop
     simp only [Option.some.injEq] at h;subst h
     refine ⟨_,rfl,rfl,fun g hg=>by simp [cf,K.has] at hg,fun hg hr=> ?_⟩
     have hin:hO P c.env n (.cond gs (.kJ ea eb)):=hr _ (by simp)
     replace hin:=hin hg
     obtain ⟨m,hm,hmv,tS⟩:=uW aB oo ((cW hs hx).1 hg)
     obtain ⟨q,hq,kF,hq1⟩:=uW aB hkb ((cW hs hy).1 hg)
     simp [E.den,hm,hq] at hin
     have h63: ¬(IntKind.i64.max<(m.size:Int)+(q.size:Int)):=by
      have:=Er hin
      omega
     refine ⟨.string (m++q),w,?_,Below.refl _ _,dV hg ?_⟩
     ·simp [execOp,ho,hmv,kF,PU,binOp,Op.stringOp,h63]
      unfold maxLen at hin;omega
     ·simp only [bG,E.den,hm,hq,D.fM,R,ByteArray.size_append];exact ⟨trivial,hin⟩
    ·simp at h
  ·rename_i ts us oo hkb
   split at h
   ·rename_i i aQ
    split at h
    ·rename_i hc
     obtain ⟨hce,hcv,My⟩:=hc
     obtain ⟨heq,hgd⟩:=WW aI aQ hcv hce
     have hgo:bE c.env gs-> ∃xs ys,a.eval x= .agg xs/\a.eval y= .agg ys/\ ∃q,(E.ae ea eb).den c.env= .bool q/\(Op.equalIn 10000 T (.agg xs) (.agg ys)).run P w= .ok q w:=by
      intro hg
      obtain ⟨l,hl,hlt⟩:=gX (E.cZ aB ea _ oo)
      obtain ⟨m,hm,GM⟩:=gX (E.cZ aB eb _ hkb)
      have rC:us=ts:=by rw [hcv] at My;simpa using My.symm
      subst rC
      have rx:=((cW hs hx).1 hg).rd
      have ry:=((cW hs hy).1 hg).rd
      rw [hl] at rx;rw [hm] at ry
      have:=run_eq aI 8 T i (.agg us) heq aQ hcv (.agg l) (.agg m) _ _ hlt GM rx ry 10000 (by omega)
      obtain ⟨xs,hxs,_⟩:=rx
      obtain ⟨ys,hys,_⟩:=ry
      rw [hxs,hys] at this
      exact ⟨xs,ys,hxs,hys,_,by simp [E.den,hl,hm],this⟩
     split at h
     ·rename_i hop
      subst hop
      simp only [Option.some.injEq] at h;subst h
      refine ⟨_,rfl,rfl,fun g hg=>by simp [cf,K.has] at hg,fun hg _=> ?_⟩
      obtain ⟨xs,ys,e1,e2,q,e3,e4⟩:=hgo hg
      refine ⟨.bool q,w,?_,Below.refl _ _,dV hg ?_⟩
      ·simp [execOp,ho,e1,e2,run_eqGuard_agg w .eql T x y xs ys hgd,run_eql_struct,e4]
      ·simp only [bG,e3,R]
     ·split at h
      ·rename_i hop
       subst hop
       simp only [Option.some.injEq] at h;subst h
       refine ⟨_,rfl,rfl,fun g hg=>by simp [cf,K.has] at hg,fun hg _=> ?_⟩
       obtain ⟨xs,ys,e1,e2,q,e3,e4⟩:=hgo hg
       refine ⟨.bool (!q),w,?_,Below.refl _ _,dV hg ?_⟩
       ·simp [execOp,ho,e1,e2,run_eqGuard_agg w .neq T x y xs ys hgd,run_neq_struct,e4]
       ·simp only [E.den,D.bool.injEq] at e3
        simp only [bG,E.den,e3,D.fL,R]
      ·simp at h
    ·simp at h
   ·simp at h
  ·rename_i oo hkb
   split at h
   ·rename_i i aQ
    split at h
    ·rename_i hv
     obtain ⟨_,d1,_,_,_,_,hd1,dM⟩:=fk aI aQ hv
     simp only [fO] at dM;subst dM
     split at h
     ·rename_i hop
      subst hop
      simp only [Option.some.injEq] at h;subst h
      refine ⟨_,rfl,rfl,fun g hg=>by simp [cf,K.has] at hg,fun hg _=> ?_⟩
      obtain ⟨m,hm,hmv⟩:=tq aB oo ((cW hs hx).1 hg)
      obtain ⟨q,hq,kF⟩:=tq aB hkb ((cW hs hy).1 hg)
      refine ⟨.bool (m==q),w,?_,Below.refl _ _,dV hg ?_⟩
      ·simp [execOp,ho,hmv,kF,eqGuard,binOp,Op.equal,Op.maxDepth,run_equalIn_bool' w 9999 T m q hd1]
      ·simp only [bG,E.den,hm,hq,D.fL,R]
     ·split at h
      ·rename_i hop
       subst hop
       simp only [Option.some.injEq] at h;subst h
       refine ⟨_,rfl,rfl,fun g hg=>by simp [cf,K.has] at hg,fun hg _=> ?_⟩
       obtain ⟨m,hm,hmv⟩:=tq aB oo ((cW hs hx).1 hg)
       obtain ⟨q,hq,kF⟩:=tq aB hkb ((cW hs hy).1 hg)
       refine ⟨.bool (!(m==q)),w,?_,Below.refl _ _,dV hg ?_⟩
       ·simp [execOp,ho,hmv,kF,eqGuard,binOp,Op.equal,Op.maxDepth,run_equalIn_bool' w 9999 T m q hd1]
       ·simp only [bG,E.den,hm,hq,D.fL,R]
      ·simp at h
    ·simp at h
   ·simp at h
  ·simp at h
 ·simp at h
theorem dF.cut{M:Addr->Prop}{m:Nat}{rows:List (List D)}{b o:Nat}(h:dF w M rows b o)(hn: ∀r∈rows,r.length=m)(l k:Nat):dF w M ((rows.drop l).take k) b (o+l*m):=by
 refine dF.of (n:=m) (fun r hr=>hn r (List.mem_of_mem_drop (List.mem_of_mem_take hr))) fun i r hr=> ?_
 simp only [List.getElem?_take,List.getElem?_drop] at hr
 split at hr
 ·have:=h.get hn hr
  rwa [show o+(l+i)*m=o+l*m+i*m by rw [Nat.add_mul];omega] at this
 ·simp at hr
theorem run_sliceBound{v:Value}{k:IntKind}{i:Int}(hv:v= .int k i){y:Nat}{code:BoundsCode}(h0:0<=i)(h1:i<=y):(Instr.sliceBound v y code).run P w= .ok i.toNat w:=by
 subst hv;simp [Instr.sliceBound,asIntOf,h0,h1]
theorem J4{Hj:Bool}{len cap:Nat}{lo hi:Option Value}{l h:Int}(hl:(lo=none/\l=0)\/ ∃k,lo=some (.int k l))(hh:(hi=none/\h=len)\/ ∃k,hi=some (.int k h))(h1:0<=l)(h2:l<=h)(h3:h<=len)(h4:len<=cap) :
  (Instr.sliceBounds Hj len cap lo hi none).run P w= .ok (l.toNat,h.toNat,cap) w:=by
 have MK:h<=(cap:Int):=by omega
 have h0:0<=h:=by omega
 have e2:((h.toNat:Nat):Int)=h:=by omega
 rcases hl with ⟨rfl,rfl⟩|⟨k,rfl⟩<;>rcases hh with ⟨rfl,rfl⟩|⟨k',rfl⟩
 ·simp [Instr.sliceBounds]
 ·simp [Instr.sliceBounds,run_sliceBound rfl h0 MK]
 ·simp [Instr.sliceBounds,run_sliceBound (P:=P) (w:=w) (v:= .int k l) (y:=len) (code:= .sliceB) rfl h1 (by omega)]
 ·simp [Instr.sliceBounds,run_sliceBound (P:=P) (w:=w) (v:= .int k' h) (y:=cap) (code:=if Hj=true then .sliceAcap else .sliceAlen) rfl h0 MK,run_sliceBound (P:=P) (w:=w) (v:= .int k l) (y:=h.toNat) (code:= .sliceB) rfl h1 (by omega)]
theorem Qb(aI:cL P tb tb=true)(hs:aM c F σ bm tm a w)(aB:bQ tb.tab Γ c.env){n:Nat}{o:Oper}{x:Operand}{lo hi:Option Operand}{T:Nat}(ho:o.op= .slice T x lo hi none){ti:TI}(aQ:tb.get T=some ti){aS:aU}
  (h:CY tb Γ gs o.dst ti (aT tb σ T x) (lo.map (aT tb σ 0)) (hi.map (aT tb σ 0))=some aS):ib P c F gs σ bm tm a w n o aS:=by
 unfold CY at h
 split at h
 ·rename_i kx ex kl el hx hlo
  split at h
  ·rename_i kh eh hhi
   split at h
   ·rename_i hc
    simp only [Option.some.injEq] at h;subst h
    obtain ⟨mE,hil,X9,vF,yE⟩:=hc
    refine ⟨_,rfl,rfl,fun g hg=>by simp [cf,K.has] at hg,fun hg hr=> ?_⟩
    have hin:hO P c.env n (.cond gs (.inc ex el eh)):=hr _ (by simp)
    replace hin:=hin hg
    have fq:=(cW hs hx).1 hg
    have hL: ∃l:Int,(el.den c.env).cC=l/\((lo.map a.eval=none/\l=0)\/ ∃k,lo.map a.eval=some (.int k l)):=by
     cases lo with
     | none=>simp at hlo;obtain ⟨_,rfl⟩:=hlo;exact ⟨0,rfl,.inl ⟨rfl,rfl⟩⟩
     | some y =>
      simp only [Option.map_some] at hlo
      obtain ⟨kk,hkk⟩:=rE hil
      obtain ⟨m,hm,hmv,_⟩:=jE aB hkk ((cW hs hlo).1 hg)
      exact ⟨m,by simp [hm],.inr ⟨kk,by simp [hmv]⟩⟩
    have hH: ∃l:Int,(eh.den c.env).cC=l/\((hi.map a.eval=none/\l=jd (ex.den c.env))\/ ∃k,hi.map a.eval=some (.int k l)):=by
     cases hi with
     | none=>simp at hhi;obtain ⟨_,rfl⟩:=hhi;exact ⟨_,rfl,.inl ⟨rfl,by simp [E.den]⟩⟩
     | some y =>
      simp only [Option.map_some] at hhi
      obtain ⟨kk,hkk⟩:=rE X9
      obtain ⟨m,hm,hmv,_⟩:=jE aB hkk ((cW hs hhi).1 hg)
      exact ⟨m,by simp [hm],.inr ⟨kk,by simp [hmv]⟩⟩
    obtain ⟨l,hl,hL⟩:=hL
    obtain ⟨u,hu,hH⟩:=hH
    simp only [E.den,hl,hu,D.bool.injEq,decide_eq_true_eq] at hin
    obtain ⟨ML,MN,AF⟩:=hin
    unfold DR at vF
    split at vF
    ·rename_i hv
     obtain ⟨_,d1,_,_,_,_,hd1,dM⟩:=fk aI aQ hv
     simp only [fO] at dM;subst dM
     obtain ⟨s,DJ,hsv,gr⟩:=uW aB (by rw [mE,hv]) fq
     simp only [DJ,jd] at AF hH
     refine ⟨.string (s.extract l.toNat u.toNat),w,?_,Below.refl _ _,dV hg ?_⟩
     ·simp [execOp,ho,hsv,Instr.sliceAt,Instr.slice,run_underlying hd1,J4 hL hH ML MN AF (Nat.le_refl _)]
     ·simp only [bG,E.den,DJ,hl,hu,qI,R]
      refine ⟨trivial,?_⟩
      rw [ByteArray.size_extract];omega
    ·rename_i xM hv
     obtain ⟨_,d1,_,_,_,_,hd1,dM⟩:=fk aI aQ hv
     simp only [fO] at dM;subst dM
     obtain ⟨rows,hrows,ef,ad,len,cap,hval,hlen,hcap,hmax,hnone,hcells⟩:=xN aB (by rw [mE,hv]) fq
     simp only [hrows,jd] at AF hH
     rw [<-hlen] at AF hH
     rw [hv] at yE
     simp only [Qi] at yE
     split at yE
     ·rename_i ei gq
      split at yE
      ·rename_i v1 hv1
       obtain ⟨j,hj,hjs,_⟩:=pJ aI gq hv1
       have htab:tb.tab xM=v1.cells:=by simp [TB.tab,gq,TI.cells,hv1]
       refine ⟨.slice (if cap=l.toNat then ad else ad.map (·.add (l.toNat*v1.cells.length))) (u.toNat-l.toNat) (cap-l.toNat),w,?_,Below.refl _ _,dV hg ?_⟩
       ·simp [execOp,ho,hval,Instr.sliceAt,Instr.slice,run_underlying hd1,J4 hL hH ML MN AF hcap,run_sizeOf hj,hjs]
       ·simp only [bG,E.den,hrows,hl,hu,qI,R]
        refine ⟨_,_,_,rfl,by simp;omega,by omega,by omega,fun hn=> ?_,fun b o' s he=> ?_⟩
        ·rcases ad with _|ad
         ·have:=hnone rfl;omega
         ·split at hn
          ·cases hn
          ·simp at hn
        ·by_cases hz:u.toNat-l.toNat=0
         ·rw [hz,List.take_zero];exact ⟨fun h=>absurd h (by omega),trivial⟩
         ·have hne:cap≠l.toNat:=by omega
          rw [if_neg hne] at he
          rcases ad with _|⟨b1,o1,s1⟩
          ·simp at he
          ·obtain ⟨hs1,vD⟩:=hcells b1 o1 s1 rfl
           have:=hs1 (by omega);subst this
           simp only [Option.map_some,addr_add,Option.some.injEq,Addr.mk.injEq] at he
           obtain ⟨rfl,rfl,rfl⟩:=he
           exact ⟨fun _=>rfl,vD.cut (fun r hr=>by rw [ef.len r hr,htab]) _ _⟩
      ·simp at yE
     ·simp at yE
    ·simp at vF
   ·simp at h
  ·simp at h
 ·simp at h
end
end
end Go.Proofs.YtimickglpboilaaGreatDoor
