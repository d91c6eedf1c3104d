/- Each operation does to a world what the executor says it does: operations that compute or read. No program in sight. -/
import Derived.Test.YtimickglpboilaaGreatDoorG1
set_option linter.unusedVariables false
set_option linter.unusedSimpArgs false
set_option linter.unusedSectionVars false
namespace Go.Proofs.YtimickglpboilaaGreatDoor
section
open Go.RowKit
variable [GC]
theorem Aw{tab:Nat->List CT}{d:D}(h:bM tab .mem d): ∃n,d= .mem n:=by
 cases d<;>simp [bM] at h;exact ⟨_,rfl⟩
def iy(P:Program)(f:FuncId):Bool :=
 match P.funcs[f]? with
 | some fn=> !(fn.name== "runtime.NumGoroutine")&&fn.body.isSome
 | none=>false
def aD(P:Program)(f:FuncId)(bx:Option (List D))(ds:List D)(r:D)(iw:List D):Prop :=
 iy P f=true/\ ∀(w:World) (M:Addr->Prop) (g:Nat) (vs:List Value),kf w M->Rs w M ds vs ->
  (∀cs,bx=some cs-> ∃us T,w.heap[g]? =some (.cells us.toArray T (0,0))/\Rs w M cs us/\NG<=g/\ ∀p,p.block=g->M p) ->
  Calls P f (match bx with|none=>vs|some _=> .pointer (some ⟨g,0,none⟩)::vs).toArray w fun e w' =>
   ∃v,e= .returned v/\R w' M r v/\Fr w.heap.size (bx.map fun _=>g) w w'/\(bx.isSome=true-> ∃us T,w'.heap[g]? =some (.cells us.toArray T (0,0))/\Rs w' M iw us)
def qI(B:Nat)(w:World)(u:Value)(n:Nat):Prop :=
 ∀b o s len cap,u= .slice (some ⟨b,o,s⟩) len cap->0<cap->s=none/\B<=b/\ ∃cells T,w.heap[b]? =some (.cells cells T (0,0))/\o+cap*n<=cells.size
def BZ(u u':Value):Prop:= ∀b o s len cap b' o' s' len' cap',u= .slice (some ⟨b,o,s⟩) len cap->0<cap->u'= .slice (some ⟨b',o',s'⟩) len' cap'->0<cap'->b≠b'
def kW(v:Value)(x:Nat×Nat):Value:=(iV v).getD x.1 undef
def uM(B:Nat)(w:World)(v:Value)(rt:List (Nat×Nat)):Prop :=
 (∀x∈rt,qI B w (kW v x) x.2)/\ ∀(i j:Nat) (x y:Nat×Nat),rt[i]? =some x->rt[j]? =some y->i≠j->BZ (kW v x) (kW v y)
def iK(v:Value)(rt:List (Nat×Nat)):Addr->Prop:=fun p=> ∃x∈rt,wI (kW v x) x.2 p
def cM(P:Program)(f:FuncId)(bx:Option (List D))(ds:List D)(r:D)(iw:List D)(rt:List (Nat×Nat)):Prop :=
 iy P f=true/\ ∀(w:World) (M:Addr->Prop) (g:Nat) (vs:List Value),kf w M->Rs w M ds vs ->
  (∀cs,bx=some cs-> ∃us T,w.heap[g]? =some (.cells us.toArray T (0,0))/\Rs w M cs us/\NG<=g/\ ∀p,p.block=g->M p) ->
  Calls P f (match bx with|none=>vs|some _=> .pointer (some ⟨g,0,none⟩)::vs).toArray w fun e w' =>
   ∃v,e= .returned v/\R w' (fun p=>M p\/iK v rt p) r v/\Fr w.heap.size (bx.map fun _=>g) w w'/\uM w.heap.size w' v rt/\(bx.isSome=true-> ∃us T,w'.heap[g]? =some (.cells us.toArray T (0,0))/\Rs w' (fun p=>M p\/iK v rt p) iw us)
theorem aD.Ia{P:Program}{f:FuncId}{bx:Option (List D)}{ds:List D}{r:D}{iw:List D}{rt:List (Nat×Nat)}(h:cM P f bx ds r iw rt):aD P f bx ds r iw:=by
 refine ⟨h.1,fun w M g vs h1 h2 h3=>(h.2 w M g vs h1 h2 h3).mono ?_⟩
 have hk: ∀w' v,bb w' (fun p=>M p\/iK v rt p) w' M:=fun w' v p u hp hn=>⟨hp,fun h=>hn (.inl h)⟩
 rintro e w' ⟨v,q1,q2,q3,q4,q5⟩
 refine ⟨v,q1,R.keep (hk w' v) _ _ q2,q3,fun hb=> ?_⟩
 obtain ⟨us,T,u1,u2⟩:=q5 hb
 exact ⟨us,T,u1,Rs.keep (hk w' v) _ _ u2⟩
def ED(P:Program)(f:FuncId)(ds:List D)(cs:List D):Prop :=
 iy P f=true/\ ∀(w:World) (M:Addr->Prop) (vs:List Value),kf w M->Rs w M ds vs ->
  Calls P f vs.toArray w fun e w'=> ∃g us T,e= .returned (.pointer (some ⟨g,0,none⟩))/\w.heap.size<=g/\w'.heap[g]? =some (.cells us.toArray T (0,0))/\Rs w' (fun p=>M p\/p.block=g) cs us/\Below w.heap.size w w'
def Te(P:Program)(f:FuncId)(ds:List D)(fW:List (List D))(r:D):Prop :=
 iy P f=true/\ ∀(w:World) (M:Addr->Prop) (vs ps:List Value),kf w M->Rs w M ds vs->oo w M fW ps ->
  Calls P f (vs++ps).toArray w fun e w'=> ∃v,e= .returned v/\R w' M r v/\Below w.heap.size w w'
def Jr(P:Program)(x:D)(ds:List D)(r:D):Prop:= ∃f fW,x= .fn f fW/\Te P f ds fW r
def D.one:D->Prop
 | .agg _| .aC _| .un=>False
 | _=>True
def xp:VT->D->Prop
 | .one (.c _),d=>d.one
 | _,_=>True
theorem xp.of{tab:Nat->List CT}{vt:VT}{d:D}(h:bU tab vt d):xp vt d:=by
 rcases vt with (t|ts)|vs
 ·have h:bM tab t d:=h
  cases t with
  | bool=>obtain ⟨b,rfl⟩:=nF h;trivial
  | int k=>obtain ⟨n,rfl⟩:=oA h;trivial
  | str=>obtain ⟨s,rfl⟩:=mD h;trivial
  | sl e=>obtain ⟨r,rfl,_⟩:=nG h;trivial
  | mem=>obtain ⟨n,rfl⟩:=Aw h;trivial
  | fn=>obtain ⟨f,fW,rfl⟩:=C9 h;trivial
 ·trivial
 ·trivial
theorem D.Bs{w:World}{M:Addr->Prop}{d:D}{v:Value}(h:d.one)(hr:R w M d v):iV v=[v]:=by
 cases d with
 | bool b=>have:v= .bool b:=hr;subst this;rfl
 | int k n=>have:v= .int k n:=hr.1;subst this;rfl
 | str s=>have:v= .string s:=hr.1;subst this;rfl
 | sl rows=>obtain ⟨ad,len,cap,rfl,_⟩:=hr;rfl
 | mem n=>obtain ⟨ad,cap,rfl,_⟩:=hr;rfl
 | fn f fW=>obtain ⟨ps,rfl,_⟩:=hr;rfl
 | _=>exact h.elim
def Jo:VT->D->Prop
 | .one (.agg ts),d=> ∃l,d= .agg l/\l.length=ts.length
 | _,_=>True
def gU(P:Program)(env:List D)(n:Nat):Rq->Prop
 | .cond gs c=>bB env gs->c.den env= .bool true
 | .call gs f bx args _ nb=>bB env gs->aD P f (bx.map (·.map (·.den env))) (args.map (·.den env)) (env.getD n .un) ((List.range nb.length).map fun j=>env.getD (n+1+j) .un)
 | .gA f bx args vt nb rt=>xp vt (env.getD n .un)/\cM P f (bx.map (·.map (·.den env))) (args.map (·.den env)) (env.getD n .un) ((List.range nb.length).map fun j=>env.getD (n+1+j) .un) rt
 | .new f args nb=>ED P f (args.map (·.den env)) ((List.range nb.length).map fun j=>env.getD (n+j) .un)
 | .dL gs e args _=>bB env gs->Jr P (e.den env) (args.map (·.den env)) (env.getD n .un)
 | .oy g vt ix=>EE g (env.getD n .un)/\JA env ix/\Jo vt (env.getD n .un)
def wJ(gs:Gd):ST->Prop
 | .v g _ _=>g=gs
 | .ptr g _ _=>g=gs
 | .ro g _ _=>g=gs
 | .gp g _ _ _=>g=gs
 | .mp g _ _ _ _=>g=gs
 | .iv g _ _ _ _ _ _=>g=gs
 | .ip g _ _ _ _ _ _ _ _=>g=gs
 | _=>False
theorem DX{w:World}{M:Addr->Prop}{bm:Nat->Nat}{tm:Nat->Value}{env:List D}{gs:Gd}{st:ST}(h:wJ gs st)(hg: ¬bB env gs):kD w M bm tm env st undef:=by
 cases st<;>simp only [wJ] at h<;>first|(subst h;exact ⟨fun h=>absurd h hg,fun _=>rfl⟩)|exact h.elim
section
variable {P:Program}{c:SC}{F:Nat->Prop}{σ:Nat->ST}{bm:Nat->Nat}{tm:Nat->Value}{a:Act}{w:World}{tb:TB}{Γ:List VT}{gs:Gd}
theorem mO(hs:aL c F σ bm tm a w){T:Nat}{x:Operand}{st:ST}(h:aQ tb σ T x=some st):kD w (MM c.M0 bm tm σ) bm tm c.env st (a.eval x)/\ ∀g,bX st g->F g:=by
 cases x with
 | tmp t=>simp only [aQ,Option.some.injEq] at h;subst h;exact ⟨hs.tmps t,fun g hg=>hs.f1 _ g hg⟩
 | const v =>
  simp only [aQ] at h
  simp only [Act.eval]
  unfold uW at h
  split at h
  ·simp at h;subst h;exact ⟨⟨fun _=>rfl,fun h=>absurd (aK _) h⟩,fun g hg=>hg.elim⟩
  ·split at h
   ·rename_i hr;simp at h;subst h;exact ⟨⟨fun _=>⟨rfl,hr⟩,fun h=>absurd (aK _) h⟩,fun g hg=>hg.elim⟩
   ·simp at h
  ·split at h
   ·rename_i hr;simp at h;subst h;exact ⟨⟨fun _=>⟨rfl,hr⟩,fun h=>absurd (aK _) h⟩,fun g hg=>hg.elim⟩
   ·simp at h
  ·split at h
   ·simp at h;subst h
    exact ⟨⟨fun _=>⟨⟨none,0,0,rfl,rfl,Nat.le_refl _,by decide,fun _=>rfl,fun b o s h=>by cases h⟩,none,rfl⟩,fun h=>absurd (aK _) h⟩,fun g hg=>hg.elim⟩
   ·simp at h
  ·simp at h
 | global g=>simp [aQ] at h
 | func f=>simp [aQ] at h
theorem qE{st st':ST}(h:under gs st=some st'):(∃g k e,st= .v g k e/\nD g gs=true/\st'= .v gs k e)\/(∃g id off,st= .ptr g id off/\nD g gs=true/\st'= .ptr gs id off)\/(∃g e off,st= .ro g e off/\nD g gs=true/\st'= .ro gs e off):=by
 cases st with
 | un=>simp [under] at h
 | box cs=>simp [under] at h
 | live n=>simp [under] at h
 | gp _ _ _ _=>simp [under] at h
 | mp _ _ _ _ _=>simp [under] at h
 | iv _ _ _ _ _ _ _=>simp [under] at h
 | ip _ _ _ _ _ _ _ _ _=>simp [under] at h
 | v g k e =>
  simp only [under] at h
  cases hi:nD g gs<;>rw [hi] at h<;>simp at h
  exact .inl ⟨g,k,e,rfl,hi,h.symm⟩
 | ptr g id off =>
  simp only [under] at h
  cases hi:nD g gs<;>rw [hi] at h<;>simp at h
  exact .inr (.inl ⟨g,id,off,rfl,hi,h.symm⟩)
 | ro g e off =>
  simp only [under] at h
  cases hi:nD g gs<;>rw [hi] at h<;>simp at h
  exact .inr (.inr ⟨g,e,off,rfl,hi,h.symm⟩)
theorem QW{st:ST}{v:Value}{M:Addr->Prop}{g:Gd}{k:K}{e:E}{env:List D}(h:under gs st=some (.v g k e))(hr:kD w M bm tm env st v)(hg:bB env gs):bD w M tm env k e v/\(∀x,k.has x->bX st x):=by
 rcases qE h with ⟨g',k',e',rfl,hi,h⟩|⟨_,_,_,_,_,h⟩|⟨_,_,_,_,_,h⟩<;>cases h
 exact ⟨hr.1 (xU hi hg),fun x hx=>hx⟩
theorem zp{st:ST}{v:Value}{M:Addr->Prop}{g:Gd}{id off:Nat}{env:List D}(h:under gs st=some (.ptr g id off))(hr:kD w M bm tm env st v)(hg:bB env gs):v= .pointer (some ⟨bm id,off,none⟩):=by
 rcases qE h with ⟨_,_,_,_,_,h⟩|⟨g',i',o',rfl,hi,h⟩|⟨_,_,_,_,_,h⟩<;>cases h
 exact hr.1 (xU hi hg)
theorem zq{st:ST}{v:Value}{M:Addr->Prop}{g:Gd}{e:E}{off:Nat}{env:List D}(h:under gs st=some (.ro g e off))(hr:kD w M bm tm env st v)(hg:bB env gs): ∃b o,v= .pointer (some ⟨b,o,none⟩)/\Rw w M ((e.den env).il.drop off) b o:=by
 rcases qE h with ⟨_,_,_,_,_,h⟩|⟨_,_,_,_,_,h⟩|⟨g',i',o',rfl,hi,h⟩<;>cases h
 exact hr.1 (xU hi hg)
theorem Eo{st st':ST}{x:Nat}(h:under gs st=some st')(hm:bX st' x):bX st x:=by
 rcases qE h with ⟨g',k',e',rfl,hi,rfl⟩|⟨g',i',o',rfl,hi,rfl⟩|⟨g',i',o',rfl,hi,rfl⟩
 ·exact hm
 ·exact hm
 ·exact hm
theorem Ep{st st':ST}(h:under gs st=some st'):wJ gs st':=by
 rcases qE h with ⟨g',k',e',rfl,hi,rfl⟩|⟨g',i',o',rfl,hi,rfl⟩|⟨g',i',o',rfl,hi,rfl⟩<;>rfl
theorem oT{s:Option ST}{st':ST}(h:s.bind (under gs)=some st'): ∃st,s=some st/\under gs st=some st':=by
 cases s with
 | none=>simp at h
 | some st=>exact ⟨st,rfl,by simpa using h⟩
theorem I8{s:Option ST}{k:K}{e:E}(h:dS gs s=some (k,e)): ∃st g,s=some st/\under gs st=some (.v g k e):=by
 unfold dS at h
 split at h
 ·rename_i g k' e' hb
  simp at h;obtain ⟨rfl,rfl⟩:=h
  obtain ⟨st,h1,h2⟩:=oT hb
  exact ⟨st,g,h1,h2⟩
 ·simp at h
theorem cL(hs:aL c F σ bm tm a w){T:Nat}{x:Operand}{k:K}{e:E}(h:dS gs (aQ tb σ T x)=some (k,e)):(bB c.env gs->bD w (MM c.M0 bm tm σ) tm c.env k e (a.eval x))/\ ∀g,k.has g->F g:=by
 obtain ⟨st,g,h1,h2⟩:=I8 h
 obtain ⟨h3,h4⟩:=mO hs h1
 exact ⟨fun hg=>(QW h2 h3 hg).1,fun x hx=>h4 x (Eo h2 hx)⟩
def ia(P:Program)(c:SC)(F:Nat->Prop)(gs:Gd)(σ:Nat->ST)(bm:Nat->Nat)(tm:Nat->Value)(a:Act)(w:World)(n:Nat)(o:Oper)(aP:aT):Prop :=
 ∃st,aP.wr=wv o.dst st/\wJ gs st/\(∀g,bX st g->F g) /\
  (bB c.env gs->(∀r∈aP.rq,gU P c.env n r)-> ∃v w',(execOp a.eval o).run P w= .ok (.value v) w'/\Below w.heap.size w w'/\kD w' (MM c.M0 bm tm σ) bm tm c.env st v)
theorem dJ{M:Addr->Prop}{k:K}{e:E}{v:Value}{env:List D}(hg:bB env gs)(h:bD w M tm env k e v):kD w M bm tm env (.v gs k e) v:=⟨fun _=>h,fun h=>absurd hg h⟩
theorem Qe(hs:aL c F σ bm tm a w){n:Nat}{o:Oper}{x:Operand}(ho:o.op= .move x\/o.op= .assign x){T:Nat}{aP:aT}(h:FG gs o.dst (aQ tb σ T x)=some aP):ia P c F gs σ bm tm a w n o aP:=by
 unfold FG at h
 simp only [Option.map_eq_some_iff] at h
 obtain ⟨st',h1,rfl⟩:=h
 obtain ⟨st,h2,h3⟩:=oT h1
 obtain ⟨h4,h5⟩:=mO hs h2
 refine ⟨st',rfl,Ep h3,fun g hg=>h5 g (Eo h3 hg),fun hg _=>⟨a.eval x,w,?_,Below.refl _ _,?_⟩⟩
 ·rcases ho with ho|ho<;>simp [execOp,ho]
 ·cases st'<;>simp only [kD]
  ·have:=QW h3 h4 hg
   have e:=Ep h3;simp only [wJ] at e;subst e
   exact ⟨fun _=>this.1,fun h=>absurd hg h⟩
  ·have:=zp h3 h4 hg
   have e:=Ep h3;simp only [wJ] at e;subst e
   exact ⟨fun _=>this,fun h=>absurd hg h⟩
  ·have:=zq h3 h4 hg
   have e:=Ep h3;simp only [wJ] at e;subst e
   exact ⟨fun _=>this,fun h=>absurd hg h⟩
  all_goals rcases qE h3 with ⟨_,_,_,_,_,h⟩|⟨_,_,_,_,_,h⟩|⟨_,_,_,_,_,h⟩<;>cases h
theorem zX(env:List D): ∀es:List E,(mk es).den env= .agg (es.map (·.den env))
 | []=>rfl
 | e::r=>by simp [mk,E.den,zX env r]
theorem Fk{env:List D}(aB:bL tb.tab Γ env)(es:List E):(pack tb.tab Γ es).den env= .agg (es.map (·.den env)):=by
 unfold pack
 split
 ·rename_i x i r
  split
  ·rename_i us he
   split
   ·rename_i heq
    obtain ⟨heq,hle⟩:=heq
    obtain ⟨l,hl,hlt⟩:=gV (E.cP aB x _ he)
    have hll:=hlt.length
    generalize hn:(E.cell x i::r).length=n at heq hle
    have key:(E.cell x i::r).map (·.den env)=(l.drop i).take n:=by
     rw [heq]
     refine List.ext_getElem? fun q=> ?_
     simp only [List.map_map,List.getElem?_map,List.getElem?_take,List.getElem?_drop]
     by_cases hi:q<n
     ·rw [if_pos hi]
      simp [List.getElem?_range' hi,E.den,hl,List.getD,List.getElem?_eq_getElem (show i+q<l.length by omega)]
     ·rw [if_neg hi,List.getElem?_eq_none (by simp;omega)];rfl
    split
    ·rename_i h0
     rw [key,hl]
     rw [h0.1,List.drop_zero,List.take_of_length_le (by omega)]
    ·rw [key];simp [E.den,hl]
   ·exact zX env _
  ·exact zX env _
 ·exact zX env _
theorem Rs.BL{M:Addr->Prop}{l:List D}{vs:List Value}(h:Rs w M l vs):R w M (.agg l) (.agg vs.toArray):=⟨vs.toArray,rfl,by simpa using h⟩
theorem EX{c:SC}{M:Addr->Prop}{id:Nat}{cs:List (K×E)}(h:mg c w M bm tm id cs): ∃vs,ck w M tm c.env cs vs/\(∀j u,vs[j]? =some u->w.cell? ⟨bm id,j,none⟩=some u)/\ ∃T,w.heap[bm id]? =some (.cells vs.toArray T (0,0)):=by
 obtain ⟨vs,T,h1,h2,h3⟩:=h
 exact ⟨vs,h2,fun j u hu=>by rw [cell_of_row w _ j _ T _ h1];simpa using hu,T,h1⟩
theorem adf(aH:cD P tb tb=true)(hs:aL c F σ bm tm a w)(aB:bL tb.tab Γ c.env){n:Nat}{o:Oper}{x:Operand}{T:Nat}(ho:o.op= .load T x){ti:TI}(aM:tb.get T=some ti){aP:aT}
  (h:xK tb.tab Γ gs o.dst σ ti (aQ tb σ 0 x)=some aP):ia P c F gs σ bm tm a w n o aP:=by
 unfold xK at h
 split at h
 ·rename_i g id off hb
  obtain ⟨st,h2,h3⟩:=oT hb
  obtain ⟨h4,h5⟩:=mO hs h2
  split at h
  ·rename_i cs eI
   obtain ⟨vs,hvs,hcell,T0,hblk⟩:=EX (hs.box id cs eI)
   split at h
   ·rename_i t hv
    split at h
    ·rename_i k e hk
     simp at h;subst h
     refine ⟨_,rfl,rfl,fun g hg=> ?_,fun hg _=> ?_⟩
     ·exact hs.f1 (3*id+1) _ (by rw [eI];exact ⟨_,List.mem_of_getElem? hk,hg⟩)
     ·obtain ⟨u,hu,hr⟩:=hvs.get hk
      obtain ⟨i,d,hi,_,_,_,hd,jj⟩:=eZ aH aM hv
      have:=zp h3 h4 hg
      exact ⟨u,w,by simp [execOp,ho,this,Instr.loadAt,Instr.sureAddr,D7 hd jj (hcell off u hu)],Below.refl _ _,dJ hg hr⟩
    ·simp at h
   ·rename_i ts hv
    split at h
    ·rename_i hle
     simp only [Option.some.injEq] at h;subst h
     refine ⟨_,rfl,rfl,fun g hg=> ?_,fun hg _=> ?_⟩
     ·obtain ⟨q,hq,hx⟩:=K.Gg (show (qw _).has g from hg)
      simp only [List.mem_map] at hq
      obtain ⟨z,hz,rfl⟩:=hq
      exact hs.f1 (3*id+1) _ (by rw [eI];exact ⟨z,List.mem_of_mem_drop (List.mem_of_mem_take hz),hx⟩)
     obtain ⟨i,fields,z,hi,hsz,_,_,_,hu,_⟩:=kY aH aM hv
     have:=zp h3 h4 hg
     have hrel:=(hvs.drop off).take ts.length
     have hlen:((vs.drop off).take ts.length).length=i.size:=by
      have:=hvs.length
      simp [hsz];omega
     refine ⟨.agg ((vs.drop off).take ts.length).toArray,w,?_,Below.refl _ _,dJ hg ?_⟩
     ·have hl:=D8 (P:=P) (w:=w) hu hi (b:=bm id) (o:=off) hlen (fun j u hj=>by
       simp only [List.getElem?_take,List.getElem?_drop] at hj
       split at hj
       ·exact hcell _ _ hj
       ·simp at hj)
      simp [execOp,ho,this,Instr.loadAt,Instr.sureAddr,hl]
     ·refine bD.pack ?_ fun j k u hk hu=> ?_
      ·rw [Fk aB]
       have:=hrel.rs.BL
       simpa only [List.map_take,List.map_drop] using this
      ·have hk': ∃z,((cs.drop off).take ts.length)[j]? =some z/\z.1=k:=by
        simp only [<-List.map_take, <-List.map_drop,List.getElem?_map,Option.map_eq_some_iff] at hk
        exact hk
       obtain ⟨z,hz,rfl⟩:=hk'
       obtain ⟨u',hu',hr'⟩:=hrel.get hz
       rw [hu] at hu';cases hu'
       exact hr'.kk
    ·simp at h
   ·simp at h
  ·simp at h
 ·rename_i g e off hb
  obtain ⟨st,h2,h3⟩:=oT hb
  obtain ⟨h4,h5⟩:=mO hs h2
  split at h
  ·rename_i us he
   obtain ⟨l,hl,hlt⟩:=gV (E.cP aB e _ he)
   split at h
   ·rename_i t hv
    split at h
    ·rename_i hoff
     simp at h;subst h
     refine ⟨_,rfl,rfl,fun g hg=>by simp [bX,K.has] at hg,fun hg _=> ?_⟩
     obtain ⟨b,o',hp,hr⟩:=zq h3 h4 hg
     rw [hl,D.kH] at hr
     obtain ⟨i,d,hi,_,_,_,hd,jj⟩:=eZ aH aM hv
     have vF:off<l.length:=by rw [hlt.length];exact hoff
     obtain ⟨u,hu,_,vI⟩:=hr.get (i:=0) (d:=l[off]) (by simp [List.getElem?_drop,vF])
     refine ⟨u,w,by simp [execOp,ho,hp,Instr.loadAt,Instr.sureAddr,D7 hd jj (by simpa using hu)],Below.refl _ _,dJ hg ?_⟩
     simp only [bD,E.den,hl,D.kH,List.getD,List.getElem?_eq_getElem vF,Option.getD_some]
     exact vI
    ·simp at h
   ·rename_i ts hv
    obtain ⟨i,fields,z,hi,hsz,_,_,_,hu,_⟩:=kY aH aM hv
    split at h
    ·rename_i hc
     simp at h;subst h
     refine ⟨_,rfl,rfl,fun g hg=>by simp [bX,K.has] at hg,fun hg _=> ?_⟩
     obtain ⟨b,o',hp,hr⟩:=zq h3 h4 hg
     rw [hl,D.kH,hc.1,List.drop_zero] at hr
     obtain ⟨vs,hvl,hrs,hcs⟩:=hr.cells
     have hll:=D8 (P:=P) (w:=w) hu hi (b:=b) (o:=o') (vs:=vs) (by rw [hvl,hlt.length,hsz];exact hc.2.symm) hcs
     refine ⟨.agg vs.toArray,w,by simp [execOp,ho,hp,Instr.loadAt,Instr.sureAddr,hll],Below.refl _ _,dJ hg ?_⟩
     simp only [bD,hl]
     exact hrs.BL
    ·split at h
     ·rename_i hc
      simp at h;subst h
      refine ⟨_,rfl,rfl,fun g hg=>by simp [bX,K.has] at hg,fun hg _=> ?_⟩
      obtain ⟨b,o',hp,hr⟩:=zq h3 h4 hg
      rw [hl,D.kH] at hr
      obtain ⟨vs,hvl,hrs,hcs⟩:=(hr.take ts.length).cells
      have hll:=D8 (P:=P) (w:=w) hu hi (b:=b) (o:=o') (vs:=vs) (by rw [hvl,hsz];have:=hlt.length;simp;omega) hcs
      refine ⟨.agg vs.toArray,w,by simp [execOp,ho,hp,Instr.loadAt,Instr.sureAddr,hll],Below.refl _ _,dJ hg ?_⟩
      simp only [bD,E.den,hl,D.kH]
      exact hrs.BL
     ·simp at h
   ·simp at h
  ·simp at h
 ·simp at h
theorem FQ: ∀{fs:List (Nat×Nat)} {fl:List Field},mz tb fs fl=true-> ∀{f fo ft:Nat},fs[f]? =some (fo,ft)-> ∃x,fl[f]? =some x/\x.offset=fo/\x.type=ft
 | [],_,_,f,fo,ft,hf=>by simp at hf
 | (o',t')::r,[],h,f,fo,ft,hf=>by simp [mz] at h
 | (o',t')::r,x::fl,h,f,fo,ft,hf=>by
  simp only [mz,Bool.and_eq_true,beq_iff_eq] at h
  cases f with
  | zero=>simp at hf;obtain ⟨rfl,rfl⟩:=hf;exact ⟨x,rfl,h.1.1.1.symm,h.1.1.2.symm⟩
  | succ f=>simp at hf;simpa using FQ h.2 hf
theorem ac7(aH:cD P tb tb=true)(hs:aL c F σ bm tm a w){n:Nat}{o:Oper}{x:Operand}{T f:Nat}(ho:o.op= .fieldAddr T x f){ti:TI}(aM:tb.get T=some ti){aP:aT}
  (h:Fz tb Γ gs o.dst ti (aQ tb σ 0 x) f=some aP):ia P c F gs σ bm tm a w n o aP:=by
 unfold Fz at h
 split at h
 ·rename_i ts fo ft hv hf
  obtain ⟨i,fields,z,hi,hsz,_,_,_,hu,hfo⟩:=kY aH aM hv
  obtain ⟨fl,hfl,hoff,hty⟩:=FQ hfo hf
  split at h
  ·rename_i fi hfi
   split at h
   ·simp at h
   ·rename_i hne
    split at h
    ·simp at h
    ·rename_i v1 hv1
     obtain ⟨j,hj,hjs,_⟩:=pR aH hfi hv1
     have hcl:fi.cells=v1.cells:=by simp [TI.cells,hv1]
     have hrun: ∀(ad:Addr),(Instr.fieldAt T (.pointer (some ad)) f).run P w= .ok (.pointer (some (ad.add fo))) w:=fun ad=>by
      have Yk:fields[f]? =some fl:=by simpa using hfl
      have YE:v1.cells≠[]:=by rw [<-hcl];intro e;simp [e] at hne
      have yH:(sizeOf fl.type).run P w= .ok v1.cells.length w:=by rw [hty,run_sizeOf hj,hjs]
      simp [Instr.fieldAt,run_underlying hu,Yk,Instr.sureAddr,fieldPlace,yH,YE,hoff]
     split at h
     ·rename_i g id off hb
      simp at h;subst h
      obtain ⟨st,h2,h3⟩:=oT hb
      obtain ⟨h4,h5⟩:=mO hs h2
      refine ⟨_,rfl,rfl,fun g hg=>h5 g (Eo h3 (by simpa [bX] using hg)),fun hg _=> ?_⟩
      have:=zp h3 h4 hg
      refine ⟨.pointer (some ⟨bm id,off+fo,none⟩),w,by simp [execOp,ho,this,hrun,addr_add],Below.refl _ _,fun _=>rfl,fun h=>absurd hg h⟩
     ·rename_i g e off hb
      simp at h;subst h
      obtain ⟨st,h2,h3⟩:=oT hb
      obtain ⟨h4,h5⟩:=mO hs h2
      refine ⟨_,rfl,rfl,fun g hg=>by simp [bX,K.has] at hg,fun hg _=> ?_⟩
      obtain ⟨b,o',hp,hr⟩:=zq h3 h4 hg
      refine ⟨.pointer (some ⟨b,o'+fo,none⟩),w,by simp [execOp,ho,hp,hrun,addr_add],Below.refl _ _,fun _=>⟨b,o'+fo,rfl,?_⟩,fun h=>absurd hg h⟩
      have:=hr.drop fo
      rwa [List.drop_drop] at this
     ·simp at h
  ·simp at h
 ·simp at h
theorem jw{M:Addr->Prop}{env:List D}(aB:bL tb.tab Γ env){k:K}{e:E}{v:Value}{kk:IntKind}(h:e.inf tb.tab Γ=some (.one (.c (.int kk))))(hr:bD w M tm env k e v): ∃n,e.den env= .int kk n/\v= .int kk n/\kk.min<=n/\n<=kk.max:=by
 obtain ⟨n,hn⟩:=oA (E.cP aB e _ h)
 have:=hr.rd
 rw [hn] at this
 exact ⟨n,hn,this.1,this.2⟩
theorem tC{M:Addr->Prop}{env:List D}(aB:bL tb.tab Γ env){k:K}{e:E}{v:Value}(h:e.inf tb.tab Γ=some (.one (.c .bool)))(hr:bD w M tm env k e v): ∃b,e.den env= .bool b/\v= .bool b:=by
 obtain ⟨n,hn⟩:=nF (E.cP aB e _ h)
 have:=hr.rd
 rw [hn] at this
 exact ⟨n,hn,this⟩
theorem vc{M:Addr->Prop}{env:List D}(aB:bL tb.tab Γ env){k:K}{e:E}{v:Value}(h:e.inf tb.tab Γ=some (.one (.c .str)))(hr:bD w M tm env k e v): ∃s,e.den env= .str s/\v= .string s/\s.size<=maxLen:=by
 obtain ⟨n,hn⟩:=mD (E.cP aB e _ h)
 have:=hr.rd
 rw [hn] at this
 exact ⟨n,hn,this.1,this.2⟩
theorem xP{M:Addr->Prop}{env:List D}(aB:bL tb.tab Γ env){k:K}{e:E}{v:Value}{el:Nat}(h:e.inf tb.tab Γ=some (.one (.c (.sl el))))(hr:bD w M tm env k e v) :
  ∃rows,e.den env= .sl rows/\cV tb.tab (tb.tab el) rows/\ ∃ad len cap,v= .slice ad len cap/\len=rows.length/\len<=cap/\cap<=maxLen/\(ad=none->cap=0)/\ ∀b o s,ad=some ⟨b,o,s⟩->(0<len->s=none)/\dr w M rows b o:=by
 obtain ⟨rows,hn,ht⟩:=nG (E.cP aB e _ h)
 have:=hr.rd
 rw [hn] at this
 exact ⟨rows,hn,ht,this⟩
theorem Qd(aH:cD P tb tb=true)(hs:aL c F σ bm tm a w)(aB:bL tb.tab Γ c.env){n:Nat}{o:Oper}{x i:Operand}{T:Nat}(ho:o.op= .indexAddr T x i){ti:TI}(aM:tb.get T=some ti){aP:aT}
  (h:CI tb Γ gs o.dst ti (aQ tb σ T x) (aQ tb σ 0 i)=some aP):ia P c F gs σ bm tm a w n o aP:=by
 unfold CI at h
 split at h
 ·rename_i el kx ex ki ei hv hx hi
  split at h
  ·rename_i CN gb
   split at h
   ·simp at h
   ·rename_i v1 hv1
    split at h
    ·rename_i hc
     simp at h;subst h
     refine ⟨_,rfl,rfl,fun g hg=>by simp [bX,K.has] at hg,fun hg hr=> ?_⟩
     have hin:gU P c.env n (.cond gs (.bP ex ei)):=hr _ (by simp)
     replace hin:=hin hg
     obtain ⟨rows,hrows,dw,ad,len,cap,hval,hlen,hcap,hmax,hnone,hcells⟩:=xP aB (nO hc.1) ((cL hs hx).1 hg)
     obtain ⟨kk,hkk⟩:=rN hc.2
     obtain ⟨m,hm,hmv,_⟩:=jw aB hkk ((cL hs hi).1 hg)
     simp only [E.den,hrows,hm,D.cQ,iX,D.bool.injEq,decide_eq_true_eq] at hin
     obtain ⟨i',d,Y0,_,_,_,hd,jj⟩:=eZ aH aM hv
     simp only [fK] at jj;subst jj
     obtain ⟨j,hj,hjs,_⟩:=pR aH gb hv1
     have htab:tb.tab el=v1.cells:=by simp [TB.tab,gb,TI.cells,hv1]
     have hlt:m.toNat<rows.length:=by omega
     rcases ad with _|⟨b,o',s⟩
     ·have:=hnone rfl;omega
     ·obtain ⟨hs0,vJ⟩:=hcells b o' s rfl
      have vM:=hs0 (by omega);subst vM
      refine ⟨.pointer (some ⟨b,o'+m.toNat*v1.cells.length,none⟩),w,?_,Below.refl _ _,fun _=>⟨b,_,rfl,?_⟩,fun h=>absurd hg h⟩
      ·have gI:m<(len:Int):=by omega
       simp [execOp,ho,hval,hmv,Instr.indexAt,asIntOf,run_underlying hd,run_sizeOf hj,hjs,hin.1,gI,addr_add]
      ·simp only [E.den,hrows,hm,D.wN,D.cQ,List.getElem?_eq_getElem hlt,Option.getD_some,D.kH,List.drop_zero]
       exact vJ.get (fun r hr=>by rw [dw.len r hr,htab]) (List.getElem?_eq_getElem hlt)
    ·simp at h
  ·simp at h
 ·simp at h
theorem adl(hs:aL c F σ bm tm a w){n:Nat}{o:Oper}{x:Operand}(ho:o.op= .nilCheck x){T:Nat}{aP:aT}(h:FI gs o.dst (aQ tb σ T x)=some aP):ia P c F gs σ bm tm a w n o aP:=by
 unfold FI at h
 split at h
 ·rename_i g id off hb
  simp at h;subst h
  obtain ⟨st,h2,h3⟩:=oT hb
  obtain ⟨h4,h5⟩:=mO hs h2
  refine ⟨_,rfl,rfl,fun g hg=>h5 g (Eo h3 (by simpa [bX] using hg)),fun hg _=> ?_⟩
  have:=zp h3 h4 hg
  exact ⟨_,w,by simp [execOp,ho,this],Below.refl _ _,fun _=>rfl,fun h=>absurd hg h⟩
 ·rename_i g e off hb
  simp at h;subst h
  obtain ⟨st,h2,h3⟩:=oT hb
  obtain ⟨h4,h5⟩:=mO hs h2
  refine ⟨_,rfl,rfl,fun g hg=>by simp [bX,K.has] at hg,fun hg _=> ?_⟩
  obtain ⟨b,o',hp,hr⟩:=zq h3 h4 hg
  exact ⟨_,w,by simp [execOp,ho,hp],Below.refl _ _,fun _=>⟨b,o',rfl,hr⟩,fun h=>absurd hg h⟩
 ·simp at h
theorem adm(hs:aL c F σ bm tm a w)(aB:bL tb.tab Γ c.env){n:Nat}{o:Oper}{x:Operand}{T T':Nat}(ho:o.op= .unOp .not T' x){aP:aT}(h:FJ tb.tab Γ gs o.dst (aQ tb σ T x)=some aP):ia P c F gs σ bm tm a w n o aP:=by
 unfold FJ at h
 split at h
 ·rename_i k e hx
  split at h
  ·rename_i hc
   simp at h;subst h
   refine ⟨_,rfl,rfl,fun g hg=>by simp [bX,K.has] at hg,fun hg _=> ?_⟩
   obtain ⟨b,hb,hv⟩:=tC aB (nO hc) ((cL hs hx).1 hg)
   exact ⟨.bool !b,w,by simp [execOp,ho,hv,Op.unary],Below.refl _ _,dJ hg (by simp [bD,E.den,hb,R])⟩
  ·simp at h
 ·simp at h
theorem adj(hs:aL c F σ bm tm a w)(aB:bL tb.tab Γ c.env){n:Nat}{o:Oper}{x:Operand}{T T':Nat}(ho:o.op= .unOp .neg T' x){aP:aT}(h:FH tb.tab Γ gs o.dst (aQ tb σ T x)=some aP):ia P c F gs σ bm tm a w n o aP:=by
 unfold FH at h
 split at h
 ·rename_i k e hx
  split at h
  ·rename_i kk hk
   simp at h;subst h
   refine ⟨_,rfl,rfl,fun g hg=>by simp [bX,K.has] at hg,fun hg _=> ?_⟩
   obtain ⟨m,hm,hmv,_⟩:=jw aB hk ((cL hs hx).1 hg)
   refine ⟨.int kk (kk.wrap (0-m)),w,by simp [execOp,ho,hmv,Op.unary,Op.intArith],Below.refl _ _,dJ hg ?_⟩
   simp only [bD,E.den,hm,D.cQ,R,cv]
   exact ⟨trivial,wrap_within _ _⟩
  ·simp at h
 ·simp at h
theorem LR{t:CT}{d:D}{v:Value}{M:Addr->Prop}(ht:cz tb.tab (.c t) d)(hr:R w M d v):fY v=[v]:=by
 have ht:bM tb.tab t d:=ht
 cases t with
 | bool=>obtain ⟨b,rfl⟩:=nF ht;have:v= .bool b:=hr;subst this;rfl
 | int k=>obtain ⟨n,rfl⟩:=oA ht;have:v= .int k n:=hr.1;subst this;rfl
 | str=>obtain ⟨s,rfl⟩:=mD ht;have:v= .string s:=hr.1;subst this;rfl
 | sl e=>obtain ⟨r,rfl,_⟩:=nG ht;obtain ⟨ad,len,cap,rfl,_⟩:=hr;rfl
 | mem=>obtain ⟨n,rfl⟩:=Aw ht;obtain ⟨ad,cap,rfl,_⟩:=hr;rfl
 | fn=>obtain ⟨f,fW,rfl⟩:=C9 ht;obtain ⟨ps,rfl,_⟩:=hr;rfl
theorem Xm{v1:V1}{d:D}{v:Value}{M:Addr->Prop}(ht:cz tb.tab v1 d)(hr:R w M d v):(fY v).length=v1.cells.length:=by
 cases v1 with
 | c t=>rw [LR ht hr];rfl
 | agg ts =>
  obtain ⟨l,rfl,hlt⟩:=gV ht
  obtain ⟨cs,rfl,hrs⟩:=hr
  simp only [fY,V1.cells]
  rw [hrs.length,hlt.length]
theorem LW{M:Addr->Prop}: ∀{vs:List V1} {l:List D} {us:List Value},gT tb.tab vs l->Rs w M l us-> ∀{i j:Nat} {u x:Value},i<vs.length->us[i]? =some u->(fY u)[j]? =some x->(us.flatMap fY)[rU vs i+j]? =some x
 | [],_,_,_,_,i,_,_,_,hi,_,_=>by simp at hi
 | v::vs,[],_,h,_,_,_,_,_,_,_,_=>by simp [gT] at h
 | v::vs,d::l,us,h,⟨u0,q,e,h1,h2⟩,i,j,u,x,hi,hu,hx=>by
  subst e
  simp only [gT] at h
  have hlen:=Xm h.1 h1
  cases i with
  | zero =>
   simp at hu;subst hu
   have hj:j<(fY u0).length:=(List.getElem?_eq_some_iff.1 hx).1
   simp only [List.flatMap_cons,rU,Nat.zero_add]
   rw [List.getElem?_append_left hj];exact hx
  | succ i =>
   simp at hu hi
   have:=LW h.2 h2 hi hu hx
   simp only [List.flatMap_cons,rU]
   rw [List.getElem?_append_right (by omega),show v.cells.length+rU vs i+j-(fY u0).length=rU vs i+j by omega]
   exact this
theorem Xp{M:Addr->Prop}{vs:List V1}{l:List D}{cs:Array Value}(h:gT tb.tab vs l)(hr:Rs w M l cs.toList){i j:Nat}{u x:Value}(hi:i<vs.length)(hu:cs.toList[i]? =some u)(hx:(fY u)[j]? =some x):(iV (.tuple cs))[rU vs i+j]? =some x :=
 LW h hr hi hu hx
theorem ac6(hs:aL c F σ bm tm a w)(aB:bL tb.tab Γ c.env){n:Nat}{o:Oper}{x:Operand}{T i:Nat}(ho:o.op= .extract x i){aP:aT}(h:Fy tb.tab Γ gs o.dst (aQ tb σ T x) i=some aP):ia P c F gs σ bm tm a w n o aP:=by
 unfold Fy at h
 split at h
 ·rename_i k e hx
  split at h
  ·rename_i vs he
   split at h
   ·rename_i hi
    simp at h;subst h
    refine ⟨_,rfl,rfl,fun g hg=>(cL hs hx).2 g (K.XZ (show (IU _ _ _).has g from hg)),fun hg _=> ?_⟩
    obtain ⟨l,hl,hlt⟩:=Ge (E.cP aB e _ he)
    have hk0:=(cL hs hx).1 hg
    have hr:=((cL hs hx).1 hg).rd
    rw [hl] at hr
    obtain ⟨cs,hcs,hrs⟩:=hr
    obtain ⟨d,hd,_⟩:=hlt.get (List.getElem?_eq_getElem hi)
    obtain ⟨u,hu,vI⟩:=hrs.get hd
    have hu':cs[i]? =some u:=by simpa using hu
    have Au:R w (MM c.M0 bm tm σ) ((E.proj e i).den c.env) u:=by simpa [E.den,hl,List.getD,hd] using vI
    refine ⟨u,w,by simp [execOp,ho,hcs,Instr.extract,hu'],Below.refl _ _,dJ hg ?_⟩
    have hty:cz tb.tab vs[i] ((E.proj e i).den c.env):=by
     obtain ⟨d',hd',ht'⟩:=hlt.get (List.getElem?_eq_getElem hi)
     rw [hd] at hd';cases hd'
     simpa [E.den,hl,List.getD,hd] using ht'
    rw [hcs] at hk0
    have hfl: ∀(j:Nat) (x:Value),(fY u)[j]? =some x->(iV (.tuple cs))[rU vs i+j]? =some x:=fun j x hx=>Xp hlt hrs hi (by simpa using hu') hx
    rw [List.getElem?_eq_getElem hi]
    cases hv1:vs[i] with
    | c t =>
     rw [hv1] at hty
     have h1:fY u=[u]:=LR hty Au
     exact bD.OT Au (hk0.nth (by have:=hfl 0 u (by rw [h1];rfl);simpa using this))
    | agg ts =>
     rw [hv1] at hty
     obtain ⟨l',hl',vF⟩:=gV hty
     have Mr:=Au
     rw [hl'] at Mr
     obtain ⟨us,rfl,rL⟩:=Mr
     have:us=us.toList.toArray:=by simp
     rw [this] at Au ⊢
     refine bD.pack Au fun j k x hk hx=> ?_
     simp only [List.getElem?_map,Option.map_eq_some_iff] at hk
     obtain ⟨j',hj',rfl⟩:=hk
     have hj2:j'=j:=by
      rw [List.getElem?_eq_some_iff] at hj'
      obtain ⟨q1,q2⟩:=hj'
      simpa using q2.symm
     subst hj2
     exact hk0.nth (hfl j' x (by simpa [fY] using hx))
   ·simp at h
  ·simp at h
 ·simp at h
theorem ac5(aH:cD P tb tb=true)(hs:aL c F σ bm tm a w)(aB:bL tb.tab Γ c.env){n:Nat}{o:Oper}{x:Operand}{S T:Nat}(ho:o.op= .convert S T x){si ti:TI}(hsi:tb.get S=some si)(aM:tb.get T=some ti){aP:aT}
  (h:Fw tb.tab Γ gs o.dst (I7 tb si) si ti (aQ tb σ S x)=some aP):ia P c F gs σ bm tm a w n o aP:=by
 unfold Fw at h
 split at h
 ·rename_i k1 k2 kx e hv1 hv2 hx
  split at h
  ·rename_i hc
   simp at h;subst h
   refine ⟨_,rfl,rfl,fun g hg=>by simp [bX,K.has] at hg,fun hg _=> ?_⟩
   obtain ⟨kk,hkk⟩:=rN hc
   obtain ⟨m,hm,hmv,_⟩:=jw aB hkk ((cL hs hx).1 hg)
   obtain ⟨_,d1,_,_,_,_,hd1,dD⟩:=eZ aH hsi hv1
   obtain ⟨_,d2,_,_,_,_,ji,tR⟩:=eZ aH aM hv2
   simp only [fK] at dD tR;subst dD tR
   refine ⟨.int k2 (k2.wrap m),w,by simp [execOp,ho,hmv,convert,run_underlying hd1,run_underlying ji,Conv.intToInt],Below.refl _ _,dJ hg ?_⟩
   simp only [bD,E.den,hm,D.cQ,R]
   exact ⟨trivial,wrap_within _ _⟩
  ·simp at h
 ·rename_i el kx e hv1 hv2 hx
  split at h
  ·rename_i hc
   simp at h;subst h
   refine ⟨_,rfl,rfl,fun g hg=>by simp [bX,K.has] at hg,fun hg _=> ?_⟩
   obtain ⟨rows,hrows,dw,ad,len,cap,hval,hlen,hcap,hmax,hnone,hcells⟩:=xP aB (nO hc.1) ((cL hs hx).1 hg)
   obtain ⟨_,d1,_,_,_,_,hd1,dD⟩:=eZ aH hsi hv1
   obtain ⟨_,d2,_,_,_,_,ji,tR⟩:=eZ aH aM hv2
   simp only [fK] at dD tR;subst dD tR
   have hel:P.underlying el=some (.int .u8):=by
    have h8:=hc.2.1
    unfold I7 at h8
    rw [hv1] at h8
    simp only at h8
    split at h8
    ·rename_i i hi
     split at h8
     ·rename_i Y4
      obtain ⟨_,d3,_,_,_,_,hd3,MA⟩:=eZ aH hi Y4
      simp only [fK] at MA;subst MA;exact hd3
     ·simp at h8
    ·simp at h8
   rw [hc.2.2] at dw
   refine ⟨.string (tv (.sl rows)),w,?_,Below.refl _ _,dJ hg ?_⟩
   ·rcases ad with _|⟨b,o',s⟩
    ·have h0:rows=[]:=List.eq_nil_of_length_eq_zero (by have:=hnone rfl;omega)
     subst h0
     have:=run_convert_bytes_nil (P:=P) w S el hd1 hel len cap T ji
     simp [execOp,ho,hval,this]
     rfl
    ·obtain ⟨hs0,vJ⟩:=hcells b o' s rfl
     have hcs: ∀i,i<len->w.cell? ⟨b,o'+i,none⟩=some (.int .u8 ((rows.map fun r=>(r.headD .un).cw).getD i 0)):=by
      intro i hi
      have hr:=vJ.get (n:=1) (fun r hr=>dw.len r hr) (List.getElem?_eq_getElem (show i<rows.length by omega))
      have hm:=dw.mem _ (List.getElem_mem (show i<rows.length by omega))
      match vH:rows[i],hm with
      | [d],hm =>
       obtain ⟨n,rfl⟩:=oA hm.1
       rw [vH] at hr
       obtain ⟨⟨v,h1,_,h2⟩,_⟩:=hr
       have:v= .int .u8 n:=h2.1
       subst this
       rw [Nat.mul_one] at h1
       rw [h1]
       simp [List.getD,List.getElem?_eq_getElem (show i<rows.length by omega),vH]
     rcases Nat.eq_zero_or_pos len with h0|h0
     ·subst h0
      have h0':rows=[]:=List.eq_nil_of_length_eq_zero hlen.symm
      subst h0'
      have hrun:(convert S T (.slice (some ⟨b,o',s⟩) 0 cap)).run P w= .ok (.string (strOfNums [])) w:=by
       rw [run_convert_bytes_string w S T el _ 0 cap hd1 hel ji,run_bytesToString w _ 0 cap [] (by simpa using run_loadCells_list (P:=P) (w:=w) ⟨b,o',s⟩ [] (fun j u h=>by simp at h))]
       rfl
      simp [execOp,ho,hval,hrun,tv]
     ·have:=hs0 h0;subst this
      have hrun:=run_convert_bytes_arg (P:=P) w S el hd1 hel b o' len cap (rows.map fun r=>(r.headD .un).cw) (by simp [hlen]) hcs T ji
      simp [execOp,ho,hval,hrun,tv]
   ·simp only [bD,E.den,hrows,R]
    refine ⟨trivial,?_⟩
    show (strOfNums _).size<=_
    simp [strOfNums,ByteArray.size]
    omega
  ·simp at h
 ·simp at h
theorem Eb{n:Nat}(h:n<=maxLen):IntKind.i64.min<=(n:Int)/\(n:Int)<=IntKind.i64.max:=by
 unfold maxLen at h
 simp [IntKind.min,IntKind.max,IntKind.signed,IntKind.bits]
 omega
theorem sLen(aH:cD P tb tb=true)(hs:aL c F σ bm tm a w)(aB:bL tb.tab Γ c.env){n:Nat}{o:Oper}{x:Operand}{T:Nat}{cl:Call}(ho:o.op= .call cl)(hcl:cl.callee= .builtin .len)(har:cl.args.toList=[x])(hat:cl.argTypes.toList=[T])
  {ti:TI} (aM:tb.get T=some ti) {aP:aT} (h:FD tb.tab Γ gs o.dst ti (aQ tb σ T x)=some aP):ia P c F gs σ bm tm a w n o aP:=by
 have har':cl.args= #[x]:=by rw [<-Array.toList_inj,har]
 have hat':cl.argTypes= #[T]:=by rw [<-Array.toList_inj,hat]
 unfold FD at h
 split at h
 ·rename_i k e hx
  split at h
  ·rename_i hc
   simp at h;subst h
   refine ⟨_,rfl,rfl,fun g hg=>by simp [bX,K.has] at hg,fun hg _=> ?_⟩
   have fe:=(cL hs hx).1 hg
   rcases hc with hc|⟨mL,hsl⟩
   rotate_left
   ·obtain ⟨n,hn⟩:=Aw (E.cP aB e _ mL)
    have jl:=fe.rd
    rw [hn] at jl
    obtain ⟨ad,cap,hval,hcap,hmax,_⟩:=jl
    unfold NI at hsl
    split at hsl
    ·rename_i el hv
     obtain ⟨_,d1,_,_,_,_,hd1,dD⟩:=eZ aH aM hv
     simp only [fK] at dD;subst dD
     refine ⟨.int .i64 n,w,by simp [execOp,ho,resolve,hcl,invoke,builtin,Builtin.len_,har',hat',hval,run_underlying hd1,goInt],Below.refl _ _,dJ hg ?_⟩
     simp only [bD,E.den,hn,iX,R]
     exact ⟨trivial,Eb (by omega)⟩
    ·simp at hsl
   obtain ⟨mL,vL⟩:=hc
   unfold DC at vL
   split at vL
   ·rename_i hv
    obtain ⟨_,d1,_,_,_,_,hd1,dD⟩:=eZ aH aM hv
    simp only [fK] at dD;subst dD
    obtain ⟨s,Dv,hsv,gf⟩:=vc aB (by rw [mL,hv]) fe
    refine ⟨.int .i64 s.size,w,by simp [execOp,ho,resolve,hcl,invoke,builtin,Builtin.len_,har',hat',hsv,run_underlying hd1,goInt],Below.refl _ _,dJ hg ?_⟩
    simp only [bD,E.den,Dv,iX,R]
    exact ⟨trivial,Eb gf⟩
   ·rename_i el hv
    obtain ⟨_,d1,_,_,_,_,hd1,dD⟩:=eZ aH aM hv
    simp only [fK] at dD;subst dD
    obtain ⟨rows,hrows,dw,ad,len,cap,hval,hlen,hcap,hmax,hnone,hcells⟩:=xP aB (by rw [mL,hv]) fe
    refine ⟨.int .i64 len,w,by simp [execOp,ho,resolve,hcl,invoke,builtin,Builtin.len_,har',hat',hval,run_underlying hd1,goInt],Below.refl _ _,dJ hg ?_⟩
    simp only [bD,E.den,hrows,iX,R,hlen]
    exact ⟨trivial,Eb (by omega)⟩
   ·simp at vL
  ·simp at h
 ·simp at h
theorem sAt(aH:cD P tb tb=true)(hs:aL c F σ bm tm a w)(aB:bL tb.tab Γ c.env){n:Nat}{o:Oper}{x i:Operand}{T:Nat}(ho:o.op= .index T x i){ti:TI}(aM:tb.get T=some ti){aP:aT}
  (h:Ft tb.tab Γ gs o.dst ti (aQ tb σ T x) (aQ tb σ 0 i)=some aP):ia P c F gs σ bm tm a w n o aP:=by
 unfold Ft at h
 split at h
 ·rename_i kx ex ki ei hv hx hi
  split at h
  ·rename_i hc
   simp at h;subst h
   refine ⟨_,rfl,rfl,fun g hg=>by simp [bX,K.has] at hg,fun hg hr=> ?_⟩
   have hin:gU P c.env n (.cond gs (.bP ex ei)):=hr _ (by simp)
   replace hin:=hin hg
   obtain ⟨s,hs1,hsv,gf⟩:=vc aB (nO hc.1) ((cL hs hx).1 hg)
   obtain ⟨kk,hkk⟩:=rN hc.2
   obtain ⟨m,hm,hmv,_⟩:=jw aB hkk ((cL hs hi).1 hg)
   simp only [E.den,hs1,hm,D.cQ,iX,D.bool.injEq,decide_eq_true_eq] at hin
   obtain ⟨_,d1,_,_,_,_,hd1,dD⟩:=eZ aH aM hv
   simp only [fK] at dD;subst dD
   have hlt:m.toNat<s.size:=by omega
   refine ⟨.int .u8 (s[m.toNat]'hlt).toNat,w,by simp [execOp,ho,hsv,hmv,Instr.index,asIntOf,run_underlying hd1,hin.1,hlt],Below.refl _ _,dJ hg ?_⟩
   have h8:=(s[m.toNat]'hlt).toNat_lt
   simp only [bD,E.den,hs1,hm,D.eY,D.cQ,R]
   simp [hlt,IntKind.min,IntKind.max,IntKind.signed,IntKind.bits]
   omega
  ·simp at h
 ·simp at h
theorem Ym{tab:Nat->List CT}{n:Nat}{t:CT}{d:D}(h:cz tab (.agg (List.replicate n t)) d): ∃l,d= .agg l/\l.length=n/\bf tab (List.replicate n t) l:=by
 obtain ⟨l,hl,hlt⟩:=gV h
 exact ⟨l,hl,by rw [hlt.length,List.length_replicate],hlt⟩
theorem Zu{ei:TI}{e:Nat}{t:CT}(aH:cD P tb tb=true)(gb:tb.get e=some ei)(hv:ei.vt= .one (.c t)):(isAgg e).run P w= .ok false w:=by
 obtain ⟨i,d,_,_,_,_,hd,jj⟩:=eZ aH gb hv
 exact IB hd jj
theorem ada(aH:cD P tb tb=true)(hs:aL c F σ bm tm a w)(yB:j6 w)(aB:bL tb.tab Γ c.env){o:Oper}{g T:Nat}(ho:o.op= .load T (.global g)){ti:TI}(aM:tb.get T=some ti){aP:aT}
  (h:FC tb Γ gs o.dst ti g=some aP):ia P c F gs σ bm tm a w Γ.length o aP:=by
 unfold FC at h
 split at h
 ·rename_i n t ha
  simp at h;subst h
  obtain ⟨e,ei,i,hu,gb,hev,hi,hsz⟩:=IZ aH aM ha
  refine ⟨_,rfl,rfl,fun g hg=>by simp [bX,K.has] at hg,fun hg hr=> ?_⟩
  have hq:gU P c.env Γ.length (.oy g (.one (.agg (List.replicate n t))) none):=hr _ (by simp)
  obtain ⟨hq1,_,l,hl,hll⟩:=hq
  rw [List.length_replicate] at hll
  rw [hl] at hq1
  obtain ⟨cs,t0,f0,h1,h2⟩:=hq1 w yB
  have h3:=h2 w (MM c.M0 bm tm σ)
  simp only [D.kH] at h3
  have hrun:=acK (P:=P) (w:=w) hu hi (b:=g) (o:=0) (vs:=cs.toList) (by rw [h3.length,hll,hsz]) (fun j u hj=>by
   rw [Nat.zero_add]
   simp only [World.cell?,h1]
   simpa using hj)
  refine ⟨.agg cs,w,?_,Below.refl _ _,dJ hg ?_⟩
  ·simp [execOp,ho,Act.eval,Instr.loadAt,Instr.sureAddr,hrun]
  ·show R w _ (c.env.getD Γ.length .un) (.agg cs)
   rw [hl]
   exact ⟨cs,rfl,h3⟩
 ·simp at h
theorem ac9(aH:cD P tb tb=true)(hs:aL c F σ bm tm a w)(aB:bL tb.tab Γ c.env){o:Oper}{g T T':Nat}{i:Operand}(ho:o.op= .indexAddr T (.global g) i){ti:TI}(aM:tb.get T=some ti){aP:aT}
  (h:FB tb Γ gs o.dst ti g (aQ tb σ T' i)=some aP):ia P c F gs σ bm tm a w Γ.length o aP:=by
 unfold FB at h
 split at h
 ·rename_i n t ki ei ha hx
  split at h
  ·rename_i hint
   simp at h;subst h
   obtain ⟨e,CN,i',hu,gb,hev,hi,hsz⟩:=IZ aH aM ha
   refine ⟨_,rfl,rfl,fun g hg=>by simp [bX] at hg,fun hg hr=> ?_⟩
   have hq:gU P c.env Γ.length (.oy g (.one (.agg (List.replicate n t))) (some (gs,ei,n))):=hr _ (by simp)
   obtain ⟨hq1,hq2,l,hl,hll⟩:=hq
   rw [List.length_replicate] at hll
   obtain ⟨h0,h1⟩:=hq2 hg
   obtain ⟨kk,hkk⟩:=rN hint
   obtain ⟨m,hm,hmv,_⟩:=jw aB hkk ((cL hs hx).1 hg)
   rw [hm] at h0 h1
   simp only [D.cQ] at h0 h1
   obtain ⟨j,hj,hjs,_⟩:=pR aH gb hev
   refine ⟨.pointer (some ⟨g,m.toNat,none⟩),w,?_,Below.refl _ _,fun _=>⟨?_,hq1,?_⟩,fun h=>absurd hg h⟩
   ·have vD:a.eval (.global g)= .pointer (some ⟨g,0,none⟩):=rfl
    simp [execOp,ho,vD,hmv,Instr.indexAt,asIntOf,Instr.sureAddr,run_underlying hu,run_sizeOf hj,hjs,V1.cells,h0,h1,addr_add]
   ·rw [hm];rfl
   ·show _<(c.env.getD Γ.length .un).il.length
    rw [hl,hm]
    simp only [D.kH,D.cQ,hll];omega
  ·simp at h
 ·simp at h
theorem adg(aH:cD P tb tb=true)(hs:aL c F σ bm tm a w)(aB:bL tb.tab Γ c.env){n:Nat}{o:Oper}{x i:Operand}{T T1 T2:Nat}(ho:o.op= .indexAddr T x i){ti:TI}(aM:tb.get T=some ti){g0:Gd}{g:Nat}{l:E}(hx:aQ tb σ T1 x=some (.v g0 (.own g) l)){aP:aT}
  (h:FE tb Γ gs o.dst ti g0 g l (aQ tb σ T2 i)=some aP):ia P c F gs σ bm tm a w n o aP:=by
 unfold FE at h
 split at h
 ·rename_i el ki ei hv hi
  split at h
  ·rename_i e' he'
   split at h
   ·simp at h
   ·rename_i v1 hv1
    split at h
    ·rename_i hc
     simp at h;subst h
     obtain ⟨h4,h5⟩:=mO hs hx
     refine ⟨_,rfl,rfl,fun x hx=>h5 x hx,fun hg hr=> ?_⟩
     have hin:gU P c.env n (.cond gs (.bP l ei)):=hr _ (by simp)
     replace hin:=hin hg
     obtain ⟨kk,hkk⟩:=rN hc.2.2
     obtain ⟨m,hm,hmv,_⟩:=jw aB hkk ((cL hs hi).1 hg)
     obtain ⟨jl,gh⟩:=h4.1 (xU hc.1 hg)
     obtain ⟨L,hL⟩:=Aw (E.cP aB l _ (nO hc.2.1))
     rw [hL] at jl
     obtain ⟨ad,cap,hval,hcap,hmax,hnone,vM⟩:=jl
     simp only [E.den,hm,hL,D.cQ,iX,D.bool.injEq,decide_eq_true_eq] at hin
     obtain ⟨i',d,Y0,_,_,_,hd,jj⟩:=eZ aH aM hv
     simp only [fK] at jj;subst jj
     obtain ⟨j,hj,hjs,_⟩:=pR aH he' hv1
     have htab:tb.tab el=v1.cells:=by simp [TB.tab,he',TI.cells,hv1]
     have hlt:m.toNat<L:=by omega
     rcases ad with _|⟨b,o',s⟩
     ·have:=hnone rfl;omega
     ·obtain rfl:=vM b o' s rfl (by omega)
      refine ⟨.pointer (some ⟨b,o'+m.toNat*v1.cells.length,none⟩),w,?_,Below.refl _ _,fun _=>⟨b,o',_,cap,gh.symm.trans hval,?_,?_,?_⟩,fun h=>absurd hg h⟩
      ·simp [execOp,ho,hval,hmv,Instr.indexAt,asIntOf,run_underlying hd,run_sizeOf hj,hjs,hin.1,hin.2,addr_add]
      ·rw [hm];exact hin.1
      ·rw [hm];exact hlt
      ·rw [hm,htab];rfl
    ·simp at h
  ·simp at h
 ·simp at h
theorem ac8(aH:cD P tb tb=true)(hs:aL c F σ bm tm a w){n:Nat}{o:Oper}{x:Operand}{T f:Nat}(ho:o.op= .fieldAddr T x f){ti:TI}(aM:tb.get T=some ti){aP:aT}
  (h:FA tb Γ gs o.dst ti (aQ tb σ 0 x) f=some aP):ia P c F gs σ bm tm a w n o aP:=by
 unfold FA at h
 split at h
 ·rename_i hx;exact (by simp [KX] at h)
 ·exact ac7 aH hs ho aM h
theorem PG{v:Value}{n:Nat}{Q:Nat->Nat->D->Value->Prop}{d:D}(hb:om w v n Q d){a:Option Addr}{len cap:Nat}(hv:v= .slice a len cap){k:Nat}(hk:k<len) :
  ∃b o rows r,a=some ⟨b,o,none⟩/\d= .sl rows/\rows[k]? =some r/\r.length=n/\(∀r∈rows,r.length=n)/\rows.length=len/\len<=cap/\ ∀j d,r[j]? =some d-> ∃u,w.cell? ⟨b,o+k*n+j,none⟩=some u/\Q k j d u:=by
 obtain ⟨a',len',cap',rows,h1,h2,h3,h4,h5,h6,h7,h8⟩:=hb
 rw [hv] at h1
 simp only [Value.slice.injEq] at h1
 obtain ⟨rfl,rfl,rfl⟩:=h1
 have hlt:k<rows.length:=by omega
 rcases a with _|⟨b,o,s⟩
 ·have:=h6 rfl;omega
 ·obtain rfl:=(h8 b o s rfl).1 (by omega)
  exact ⟨b,o,rows,rows[k],rfl,h2,List.getElem?_eq_getElem hlt,h7 _ (List.getElem_mem hlt),h7,h3.symm,h4,fun j d hj=>(h8 b o none rfl).2 k _ (List.getElem?_eq_getElem hlt) j d hj⟩
theorem sLd(aH:cD P tb tb=true)(hs:aL c F σ bm tm a w)(yB:j6 w)(aB:bL tb.tab Γ c.env){o:Oper}{x:Operand}{T:Nat}(ho:o.op= .load T x){ti:TI}(aM:tb.get T=some ti){aP:aT}
  (h:xJ tb Γ gs o.dst σ ti x=some aP):ia P c F gs σ bm tm a w Γ.length o aP:=by
 unfold xJ at h
 split at h
 ·rename_i g;exact ada aH hs yB aB ho aM h
 ·split at h
  ·rename_i g0 g y ei hst
   split at h
   ·rename_i t ts hv hy
    split at h
    ·rename_i hc
     simp at h;subst h
     obtain ⟨hgd,hts⟩:=hc
     refine ⟨_,rfl,rfl,fun g hg=>by simp [bX,K.has] at hg,fun hg hr=> ?_⟩
     obtain ⟨h4,_⟩:=mO hs hst
     obtain ⟨hp,hG,hlt2⟩:=h4.1 (xU hgd hg)
     obtain ⟨cs,t0,f0,q1,q2⟩:=hG w yB
     have q3:=q2 w (MM c.M0 bm tm σ)
     obtain ⟨u,hu,vI⟩:=q3.get (List.getElem?_eq_getElem hlt2)
     obtain ⟨i,d,hi,_,_,_,hd,jj⟩:=eZ aH aM hv
     have hcell:w.cell? ⟨g,(ei.den c.env).cw.toNat,none⟩=some u:=by
      simp only [World.cell?,q1]
      simpa using hu
     refine ⟨u,w,by simp [execOp,ho,hp,Instr.loadAt,Instr.sureAddr,D7 hd jj hcell],Below.refl _ _,dJ hg ?_⟩
     simp only [bD,E.den,List.getElem?_eq_getElem hlt2,Option.getD_some]
     exact vI
    ·simp at h
   ·simp at h
  ·rename_i hst;exact (by simp [KY] at h)
  ·rename_i hst;exact (by simp [KV] at h)
  ·exact adf aH hs aB ho aM h
theorem adb(aH:cD P tb tb=true)(hs:aL c F σ bm tm a w)(aB:bL tb.tab Γ c.env){o:Oper}{x i:Operand}{T:Nat}(ho:o.op= .indexAddr T x i){ti:TI}(aM:tb.get T=some ti){aP:aT}
  (h:xI tb Γ gs o.dst σ ti T x i=some aP):ia P c F gs σ bm tm a w Γ.length o aP:=by
 unfold xI at h
 split at h
 ·rename_i g;exact ac9 aH hs aB ho aM h
 ·split at h
  ·rename_i g0 g l hst
   cases hm:fg .mem (l.inf tb.tab Γ) with
   | true=>rw [hm] at h;exact adg aH hs aB ho aM hst h
   | false=>rw [hm] at h;exact Qd aH hs aB ho aM h
  ·rename_i hst;exact (by simp [KU] at h)
  ·exact Qd aH hs aB ho aM h
theorem ado(aH:cD P tb tb=true)(hs:aL c F σ bm tm a w)(aB:bL tb.tab Γ c.env){n:Nat}{o:Oper}{x i:Operand}{T:Nat}(ho:o.op= .index T x i){ti:TI}(aM:tb.get T=some ti){aP:aT}
  (h:FL tb Γ gs o.dst ti (aQ tb σ T x) (aQ tb σ 0 i)=some aP):ia P c F gs σ bm tm a w n o aP:=by
 unfold FL at h
 split at h
 ·rename_i m t ha
  split at h
  ·rename_i kx ex ki ei hx hi
   split at h
   ·rename_i hc
    simp at h;subst h
    obtain ⟨hty,hint⟩:=hc
    obtain ⟨e,CN,i',hu,gb,hev,hi',hsz⟩:=IZ aH aM ha
    refine ⟨_,rfl,rfl,fun g hg=>by simp [bX,K.has] at hg,fun hg hr=> ?_⟩
    have hq:gU P c.env n (.cond gs (.an (.ic .leq (.li .i64 0) ei) (.ic .lss ei (.li .i64 m)))):=hr _ (by simp)
    replace hq:=hq hg
    obtain ⟨l,hl,hll,hlt⟩:=Ym (E.cP aB ex _ hty)
    obtain ⟨kk,hkk⟩:=rN hint
    obtain ⟨z,hz,hzv,_⟩:=jw aB hkk ((cL hs hi).1 hg)
    simp only [E.den,hz,D.cQ,D.eX,aS,D.bool.injEq,Bool.and_eq_true,decide_eq_true_eq] at hq
    have hr0:=((cL hs hx).1 hg).rd
    rw [hl] at hr0
    obtain ⟨cs,hcs,hrs⟩:=hr0
    have hlt2:z.toNat<l.length:=by omega
    obtain ⟨u,hu',vI⟩:=hrs.get (List.getElem?_eq_getElem hlt2)
    obtain ⟨j,hj,hjs,_⟩:=pR aH gb hev
    have Ya:cs[z.toNat]? =some u:=by simpa using hu'
    have hag:=Zu (P:=P) (w:=w) aH gb hev
    refine ⟨u,w,?_,Below.refl _ _,dJ hg ?_⟩
    ·simp [execOp,ho,hcs,hzv,Instr.index,asIntOf,run_underlying hu,run_sizeOf hj,hjs,V1.cells,hq.1,hq.2,part,hag,Ya]
    ·simp only [bD,E.den,hl,hz,D.kH,D.cQ,List.getElem?_eq_getElem hlt2,Option.getD_some]
     exact vI
   ·simp at h
  ·simp at h
 ·exact sAt aH hs aB ho aM h
theorem adn(hs:aL c F σ bm tm a w)(aB:bL tb.tab Γ c.env){n:Nat}{o:Oper}{x y z:Operand}{T1 T2 T3:Nat}(ho:o.op= .pick x y z){aP:aT}(h:FK tb.tab Γ gs o.dst (aQ tb σ T1 x) (aQ tb σ T2 y) (aQ tb σ T3 z)=some aP):ia P c F gs σ bm tm a w n o aP:=by
 unfold FK at h
 split at h
 ·rename_i kx ex hx
  split at h
  ·rename_i hc
   split at h
   ·rename_i ky ey kz ez hy hz
    simp only [Option.some.injEq] at h;subst h
    refine ⟨_,rfl,rfl,fun g hg=>by simp [bX,K.has] at hg,fun hg _=> ?_⟩
    obtain ⟨b,hb,hv⟩:=tC aB (nO hc) ((cL hs hx).1 hg)
    have iB:(Ik tb.tab Γ ex ey ez).den c.env=if b=true then ey.den c.env else ez.den c.env:=by
     unfold Ik
     split
     ·rename_i h1
      obtain ⟨q,hq⟩:=nF (E.cP aB ez _ (nO h1.2))
      cases b<;>simp [E.den,hb,hq,h1.1]
     ·split
      ·rename_i h1
       obtain ⟨q,hq⟩:=nF (E.cP aB ey _ (nO h1.2))
       cases b<;>simp [E.den,hb,hq,h1.1]
      ·cases b<;>simp [E.den,hb]
    cases b with
    | true =>
     have:=((cL hs hy).1 (FZ.2 ⟨hg,hb⟩)).rd
     exact ⟨a.eval y,w,by simp [execOp,ho,hv,asBool],Below.refl _ _,dJ hg (by simp only [bD];rw [iB];exact this)⟩
    | false =>
     have:=((cL hs hz).1 (FZ.2 ⟨hg,hb⟩)).rd
     exact ⟨a.eval z,w,by simp [execOp,ho,hv,asBool],Below.refl _ _,dJ hg (by simp only [bD];rw [iB];exact this)⟩
   ·simp at h
  ·simp at h
 ·simp at h
end
end
section
open Go.RowKit
variable [GC]
theorem ad4{k:IntKind}{a b:Int}(h1:k.min<=a)(h2:a<=k.max):k.min<=a.tmod b/\a.tmod b<=k.max:=by
 have hk:k.min<=0/\0<=k.max:=by cases k<;>simp [IntKind.min,IntKind.max,IntKind.signed,IntKind.bits]
 have hn:(a.tmod b).natAbs<=a.natAbs:=by rw [Int.natAbs_tmod];exact Nat.mod_le _ _
 by_cases h0:0<=a
 ·have:=Int.tmod_nonneg b h0;omega
 ·have h3:=Int.tmod_nonneg b (show 0<= -a by omega)
  rw [Int.neg_tmod] at h3
  omega
theorem Xk{k:IntKind}{a:Int}(n:Nat)(h1:k.min<=a)(h2:a<=k.max):k.min<=a.fdiv (2^n)/\a.fdiv (2^n)<=k.max:=by
 have hk:k.min<=0/\0<=k.max:=by cases k<;>simp [IntKind.min,IntKind.max,IntKind.signed,IntKind.bits]
 have hp:(0:Int)<2^n:=Int.pow_pos (by decide)
 rw [Int.fdiv_eq_ediv_of_nonneg _ (Int.le_of_lt hp)]
 by_cases h0:0<=a
 ·have h3:=Int.ediv_nonneg h0 (Int.le_of_lt hp)
  have h4:=Int.ediv_le_self (2^n) h0
  omega
 ·have h3:a<=a/2^n:=by
   rw [Int.le_ediv_iff_mul_le hp]
   have:=Int.mul_le_mul_of_nonpos_left (show a<=0 by omega) (show (1:Int)<=2^n by omega)
   omega
  have h4:a/2^n<0:=Int.ediv_neg_of_neg_of_pos (by omega) hp
  omega
section
variable {P:Program}{c:SC}{F:Nat->Prop}{σ:Nat->ST}{bm:Nat->Nat}{tm:Nat->Value}{a:Act}{w:World}{tb:TB}{Γ:List VT}{gs:Gd}
theorem zh{op:BinOp}{T:Nat}{x y:Operand}{k k':IntKind}{m n:Int}:(eqGuard op T x y (.int k m) (.int k' n)).run P w= .ok () w:=by
 cases op<;>simp [eqGuard]
theorem PT{op:BinOp}{T:Nat}{x y:Operand}{s t:ByteArray}:(eqGuard op T x y (.string s) (.string t)).run P w= .ok () w:=by
 cases op<;>simp [eqGuard]
theorem K4: ∀{a b a' b':List D},a.length=b.length->kN (a++a') (b++b')=(kN a b&&kN a' b')
 | [],[],_,_,_=>by simp [kN]
 | x::a,y::b,a',b',h=>by simp only [List.cons_append,kN,K4 (a:=a) (b:=b) (by simpa using h),Bool.and_assoc]
 | [],_::_,_,_,h=>by simp at h
 | _::_,[],_,_,h=>by simp at h
theorem PW{t:Nat}{d:TypeDesc}{ct:CT}(h:P.underlying t=some d)(hd:fK ct d){cs:Array Value}{off:Nat}{v:Value}(hv:cs[off]? =some v):(part t cs off).run P w= .ok v w:=by
 simp [part,IB h hd,hv]
theorem PX{t:Nat}{f:Array Field}(h:P.underlying t=some (.struct f)){i:TypeInfo}(hi:P.info? t=some i){cs:Array Value}{off:Nat}:(part t cs off).run P w= .ok (.agg (cs.extract off (off+i.size))) w:=by
 simp [part,PU h,run_sizeOf hi]
theorem run_eq(aH:cD P tb tb=true){M:Addr->Prop}: ∀(d T:Nat) (ti:TI) (v:V1),u6 P tb d T=true->tb.get T=some ti->ti.vt= .one v-> ∀(dx dy:D) (x y:Value),cz tb.tab v dx->cz tb.tab v dy->R w M dx x->R w M dy y-> ∀e,d<=e ->
  (Op.equalIn e T x y).run P w= .ok (match v with| .c _=>K3 dx dy| .agg _=>kN dx.il dy.il) w
 | 0,T,ti,v,h,_,_,_,_,_,_,_,_,_,_,_,_=>by simp [u6] at h
 | d+1,T,ti,v,h,aM,hv,dx,dy,x,y,hx,hy,rx,ry,e,he=>by
  obtain ⟨e,rfl⟩: ∃e',e=e'+1:=⟨e-1,by omega⟩
  simp only [u6,aM,hv] at h
  cases v with
  | c t =>
   obtain ⟨_,d1,_,_,_,_,hd1,dD⟩:=eZ aH aM hv
   cases t with
   | mem=>exact dD.elim
   | fn=>exact dD.elim
   | sl el=>simp at h
   | bool =>
    obtain ⟨a,rfl⟩:=nF hx
    obtain ⟨b,rfl⟩:=nF hy
    simp only [R] at rx ry;subst rx ry
    simp only [fK] at dD;subst dD
    rw [run_equalIn_bool' w e T a b hd1];rfl
   | int k =>
    obtain ⟨a,rfl⟩:=oA hx
    obtain ⟨b,rfl⟩:=oA hy
    obtain ⟨rfl,_⟩:=rx
    obtain ⟨rfl,_⟩:=ry
    simp only [fK] at dD;subst dD
    rw [run_equalIn_int w e T k k a b hd1];rfl
   | str =>
    obtain ⟨a,rfl⟩:=mD hx
    obtain ⟨b,rfl⟩:=mD hy
    obtain ⟨rfl,_⟩:=rx
    obtain ⟨rfl,_⟩:=ry
    simp only [fK] at dD;subst dD
    rw [run_equalIn_string w e T a b hd1];rfl
  | agg ts =>
   simp only [Bool.and_eq_true,Bool.not_eq_true',List.all_eq_true] at h
   obtain ⟨⟨⟨h1,h2⟩,h3⟩,h4⟩:=h
   obtain ⟨i,fields,z,hi,hsz,_,_,_,hu,hfo⟩:=kY aH aM hv
   obtain ⟨l,rfl,hl⟩:=gV hx
   obtain ⟨m,rfl,hm⟩:=gV hy
   obtain ⟨xs,rfl,hxs⟩:=rx
   obtain ⟨ys,rfl,hys⟩:=ry
   have AB:P.fieldsOf T=fields:=by simp [Program.fieldsOf,hu]
   rw [run_equalIn_struct w e T xs ys (by rw [AB];exact hu) h1,AB]
   rw [AB] at h2
   have key: ∀(fs:List (Nat×Nat)) (fl:List Field) (o:Nat),mz tb fs fl=true->(∀f∈fl,(f.name== "_")=false)->(∀q∈fs,u6 P tb d q.2=true)->qP tb o (ts.drop o) fs=true->(Op.eqFields e xs ys fl).run P w= .ok (kN (l.drop o) (m.drop o)) w:=by
    have hll:=hl.length
    have gI:=hm.length
    intro fs
    induction fs with
    | nil =>
     intro fl o AE _ _ hco
     cases fl with
     | nil =>
      simp only [qP,List.isEmpty_iff] at hco
      have:ts.length<=o:=by simpa using hco
      rw [List.drop_eq_nil_of_le (by omega),List.drop_eq_nil_of_le (by omega)]
      simp [Op.eqFields,kN]
     | cons _ _=>simp [mz] at AE
    | cons q r ih =>
     intro fl o AE hnm heq hco
     obtain ⟨o',ft⟩:=q
     cases fl with
     | nil=>simp [mz] at AE
     | cons f fl =>
      simp only [mz,Bool.and_eq_true,beq_iff_eq] at AE
      obtain ⟨⟨⟨q1,q2⟩,q3⟩,q4⟩:=AE
      simp only [qP,Bool.and_eq_true] at hco
      obtain ⟨hb,hco⟩:=hco
      have:o=o':=Nat.eq_of_beq_eq_true hb
      subst this
      split at hco
      ·rename_i fi hfi
       simp only [Bool.and_eq_true,decide_eq_true_eq] at hco
       obtain ⟨htk,hco⟩:=hco
       rw [List.drop_drop] at hco
       have hrest:=ih fl (o+fi.cells.length) q4 (fun f' hf'=>hnm f' (by simp [hf'])) (fun q hq=>heq q (by simp [hq])) hco
       rw [hfi] at q3
       simp only at q3
       split at q3
       ·rename_i v1 hv1
        have hcl:fi.cells=v1.cells:=by simp [TI.cells,hv1]
        rw [hcl] at hrest htk
        have hle:o+v1.cells.length<=ts.length\/v1.cells.length=0:=by
         have:=congrArg List.length htk
         simp at this;omega
        have hne:f.name≠ "_" :=fun e'=>by have:=hnm f (by simp);rw [e'] at this;simp at this
        have MG:=heq (o,ft) (by simp)
        have YY:kN (l.drop o) (m.drop o)=(kN ((l.drop o).take v1.cells.length) ((m.drop o).take v1.cells.length)&&kN (l.drop (o+v1.cells.length)) (m.drop (o+v1.cells.length))):=by
         rw [<-K4 (by simp;omega)]
         rw [<-List.drop_drop, <-List.drop_drop,List.take_append_drop,List.take_append_drop]
        have rI:=(hl.drop o).take v1.cells.length
        have nN:=(hm.drop o).take v1.cells.length
        rw [htk] at rI nN
        have AR:=(hxs.drop o).take v1.cells.length
        have vK:=(hys.drop o).take v1.cells.length
        obtain ⟨j,hj,hjs,_⟩:=pR aH hfi hv1
        have YK: ∃(px py:Value),(part f.type xs f.offset).run P w= .ok px w/\(part f.type ys f.offset).run P w= .ok py w/\(Op.equalIn e ft px py).run P w= .ok (kN ((l.drop o).take v1.cells.length) ((m.drop o).take v1.cells.length)) w:=by
         rw [<-q1, <-q2]
         cases v1 with
         | c t =>
          obtain ⟨_,d1,_,_,_,_,hd1,dD⟩:=eZ aH hfi hv1
          simp only [V1.cells] at rI nN AR vK ⊢
          generalize (l.drop o).take [t].length=la at rI AR ⊢
          generalize (m.drop o).take [t].length=lb at nN vK ⊢
          cases la with
          | nil=>simp [bf] at rI
          | cons ea ra =>
           cases lb with
           | nil=>simp [bf] at nN
           | cons eb rb =>
            simp only [bf] at rI nN
            have YO:ra=[]:=by cases ra with|nil=>rfl|cons _ _=>simp [bf] at rI
            have YP:rb=[]:=by cases rb with|nil=>rfl|cons _ _=>simp [bf] at nN
            subst YO YP
            obtain ⟨px,qx,hpx,YS,_⟩:=AR
            obtain ⟨py,qy,hpy,YT,_⟩:=vK
            have hx0:xs[o]? =some px:=by
             have:=congrArg (fun l=>l[0]?) hpx
             simpa using this
            have hy0:ys[o]? =some py:=by
             have:=congrArg (fun l=>l[0]?) hpy
             simpa using this
            refine ⟨px,py,PW hd1 dD hx0,PW hd1 dD hy0,?_⟩
            have:=run_eq aH d ft fi (.c t) MG hfi hv1 ea eb px py rI.1 nN.1 YS YT e (by omega)
            simpa [kN] using this
         | agg us =>
          obtain ⟨i',f',z',hi',yH,_,_,_,hu',_⟩:=kY aH hfi hv1
          simp only [V1.cells] at rI nN AR vK hle ⊢
          have ex: ∀zs:Array Value,(zs.extract o (o+i'.size)).toList=(zs.toList.drop o).take us.length:=fun zs=>by simp [yH,List.extract_eq_take_drop]
          refine ⟨.agg (xs.extract o (o+i'.size)),.agg (ys.extract o (o+i'.size)),PX hu' hi',PX hu' hi',?_⟩
          exact run_eq aH d ft fi (.agg us) MG hfi hv1 (.agg _) (.agg _) _ _ rI nN ⟨_,rfl,by rw [ex];exact AR⟩ ⟨_,rfl,by rw [ex];exact vK⟩ e (by omega)
        obtain ⟨px,py,e1,e2,e4⟩:=YK
        simp only [Op.eqFields,if_pos hne,Sem.run_bind,e1,e2,Result.andThen_ok]
        rw [<-q2,e4]
        simp only [Result.andThen_ok,YY]
        cases kN ((l.drop o).take v1.cells.length) ((m.drop o).take v1.cells.length) with
        | true=>simp [hrest]
        | false=>simp
       ·simp at q3
      ·simp at hco
   have:=key ti.fs fields.toList 0 hfo (fun f hf=>by simpa using h2 f hf) h3 (by simpa using h4)
   simpa using this
theorem Xi(aH:cD P tb tb=true){T:Nat}{ti:TI}(aM:tb.get T=some ti){ts:List CT}(hv:ti.vt= .one (.agg ts))(he:ti.eq=true):u6 P tb 8 T=true/\P.eqGuardType P.depth T=false:=by
 have h:=BK aH aM
 simp only [zo,hv] at h
 split at h
 ·simp at h
 ·simp only [Bool.and_eq_true,Bool.or_eq_true,Bool.not_eq_true'] at h
  have h5:=h.2
  rw [he] at h5
  simpa using h5
theorem acX(aH:cD P tb tb=true)(hs:aL c F σ bm tm a w)(aB:bL tb.tab Γ c.env){n:Nat}{o:Oper}{x y:Operand}{T T':Nat}{op:BinOp}(ho:o.op= .binOp op T x y T'){aP:aT}
  (h:Fu tb.tab Γ gs o.dst op (tb.get T) (aQ tb σ T x) (aQ tb σ T y)=some aP):ia P c F gs σ bm tm a w n o aP:=by
 unfold Fu at h
 split at h
 ·rename_i kx ea ky eb hx hy
  split at h
  ·rename_i k k' oF hkb
   split at h
   ·rename_i hop
    simp only [Option.some.injEq] at h;subst h
    refine ⟨_,rfl,rfl,fun g hg=>by simp [bX,K.has] at hg,fun hg hr=> ?_⟩
    have hin:gU P c.env n (.cond gs (.ic .geq eb (.li k' 0))):=hr _ (by simp)
    replace hin:=hin hg
    obtain ⟨m,hm,hmv,tY,hm2⟩:=jw aB oF ((cL hs hx).1 hg)
    obtain ⟨q,hq,ku,hq1,hq2⟩:=jw aB hkb ((cL hs hy).1 hg)
    simp [E.den,hq,aS] at hin
    have hnl: ¬q<0:=by omega
    rcases hop with rfl|rfl
    ·refine ⟨.int k (cv .shl k m q),w,?_,Below.refl _ _,dJ hg ?_⟩
     ·simp [execOp,ho,hmv,ku,zh,binOp,Op.shift,hnl,cv]
     ·simp only [bD,E.den,hm,hq,D.cQ,R];exact ⟨trivial,wrap_within _ _⟩
    ·refine ⟨.int k (cv .shr k m q),w,?_,Below.refl _ _,dJ hg ?_⟩
     ·simp [execOp,ho,hmv,ku,zh,binOp,Op.shift,hnl,cv]
     ·simp only [bD,E.den,hm,hq,D.cQ,R];exact ⟨trivial,Xk _ tY hm2⟩
   ·rename_i hns
    split at h
    ·simp at h
    ·rename_i hkk
     have hkk:k=k':=by simpa using hkk
     subst hkk
     split at h
     ·rename_i hop
      simp only [Option.some.injEq] at h;subst h
      refine ⟨_,rfl,rfl,fun g hg=>by simp [bX,K.has] at hg,fun hg _=> ?_⟩
      obtain ⟨m,hm,hmv,tY,hm2⟩:=jw aB oF ((cL hs hx).1 hg)
      obtain ⟨q,hq,ku,hq1,hq2⟩:=jw aB hkb ((cL hs hy).1 hg)
      refine ⟨.int k (cv op k m q),w,?_,Below.refl _ _,dJ hg ?_⟩
      ·cases op<;>simp [yO] at hop<;>simp [execOp,ho,hmv,ku,zh,binOp,Op.intArith,Op.intBits,cv]
      ·simp only [bD,E.den,hm,hq,D.cQ,R]
       refine ⟨trivial,?_⟩
       cases op<;>simp [yO] at hop<;>exact wrap_within _ _
     ·split at h
      ·rename_i hop
       simp only [Option.some.injEq] at h;subst h
       refine ⟨_,rfl,rfl,fun g hg=>by simp [bX,K.has] at hg,fun hg _=> ?_⟩
       obtain ⟨m,hm,hmv,tY,hm2⟩:=jw aB oF ((cL hs hx).1 hg)
       obtain ⟨q,hq,ku,hq1,hq2⟩:=jw aB hkb ((cL hs hy).1 hg)
       refine ⟨.bool (aS op m q),w,?_,Below.refl _ _,dJ hg ?_⟩
       ·cases op<;>simp [vT] at hop<;>simp [execOp,ho,hmv,ku,zh,binOp,Op.intCmp,aS]
       ·simp only [bD,E.den,hm,hq,D.cQ,R]
      ·split at h
       ·rename_i hop
        simp only [Option.some.injEq] at h;subst h
        refine ⟨_,rfl,rfl,fun g hg=>by simp [bX,K.has] at hg,fun hg hr=> ?_⟩
        have hin:gU P c.env n (.cond gs (.ic .neq eb (.li k 0))):=hr _ (by simp)
        replace hin:=hin hg
        obtain ⟨m,hm,hmv,tY,hm2⟩:=jw aB oF ((cL hs hx).1 hg)
        obtain ⟨q,hq,ku,hq1,hq2⟩:=jw aB hkb ((cL hs hy).1 hg)
        simp [E.den,hq,aS] at hin
        rcases hop with rfl|rfl
        ·refine ⟨.int k (cv .quo k m q),w,?_,Below.refl _ _,dJ hg ?_⟩
         ·simp [execOp,ho,hmv,ku,zh,binOp,Op.intDiv,hin,cv]
         ·simp only [bD,E.den,hm,hq,D.cQ,R];exact ⟨trivial,wrap_within _ _⟩
        ·refine ⟨.int k (cv .rem k m q),w,?_,Below.refl _ _,dJ hg ?_⟩
         ·simp [execOp,ho,hmv,ku,zh,binOp,Op.intDiv,hin,cv]
         ·simp only [bD,E.den,hm,hq,D.cQ,R];exact ⟨trivial,ad4 tY hm2⟩
       ·simp at h
  ·rename_i oF hkb
   split at h
   ·rename_i hop
    simp only [Option.some.injEq] at h;subst h
    refine ⟨_,rfl,rfl,fun g hg=>by simp [bX,K.has] at hg,fun hg _=> ?_⟩
    obtain ⟨m,hm,hmv,tY⟩:=vc aB oF ((cL hs hx).1 hg)
    obtain ⟨q,hq,ku,hq1⟩:=vc aB hkb ((cL hs hy).1 hg)
    refine ⟨.bool (fM op m q),w,?_,Below.refl _ _,dJ hg ?_⟩
    ·cases op<;>simp [vT] at hop<;>simp [execOp,ho,hmv,ku,PT,binOp,Op.stringOp,fM]
    ·simp only [bD,E.den,hm,hq,D.eY,R]
   ·split at h
    ·rename_i hop
     subst hop
     simp only [Option.some.injEq] at h;subst h
     refine ⟨_,rfl,rfl,fun g hg=>by simp [bX,K.has] at hg,fun hg hr=> ?_⟩
     have hin:gU P c.env n (.cond gs (.kE ea eb)):=hr _ (by simp)
     replace hin:=hin hg
     obtain ⟨m,hm,hmv,tY⟩:=vc aB oF ((cL hs hx).1 hg)
     obtain ⟨q,hq,ku,hq1⟩:=vc aB hkb ((cL hs hy).1 hg)
     simp [E.den,hm,hq] at hin
     have h63: ¬(IntKind.i64.max<(m.size:Int)+(q.size:Int)):=by
      have:=Eb hin
      omega
     refine ⟨.string (m++q),w,?_,Below.refl _ _,dJ hg ?_⟩
     ·simp [execOp,ho,hmv,ku,PT,binOp,Op.stringOp,h63]
      unfold maxLen at hin;omega
     ·simp only [bD,E.den,hm,hq,D.eY,R,ByteArray.size_append];exact ⟨trivial,hin⟩
    ·simp at h
  ·rename_i ts us oF hkb
   split at h
   ·rename_i i aM
    split at h
    ·rename_i hc
     obtain ⟨hce,hcv,Mz⟩:=hc
     obtain ⟨heq,hgd⟩:=Xi aH aM hcv hce
     have hgo:bB c.env gs-> ∃xs ys,a.eval x= .agg xs/\a.eval y= .agg ys/\ ∃q,(E.ae ea eb).den c.env= .bool q/\(Op.equalIn 10000 T (.agg xs) (.agg ys)).run P w= .ok q w:=by
      intro hg
      obtain ⟨l,hl,hlt⟩:=gV (E.cP aB ea _ oF)
      obtain ⟨m,hm,GA⟩:=gV (E.cP aB eb _ hkb)
      have rL:us=ts:=by rw [hcv] at Mz;simpa using Mz.symm
      subst rL
      have rx:=((cL hs hx).1 hg).rd
      have ry:=((cL hs hy).1 hg).rd
      rw [hl] at rx;rw [hm] at ry
      have:=run_eq aH 8 T i (.agg us) heq aM hcv (.agg l) (.agg m) _ _ hlt GA rx ry 10000 (by omega)
      obtain ⟨xs,hxs,_⟩:=rx
      obtain ⟨ys,hys,_⟩:=ry
      rw [hxs,hys] at this
      exact ⟨xs,ys,hxs,hys,_,by simp [E.den,hl,hm],this⟩
     split at h
     ·rename_i hop
      subst hop
      simp only [Option.some.injEq] at h;subst h
      refine ⟨_,rfl,rfl,fun g hg=>by simp [bX,K.has] at hg,fun hg _=> ?_⟩
      obtain ⟨xs,ys,e1,e2,q,e3,e4⟩:=hgo hg
      refine ⟨.bool q,w,?_,Below.refl _ _,dJ hg ?_⟩
      ·simp [execOp,ho,e1,e2,run_eqGuard_agg w .eql T x y xs ys hgd,run_eql_struct,e4]
      ·simp only [bD,e3,R]
     ·split at h
      ·rename_i hop
       subst hop
       simp only [Option.some.injEq] at h;subst h
       refine ⟨_,rfl,rfl,fun g hg=>by simp [bX,K.has] at hg,fun hg _=> ?_⟩
       obtain ⟨xs,ys,e1,e2,q,e3,e4⟩:=hgo hg
       refine ⟨.bool (!q),w,?_,Below.refl _ _,dJ hg ?_⟩
       ·simp [execOp,ho,e1,e2,run_eqGuard_agg w .neq T x y xs ys hgd,run_neq_struct,e4]
       ·simp only [E.den,D.bool.injEq] at e3
        simp only [bD,E.den,e3,D.eX,R]
      ·simp at h
    ·simp at h
   ·simp at h
  ·rename_i oF hkb
   split at h
   ·rename_i i aM
    split at h
    ·rename_i hv
     obtain ⟨_,d1,_,_,_,_,hd1,dD⟩:=eZ aH aM hv
     simp only [fK] at dD;subst dD
     split at h
     ·rename_i hop
      subst hop
      simp only [Option.some.injEq] at h;subst h
      refine ⟨_,rfl,rfl,fun g hg=>by simp [bX,K.has] at hg,fun hg _=> ?_⟩
      obtain ⟨m,hm,hmv⟩:=tC aB oF ((cL hs hx).1 hg)
      obtain ⟨q,hq,ku⟩:=tC aB hkb ((cL hs hy).1 hg)
      refine ⟨.bool (m==q),w,?_,Below.refl _ _,dJ hg ?_⟩
      ·simp [execOp,ho,hmv,ku,eqGuard,binOp,Op.equal,Op.maxDepth,run_equalIn_bool' w 9999 T m q hd1]
      ·simp only [bD,E.den,hm,hq,D.eX,R]
     ·split at h
      ·rename_i hop
       subst hop
       simp only [Option.some.injEq] at h;subst h
       refine ⟨_,rfl,rfl,fun g hg=>by simp [bX,K.has] at hg,fun hg _=> ?_⟩
       obtain ⟨m,hm,hmv⟩:=tC aB oF ((cL hs hx).1 hg)
       obtain ⟨q,hq,ku⟩:=tC aB hkb ((cL hs hy).1 hg)
       refine ⟨.bool (!(m==q)),w,?_,Below.refl _ _,dJ hg ?_⟩
       ·simp [execOp,ho,hmv,ku,eqGuard,binOp,Op.equal,Op.maxDepth,run_equalIn_bool' w 9999 T m q hd1]
       ·simp only [bD,E.den,hm,hq,D.eX,R]
      ·simp at h
    ·simp at h
   ·simp at h
  ·simp at h
 ·simp at h
theorem dr.cut{M:Addr->Prop}{m:Nat}{rows:List (List D)}{b o:Nat}(h:dr w M rows b o)(hn: ∀r∈rows,r.length=m)(l k:Nat):dr w M ((rows.drop l).take k) b (o+l*m):=by
 refine dr.of (n:=m) (fun r hr=>hn r (List.mem_of_mem_drop (List.mem_of_mem_take hr))) fun i r hr=> ?_
 simp only [List.getElem?_take,List.getElem?_drop] at hr
 split at hr
 ·have:=h.get hn hr
  rwa [show o+(l+i)*m=o+l*m+i*m by rw [Nat.add_mul];omega] at this
 ·simp at hr
theorem run_sliceBound{v:Value}{k:IntKind}{i:Int}(hv:v= .int k i){y:Nat}{code:BoundsCode}(h0:0<=i)(h1:i<=y):(Instr.sliceBound v y code).run P w= .ok i.toNat w:=by
 subst hv;simp [Instr.sliceBound,asIntOf,h0,h1]
theorem J6{G7:Bool}{len cap:Nat}{lo hi:Option Value}{l h:Int}(hl:(lo=none/\l=0)\/ ∃k,lo=some (.int k l))(hh:(hi=none/\h=len)\/ ∃k,hi=some (.int k h))(h1:0<=l)(h2:l<=h)(h3:h<=len)(h4:len<=cap) :
  (Instr.sliceBounds G7 len cap lo hi none).run P w= .ok (l.toNat,h.toNat,cap) w:=by
 have ML:h<=(cap:Int):=by omega
 have h0:0<=h:=by omega
 have e2:((h.toNat:Nat):Int)=h:=by omega
 rcases hl with ⟨rfl,rfl⟩|⟨k,rfl⟩<;>rcases hh with ⟨rfl,rfl⟩|⟨k',rfl⟩
 ·simp [Instr.sliceBounds]
 ·simp [Instr.sliceBounds,run_sliceBound rfl h0 ML]
 ·simp [Instr.sliceBounds,run_sliceBound (P:=P) (w:=w) (v:= .int k l) (y:=len) (code:= .sliceB) rfl h1 (by omega)]
 ·simp [Instr.sliceBounds,run_sliceBound (P:=P) (w:=w) (v:= .int k' h) (y:=cap) (code:=if G7=true then .sliceAcap else .sliceAlen) rfl h0 ML,run_sliceBound (P:=P) (w:=w) (v:= .int k l) (y:=h.toNat) (code:= .sliceB) rfl h1 (by omega)]
theorem Qf(aH:cD P tb tb=true)(hs:aL c F σ bm tm a w)(aB:bL tb.tab Γ c.env){n:Nat}{o:Oper}{x:Operand}{lo hi:Option Operand}{T:Nat}(ho:o.op= .slice T x lo hi none){ti:TI}(aM:tb.get T=some ti){aP:aT}
  (h:CM tb Γ gs o.dst ti (aQ tb σ T x) (lo.map (aQ tb σ 0)) (hi.map (aQ tb σ 0))=some aP):ia P c F gs σ bm tm a w n o aP:=by
 unfold CM at h
 split at h
 ·rename_i kx ex kl el hx hlo
  split at h
  ·rename_i kh eh hhi
   split at h
   ·rename_i hc
    simp only [Option.some.injEq] at h;subst h
    obtain ⟨mL,hil,Yo,vL,yG⟩:=hc
    refine ⟨_,rfl,rfl,fun g hg=>by simp [bX,K.has] at hg,fun hg hr=> ?_⟩
    have hin:gU P c.env n (.cond gs (.inc ex el eh)):=hr _ (by simp)
    replace hin:=hin hg
    have fe:=(cL hs hx).1 hg
    have hL: ∃l:Int,(el.den c.env).cw=l/\((lo.map a.eval=none/\l=0)\/ ∃k,lo.map a.eval=some (.int k l)):=by
     cases lo with
     | none=>simp at hlo;obtain ⟨_,rfl⟩:=hlo;exact ⟨0,rfl,.inl ⟨rfl,rfl⟩⟩
     | some y =>
      simp only [Option.map_some] at hlo
      obtain ⟨kk,hkk⟩:=rN hil
      obtain ⟨m,hm,hmv,_⟩:=jw aB hkk ((cL hs hlo).1 hg)
      exact ⟨m,by simp [hm],.inr ⟨kk,by simp [hmv]⟩⟩
    have hH: ∃l:Int,(eh.den c.env).cw=l/\((hi.map a.eval=none/\l=iX (ex.den c.env))\/ ∃k,hi.map a.eval=some (.int k l)):=by
     cases hi with
     | none=>simp at hhi;obtain ⟨_,rfl⟩:=hhi;exact ⟨_,rfl,.inl ⟨rfl,by simp [E.den]⟩⟩
     | some y =>
      simp only [Option.map_some] at hhi
      obtain ⟨kk,hkk⟩:=rN Yo
      obtain ⟨m,hm,hmv,_⟩:=jw aB hkk ((cL hs hhi).1 hg)
      exact ⟨m,by simp [hm],.inr ⟨kk,by simp [hmv]⟩⟩
    obtain ⟨l,hl,hL⟩:=hL
    obtain ⟨u,hu,hH⟩:=hH
    simp only [E.den,hl,hu,D.bool.injEq,decide_eq_true_eq] at hin
    obtain ⟨MN,MO,AF⟩:=hin
    unfold DC at vL
    split at vL
    ·rename_i hv
     obtain ⟨_,d1,_,_,_,_,hd1,dD⟩:=eZ aH aM hv
     simp only [fK] at dD;subst dD
     obtain ⟨s,Dv,hsv,gf⟩:=vc aB (by rw [mL,hv]) fe
     simp only [Dv,iX] at AF hH
     refine ⟨.string (s.extract l.toNat u.toNat),w,?_,Below.refl _ _,dJ hg ?_⟩
     ·simp [execOp,ho,hsv,Instr.sliceAt,Instr.slice,run_underlying hd1,J6 hL hH MN MO AF (Nat.le_refl _)]
     ·simp only [bD,E.den,Dv,hl,hu,qR,R]
      refine ⟨trivial,?_⟩
      rw [ByteArray.size_extract];omega
    ·rename_i xO hv
     obtain ⟨_,d1,_,_,_,_,hd1,dD⟩:=eZ aH aM hv
     simp only [fK] at dD;subst dD
     obtain ⟨rows,hrows,dw,ad,len,cap,hval,hlen,hcap,hmax,hnone,hcells⟩:=xP aB (by rw [mL,hv]) fe
     simp only [hrows,iX] at AF hH
     rw [<-hlen] at AF hH
     rw [hv] at yG
     simp only [Ql] at yG
     split at yG
     ·rename_i ei gb
      split at yG
      ·rename_i v1 hv1
       obtain ⟨j,hj,hjs,_⟩:=pR aH gb hv1
       have htab:tb.tab xO=v1.cells:=by simp [TB.tab,gb,TI.cells,hv1]
       refine ⟨.slice (if cap=l.toNat then ad else ad.map (·.add (l.toNat*v1.cells.length))) (u.toNat-l.toNat) (cap-l.toNat),w,?_,Below.refl _ _,dJ hg ?_⟩
       ·simp [execOp,ho,hval,Instr.sliceAt,Instr.slice,run_underlying hd1,J6 hL hH MN MO AF hcap,run_sizeOf hj,hjs]
       ·simp only [bD,E.den,hrows,hl,hu,qR,R]
        refine ⟨_,_,_,rfl,by simp;omega,by omega,by omega,fun hn=> ?_,fun b o' s he=> ?_⟩
        ·rcases ad with _|ad
         ·have:=hnone rfl;omega
         ·split at hn
          ·cases hn
          ·simp at hn
        ·by_cases hz:u.toNat-l.toNat=0
         ·rw [hz,List.take_zero];exact ⟨fun h=>absurd h (by omega),trivial⟩
         ·have hne:cap≠l.toNat:=by omega
          rw [if_neg hne] at he
          rcases ad with _|⟨b1,o1,s1⟩
          ·simp at he
          ·obtain ⟨hs1,vJ⟩:=hcells b1 o1 s1 rfl
           have:=hs1 (by omega);subst this
           simp only [Option.map_some,addr_add,Option.some.injEq,Addr.mk.injEq] at he
           obtain ⟨rfl,rfl,rfl⟩:=he
           exact ⟨fun _=>rfl,vJ.cut (fun r hr=>by rw [dw.len r hr,htab]) _ _⟩
      ·simp at yG
     ·simp at yG
    ·simp at vL
   ·simp at h
  ·simp at h
 ·simp at h
end
end
end Go.Proofs.YtimickglpboilaaGreatDoor
