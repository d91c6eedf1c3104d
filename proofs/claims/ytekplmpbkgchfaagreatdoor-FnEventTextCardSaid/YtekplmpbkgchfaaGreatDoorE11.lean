/- From 'it ends so' to 'it ends with this': a condition that is met has an outcome. No program in sight. -/
import Derived.Test.YtekplmpbkgchfaaGreatDoorE8
import Derived.Test.YtekplmpbkgchfaaGreatDoorE9
import Derived.Test.YtekplmpbkgchfaaGreatDoorE10
import Derived.Test.YtekplmpbkgchfaaGreatDoorE0
import Derived.Test.YtekplmpbkgchfaaGreatDoorE3
import Derived.Still
set_option linter.all false
set_option maxRecDepth 100000
namespace Go.Proofs.YtekplmpbkgchfaaGreatDoor
section
open Go.RowKit
variable [GC]
section
open Classical
variable {P:Program}{tab:Nat->List CT}{T:D->List D->Prop}
abbrev Out:=List D->D×List D
def yB{r0:D×List D}(hT:T r0.1 r0.2): ∀(V:VC) (env:List D) (L:List ((List D->Prop)×Out)),(∀x∈L,∀ys,T (x.2 ys).1 (x.2 ys).2)->V.den P tab env T (L.map (·.1)) ->
  ∃r:D×List D,T r.1 r.2/\V.den P tab env (fun d bs=>d=r.1/\bs=r.2) (L.map fun x=>fun ys=>x.1 ys/\x.2 ys=r)
 | .fail _,_,_,_,h=>h.elim
 | .ret e bs,env,L,_,h=>by simp only [VC.den] at h;exact ⟨(e.den env,bs.map (fun x=>x.den env)),h,⟨rfl,rfl⟩⟩
 | .rq (.cond gs c) k,env,L,hL,⟨h1,h2⟩=>by obtain ⟨r,q1,q2⟩:=yB hT k env L hL h2;exact ⟨r,q1,h1,q2⟩
 | .rq (.call gs f bx args vt nb) k,env,L,hL,⟨d,cs,h1,h2,h3,h4⟩=>by obtain ⟨r,q1,q2⟩:=yB hT k _ L hL h4;exact ⟨r,q1,d,cs,h1,h2,h3,q2⟩
 | .rq (.cF f bx args vt nb rt) k,env,L,hL,⟨d,cs,h1,h2,h3,h4⟩=>by obtain ⟨r,q1,q2⟩:=yB hT k _ L hL h4;exact ⟨r,q1,d,cs,h1,h2,h3,q2⟩
 | .rq (.oZ gs e args vt) k,env,L,hL,⟨d,h1,h3,h4⟩=>by obtain ⟨r,q1,q2⟩:=yB hT k _ L hL h4;exact ⟨r,q1,d,h1,h3,q2⟩
 | .rq (.rK g vt ix) k,env,L,hL,⟨d,h1,h2,h3,h4⟩=>by obtain ⟨r,q1,q2⟩:=yB hT k _ L hL h4;exact ⟨r,q1,d,h1,h2,h3,q2⟩
 | .rq (.new f args nb) k,env,L,hL,⟨cs,h2,h3,h4⟩=>by obtain ⟨r,q1,q2⟩:=yB hT k _ L hL h4;exact ⟨r,q1,cs,h2,h3,q2⟩
 | .ite c a b,env,L,hL,⟨h1,h2⟩=>by
  cases hc:(c.den env).jZ with
  | true => obtain ⟨r,q1,q2⟩:=yB hT a env L hL (h1 hc);exact ⟨r,q1,⟨fun _=>q2,fun h=>absurd (hc.symm.trans h) (by simp)⟩⟩
  | false => obtain ⟨r,q1,q2⟩:=yB hT b env L hL (h2 hc);exact ⟨r,q1,⟨fun h=>absurd (hc.symm.trans h) (by simp),fun _=>q2⟩⟩
 | .again d es,env,L,hL,h=>by
  simp only [VC.den,iI] at h;cases hd:L[d]? with
  | none=>rw [hd] at h;exact h.elim
  | some x => rw [hd] at h;refine ⟨x.2 (es.map (·.den env)),hL x (kV hd) _,?_⟩;simp only [VC.den,iI,hd];exact ⟨h,rfl⟩
 | .loop dR inits body,env,L,hL,⟨I,μ,hI,hb⟩=>by
  let D1 (xs:List D) (o:Out) (r:D×List D):Prop:=T r.1 r.2/\body.den P tab (env++xs) (fun d bs=>d=r.1/\bs=r.2) ((fun ys=>(I ys/\μ ys<μ xs)/\o ys=r)::L.map fun x=>fun ys=>x.1 ys/\x.2 ys=r)
  let G:(xs:List D)->((ys:List D)->μ ys<μ xs->D×List D)->D×List D:=fun xs rec =>
   if h: ∃r,D1 xs (fun ys=>if hy:μ ys<μ xs then rec ys hy else r0) r then h.choose else r0
  let o:Out:=(measure μ).wf.fix G
  have ho: ∀xs,o xs=if h: ∃r,D1 xs (fun ys=>if μ ys<μ xs then o ys else r0) r then h.choose else r0:=fun xs=>by show (measure μ).wf.fix G xs=_;rw [WellFounded.fix_eq];rfl
  have hoT: ∀xs,T (o xs).1 (o xs).2:=fun xs=>by
   rw [ho];split
   ·rename_i h;exact h.choose_spec.1
   ·exact hT
  have hbody: ∀xs,fM tab dR xs->dW xs->I xs->body.den P tab (env++xs) (fun d bs=>d=(o xs).1/\bs=(o xs).2) ((fun ys=>(I ys/\o ys=o xs)/\μ ys<μ xs)::L.map fun x=>fun ys=>x.1 ys/\x.2 ys=o xs):=by
   intro xs h1 h2 h3;have hex: ∃r,D1 xs (fun ys=>if μ ys<μ xs then o ys else r0) r:=by
    refine yB hT body (env++xs) ((fun ys=>I ys/\μ ys<μ xs,fun ys=>if μ ys<μ xs then o ys else r0)::L) ?_ (hb xs h1 h2 h3);intro x hx ys;rcases fJ.1 hx with rfl|hx
    ·simp only;split
     ·exact hoT ys
     ·exact hT
    ·exact hL x hx ys
   have hox:o xs=hex.choose:=by rw [ho,dif_pos hex]
   have hs:=hex.choose_spec.2;rw [<-hox] at hs;have he:(fun ys=>(I ys/\μ ys<μ xs)/\(if μ ys<μ xs then o ys else r0)=o xs)=(fun ys=>(I ys/\o ys=o xs)/\μ ys<μ xs):=by funext ys;apply propext;by_cases hy:μ ys<μ xs<;>simp [hy]
   rw [he] at hs;exact hs
  refine ⟨o (inits.map (·.den env)),hoT _,fun xs=>I xs/\o xs=o (inits.map (·.den env)),μ,⟨hI,rfl⟩,?_⟩;rintro xs h1 h2 ⟨h3,h4⟩;have:=hbody xs h1 h2 h3;rw [h4] at this;exact this
def WO{f:FuncId}{tb:TB}{rb:RB}{bx:Option (List CT)}{V:VC}{Γ:List VT}(hV:qp P tb rb f bx=V)(hok:V.ok=true)(aB:qn P tb f bx=Γ)(xJ:dz P tb tb=true)(hm:P.follows .mixedOrders=true)
  {bc:Option (List D)} {ds:List D} {r0:D×List D} (hT:T r0.1 r0.2) (hbc:bc.map List.length=bx.map List.length) (hty:fM tb.tab Γ (ds++bc.getD [])) (Ax:bx=none-> ∀d bs,T d bs->bs=[])
  (iA:dW ds->dW (bc.getD [])->V.den P tb.tab (ds++bc.getD []) T []): ∃r:D×List D,T r.1 r.2/\eA P f bc ds r.1 r.2 (rb.get f):=by
 by_cases hf:dW ds/\dW (bc.getD [])
 ·obtain ⟨r,q1,q2⟩:=yB hT V _ [] (by simp) (iA hf.1 hf.2);exact ⟨r,q1,Px hV hok aB xJ hm hbc hty (fun h=>Ax h _ _ q1) fun _ _=>q2⟩
 ·exact ⟨r0,hT,Px hV hok aB xJ hm hbc hty (fun h=>Ax h _ _ hT) fun h1 h2=>absurd ⟨h1,h2⟩ hf⟩
def aen{f:FuncId}{tb:TB}{rb:RB}{bx:Option (List CT)}{V:VC}{Γ:List VT}(hV:qp P tb rb f bx=V)(hok:V.ok=true)(aB:qn P tb f bx=Γ)(xJ:dz P tb tb=true)(hm:P.follows .mixedOrders=true)
  {bc:Option (List D)} {ds:List D} {r0:D×List D} (hT:T r0.1 r0.2) (hbc:bc.map List.length=bx.map List.length) (hty:fM tb.tab Γ (ds++bc.getD [])) (Ax:bx=none-> ∀d bs,T d bs->bs=[])
  (iA:dW ds->dW (bc.getD [])->V.den P tb.tab (ds++bc.getD []) T []): ∃r:D×List D,T r.1 r.2/\aH P f bc ds r.1 r.2:=by
 obtain ⟨r,h1,h2⟩:=WO hV hok aB xJ hm hT hbc hty Ax iA;exact ⟨r,h1,.fD h2⟩
end
end
section
open Go.RowKit Go
variable [GC]
def cA:(∀{α:Type} {a:α} {r s:List α},(a::r)++s=a::(r++s))/\(∀{α:Type} (r:List α),[]++r=r):=⟨by simp,by simp⟩
def gE:(∀{α:Type} {a b:α} {l:List α},a∈b::l↔a=b\/a∈l)/\(∀{α:Type} {a:α},¬a∈([]:List α))/\(∀(p:Prop),(p\/False)=p)/\(∀{α:Type} {p:α->Prop} {q:α->Prop} {a:α},(∀x,x=a\/q x->p x)↔p a/\ ∀x,q x->p x)/\(∀{α:Type} {p:α->Prop} {a:α},(∀x,x=a->p x)↔p a):=⟨fJ,sV,vT,ES,Cn⟩
def mo:ay.follows .mixedOrders=true:=by kernel_rfl
def asP{f:FuncId}{V:VC}{Γ:List VT}(hV:qp ay aI pJ f none=V)(aB:qn ay aI f none=Γ){rt:List (Nat×Nat)}(fK:pJ.get f=rt)(hok:V.ok=true){ds:List D}{r:D}
  (hty:fM aI.tab Γ ds) (iA:dW ds->V.den ay aI.tab ds (fun d bs=>d=r/\bs=[]) []):eA ay f none ds r [] rt :=
 fK▸Px hV hok aB Gp mo rfl (by simpa using hty) (fun _=>rfl) (fun h _=>by simpa using iA h)
def asT{f:FuncId}{V:VC}{Γ:List VT}(hV:qp ay aI pJ f none=V)(aB:qn ay aI f none=Γ)(hok:V.ok=true){ds:List D}{r:D}
  (hty:fM aI.tab Γ ds) (iA:dW ds->V.den ay aI.tab ds (fun d bs=>d=r/\bs=[]) []):aH ay f none ds r [] :=
 asS hV hok aB Gp mo rfl (by simpa using hty) (fun _=>rfl) (fun h _=>by simpa using iA h)
def cB{f:FuncId}(V:VC)(Γ:List VT){ds:List D}{r:D}(hty:fM aI.tab Γ ds)(iA:dW ds->V.den ay aI.tab ds (fun d bs=>d=r/\bs=[]) [])(hV:qp ay aI pJ f none=V:=by kernel_rfl)(aB:qn ay aI f none=Γ:=by kernel_rfl)(hok:V.ok=true:=by rfl):aH ay f none ds r []:=asT hV aB hok hty iA
def iT{f:FuncId}(V:VC)(Γ:List VT){rt:List (Nat×Nat)}{ds:List D}{r:D}(hty:fM aI.tab Γ ds)(iA:dW ds->V.den ay aI.tab ds (fun d bs=>d=r/\bs=[]) [])(hV:qp ay aI pJ f none=V:=by kernel_rfl)(aB:qn ay aI f none=Γ:=by kernel_rfl)(fK:pJ.get f=rt:=by kernel_rfl)(hok:V.ok=true:=by rfl):eA ay f none ds r [] rt:=asP hV aB fK hok hty iA
def asU{P:Program}{f:FuncId}{ds:List D}{r:D}(hf:yG P f=true)
  (h: ∀(w:World) (M:Addr->Prop) (vs:List Value),(∀p,M p->p.block<w.heap.size)->Rs w M ds vs->Calls P f vs.toArray w fun e w'=> ∃v,e= .returned v/\R w' M r v/\Below w.heap.size w w'):aH P f none ds r [] :=
 ⟨hf,fun w M g vs hM hr _=>(h w M vs hM.1 hr).mono fun e w' ⟨v,h1,h2,h3⟩=>⟨v,h1,h2,yq h3 (bU _),fun h=>by cases h⟩⟩
def yt{P:Program}{f:FuncId}{ds:List D}{r:D}(hf:yG P f=true)
  (h: ∀(w:World) (M:Addr->Prop) (vs:List Value),fN w M->Rs w M ds vs->Calls P f vs.toArray w fun e w'=> ∃v,e= .returned v/\R w' M r v/\Below w.heap.size w w'):aH P f none ds r [] :=
 ⟨hf,fun w M g vs hM hr _=>(h w M vs hM hr).mono fun e w' ⟨v,h1,h2,h3⟩=>⟨v,h1,h2,yq h3 (bU _),fun h=>by cases h⟩⟩
inductive zP:List (List D->Prop)->List (List D->Prop)->Prop
 | nil:zP [] []
 | cons {p q:List D->Prop} {L L':List (List D->Prop)} (h: ∀ys,p ys->q ys) (t:zP L L'):zP (p::L) (q::L')
def zP.refl: ∀L,zP L L
 | []=> .nil
 | _::L=> .cons (fun _ h=>h) (zP.refl L)
def zP.get{L L':List (List D->Prop)}(h:zP L L'): ∀{d:Nat} {p:List D->Prop},L[d]? =some p-> ∃q,L'[d]? =some q/\ ∀ys,p ys->q ys:=by
 induction h with
 | nil=>intro d p hp;simp at hp
 | cons h t ih =>
  intro d p hp;cases d with
  | zero=>simp at hp;subst hp;exact ⟨_,rfl,h⟩
  | succ d=>simp at hp;simpa using ih hp
def yA{P:Program}{tab:Nat->List CT}{Q Q':D->List D->Prop}(hQ: ∀d bs,Q d bs->Q' d bs): ∀(V:VC) (env:List D) {L L':List (List D->Prop)},zP L L'->V.den P tab env Q L->V.den P tab env Q' L'
 | .fail _,_,_,_,_,h=>h.elim
 | .ret e bs,env,_,_,_,h=>hQ _ _ h
 | .rq (.cond gs c) k,env,_,_,hL,⟨h1,h2⟩=>⟨h1,yA hQ k env hL h2⟩
 | .rq (.call gs f bx args vt nb) k,env,_,_,hL,⟨d,cs,h1,h2,h3,h4⟩=>⟨d,cs,h1,h2,h3,yA hQ k _ hL h4⟩
 | .rq (.cF f bx args vt nb rt) k,env,_,_,hL,⟨d,cs,h1,h2,h3,h4⟩=>⟨d,cs,h1,h2,h3,yA hQ k _ hL h4⟩
 | .rq (.oZ gs e args vt) k,env,_,_,hL,⟨d,h1,h3,h4⟩=>⟨d,h1,h3,yA hQ k _ hL h4⟩
 | .rq (.rK g vt ix) k,env,_,_,hL,⟨d,h1,h2,h3,h4⟩=>⟨d,h1,h2,h3,yA hQ k _ hL h4⟩
 | .rq (.new f args nb) k,env,_,_,hL,⟨cs,h2,h3,h4⟩=>⟨cs,h2,h3,yA hQ k _ hL h4⟩
 | .ite c a b,env,_,_,hL,⟨h1,h2⟩=>⟨fun h=>yA hQ a env hL (h1 h),fun h=>yA hQ b env hL (h2 h)⟩
 | .loop dR inits body,env,_,_,hL,⟨I,μ,h1,h2⟩=>⟨I,μ,h1,fun xs q1 q2 q3=>yA hQ body _ (.cons (fun _ h=>h) hL) (h2 xs q1 q2 q3)⟩
 | .again d es,env,L,L',hL,h=>by
  simp only [VC.den] at h ⊢;cases hd:L[d]? with
  | none=>rw [hd] at h;exact h.elim
  | some p => rw [hd] at h;obtain ⟨q,h1,h2⟩:=hL.get hd;rw [h1];exact h2 _ h
class aE(α:Type) extends Inhabited α where
 cells:α->List D
def nth{α:Type}[Inhabited α](l:List α)(k:Nat):α:=l.getD k default
def enc{α:Type}[aE α](x:α):D:= .agg (aE.cells x)
def ax{α:Type}[aE α](l:List α):D:= .sl (l.map aE.cells)
def Bn{α:Type}[aE α](l:List α)(k:Nat){z:List D}(h:aE.cells (default:α)=z):D.agg (((l.map aE.cells)[k]?).getD z)=enc (nth l k):=by unfold enc nth;rw [kK,iI];cases l[k]? <;>simp [h]
@[simp] def axr {α:Type} [aE α] (l:List α):(ax l).tN=l.map aE.cells:=rfl
@[simp] def uw {α:Type} [aE α] (l:List α):dL (ax l)=l.length:=by simp [ax,dL]
@[simp] def agq {α:Type} [aE α] (x:α):(enc x).mQ=aE.cells x:=rfl
def p7{P:Program}{tab:Nat->List CT}{env:List D}{Q:D->List D->Prop}{L:List (List D->Prop)}{dR:List VT}{inits:List E}{body:VC}
  (St:Type) (e:St->List D) (I:St->Prop) (μ:St->Nat) (s0:St) (hμ: ∀s s',e s=e s'->μ s=μ s') (h0:inits.map (·.den env)=e s0) (hI:I s0)
  (hs: ∀s,I s->dW (e s)->body.den P tab (env++e s) Q ((fun ys=> ∃s',ys=e s'/\I s'/\μ s'<μ s)::L)):(VC.loop dR inits body).den P tab env Q L:=by
 classical
 let m:List D->Nat:=fun xs=>if h: ∃s,xs=e s then μ h.choose else 0
 have hm: ∀s,m (e s)=μ s:=by intro s;have hx: ∃s',e s=e s':=⟨s,rfl⟩;show (if h: ∃s',e s=e s' then μ h.choose else 0)=μ s;rw [dif_pos hx];exact (hμ _ _ hx.choose_spec).symm
 refine ⟨fun xs=> ∃s,xs=e s/\I s,m,⟨s0,h0,hI⟩,?_⟩;rintro xs _ hf ⟨s,rfl,hIs⟩;have:=hs s hIs hf;have he:(fun ys=>(∃s,ys=e s/\I s)/\m ys<m (e s))=(fun ys=> ∃s',ys=e s'/\I s'/\μ s'<μ s):=by
  funext ys;apply propext;constructor
  ·rintro ⟨⟨s',rfl,h⟩,h2⟩;exact ⟨s',rfl,h,by rwa [hm,hm] at h2⟩
  ·rintro ⟨s',rfl,h,h2⟩;exact ⟨⟨s',rfl,h⟩,by rwa [hm,hm]⟩
 rw [he];exact this
def wrap_i64{n:Int}(h1: -9223372036854775808<=n)(h2:n<=9223372036854775807):IntKind.i64.wrap n=n:=by simp only [IntKind.wrap,IntKind.bits,IntKind.signed];simp;omega
def Ik{P:Program}{tab:Nat->List CT}{env:List D}{Q:D->List D->Prop}{L:List (List D->Prop)}{gs:Gd}{f:FuncId}{args:List E}{vt:VT}{k:VC}{r:D}{xs:List D}
  (ha:args.map (·.den env)=xs) (hc:aH P f none xs r []) (hty:bA tab vt r) (hk:k.den P tab (env++[r]) Q L):(VC.rq (.call gs f none args vt []) k).den P tab env Q L :=
 ⟨r,[],hty,trivial,fun _=>ha▸hc,hk⟩
def Yv{P:Program}{tab:Nat->List CT}{env:List D}{Q:D->List D->Prop}{L:List (List D->Prop)}{f:FuncId}{args:List E}{vt:VT}{rt:List (Nat×Nat)}{k:VC}{r:D}{xs:List D}
  (ha:args.map (·.den env)=xs) (hc:eA P f none xs r [] rt) (hty:bA tab vt r) (hk:k.den P tab (env++[r]) Q L):(VC.rq (.cF f none args vt [] rt) k).den P tab env Q L :=
 ⟨r,[],hty,trivial,ha▸hc,hk⟩
def vX{P:Program}{tab:Nat->List CT}{env:List D}{Q:D->List D->Prop}{L:List (List D->Prop)}{gs:Gd}{f:FuncId}{args:List E}{vt:VT}{k:VC}{r:D}{xs:List D}
  (ha:args.map (·.den env)=xs) (hc:cK env gs->aH P f none xs r []) (hty:bA tab vt r) (hk:k.den P tab (env++[r]) Q L):(VC.rq (.call gs f none args vt []) k).den P tab env Q L :=
 ⟨r,[],hty,trivial,fun h=>ha▸hc h,hk⟩
def aF{P:Program}{tab:Nat->List CT}{env env':List D}{Q:D->List D->Prop}{L:List (List D->Prop)}{gs:Gd}{f:FuncId}{args:List E}{vt:VT}{k:VC}{r:D}{xs:List D}(hc:aH P f none xs r [])(hk:k.den P tab env' Q L)(ha:args.map (·.den env)=xs:=by (first|(simp only [gS];done)|(simp only [gS];exact rfl)|(simp only [gS,cS];try exact rfl)))(he:env++[r]=env':=by (simp only [iH,iw];try exact rfl))(hty:bA tab vt r:=by first|trivial|exact lG _|exact ⟨rfl,trivial,trivial⟩|exact ⟨rfl,rfl,trivial,trivial⟩):(VC.rq (.call gs f none args vt []) k).den P tab env Q L:=Ik ha hc hty (by rw [he];exact hk)
def fQ{P:Program}{tab:Nat->List CT}{env env':List D}{Q:D->List D->Prop}{L:List (List D->Prop)}{f:FuncId}{args:List E}{vt:VT}{rt:List (Nat×Nat)}{k:VC}{r:D}{xs:List D}(hc:eA P f none xs r [] rt)(hk:k.den P tab env' Q L)(ha:args.map (·.den env)=xs:=by (first|(simp only [gS];done)|(simp only [gS];exact rfl)|(simp only [gS,cS];try exact rfl)))(he:env++[r]=env':=by (simp only [iH,iw];try exact rfl))(hty:bA tab vt r:=by first|trivial|exact lG _|exact ⟨rfl,trivial,trivial⟩|exact ⟨rfl,rfl,trivial,trivial⟩):(VC.rq (.cF f none args vt [] rt) k).den P tab env Q L:=Yv ha hc hty (by rw [he];exact hk)
def af1{P:Program}{tab:Nat->List CT}{env:List D}{Q:D->List D->Prop}{L:List (List D->Prop)}{g:Nat}{vt:VT}{ix:Option (Gd×E×Nat)}{k:VC}(d:D)
  (h1:Kg g d) (h2:bA tab vt d) (h3:WS env ix) (hk:k.den P tab (env++[d]) Q L):(VC.rq (.rK g vt ix) k).den P tab env Q L:=⟨d,h2,h1,h3,hk⟩
def aX{P:Program}{tab:Nat->List CT}{env:List D}{Q:D->List D->Prop}{L:List (List D->Prop)}{gs:Gd}{c:E}{k:VC}
  (h:cK env gs->c.den env= .bool true) (hk:k.den P tab env Q L):(VC.rq (.cond gs c) k).den P tab env Q L:=⟨h,hk⟩
def aq{P:Program}{tab:Nat->List CT}{env:List D}{Q:D->List D->Prop}{L:List (List D->Prop)}{c:E}{a b:VC}
  (h1:(c.den env).jZ=true->a.den P tab env Q L) (h2:(c.den env).jZ=false->b.den P tab env Q L):(VC.ite c a b).den P tab env Q L:=⟨h1,h2⟩
def az{P:Program}{tab:Nat->List CT}{env:List D}{L:List (List D->Prop)}{e:E}{r:D}(h:e.den env=r):(VC.ret e []).den P tab env (fun d bs=>d=r/\bs=[]) L:=⟨h,rfl⟩
def Ij{P:Program}{tab:Nat->List CT}{env:List D}{Q:D->List D->Prop}{L:List (List D->Prop)}{es:List E}{St:Type}{e:St->List D}{I:St->Prop}{μ:St->Nat}{m:Nat}(s':St)
  (h:es.map (·.den env)=e s') (hI:I s') (hm:μ s'<m):(VC.again 0 es).den P tab env Q ((fun ys=> ∃s',ys=e s'/\I s'/\μ s'<m)::L):=⟨s',h,hI,hm⟩
def asR{f:FuncId}{V:VC}{Γ:List VT}{ds:List D}{T:D->Prop}(hV:qp ay aI pJ f none=V)(hok:V.ok=true)(aB:qn ay aI f none=Γ)(hty:fM aI.tab Γ ds)(r0:D)(hT:T r0)
  (iA:dW ds->V.den ay aI.tab ds (fun d bs=>T d/\bs=[]) []): ∃r,T r/\aH ay f none ds r []:=by
 obtain ⟨⟨r,bs⟩,⟨q1,q2⟩,q3⟩:=aen (T:=fun d bs=>T d/\bs=[]) (r0:=(r0,[])) hV hok aB Gp mo ⟨hT,rfl⟩ (bc:=none) rfl (by simpa using hty) (fun _ d bs h=>h.2) (fun h _=>by simpa using iA h);simp only at q2;subst q2;exact ⟨r,q1,q3⟩
def aw0{P:Program}{tab:Nat->List CT}{env:List D}{Q:D->List D->Prop}{L:List (List D->Prop)}{gs:Gd}{f:FuncId}{args:List E}{vt:VT}{k:VC}{T:D->Prop}{xs:List D}
  (ha:args.map (·.den env)=xs) (hc: ∃r,T r/\aH P f none xs r []) (hty: ∀r,T r->bA tab vt r) (hk: ∀r,T r->k.den P tab (env++[r]) Q L):(VC.rq (.call gs f none args vt []) k).den P tab env Q L:=by
 obtain ⟨r,h1,h2⟩:=hc;exact ⟨r,[],hty r h1,trivial,fun _=>ha▸h2,hk r h1⟩
def asO{f:FuncId}{V:VC}{Γ:List VT}{ds:List D}{T:D->Prop}{rt:List (Nat×Nat)}(hV:qp ay aI pJ f none=V)(fK:pJ.get f=rt)(hok:V.ok=true)(aB:qn ay aI f none=Γ)(hty:fM aI.tab Γ ds)(r0:D)(hT:T r0)
  (iA:dW ds->V.den ay aI.tab ds (fun d bs=>T d/\bs=[]) []): ∃r,T r/\eA ay f none ds r [] rt:=by
 obtain ⟨⟨r,bs⟩,⟨q1,q2⟩,q3⟩:=WO (T:=fun d bs=>T d/\bs=[]) (r0:=(r0,[])) hV hok aB Gp mo ⟨hT,rfl⟩ (bc:=none) rfl (by simpa using hty) (fun _ d bs h=>h.2) (fun h _=>by simpa using iA h);simp only at q2;subst q2;exact ⟨r,q1,fK▸q3⟩
def aw1{P:Program}{tab:Nat->List CT}{env:List D}{Q:D->List D->Prop}{L:List (List D->Prop)}{f:FuncId}{args:List E}{vt:VT}{rt:List (Nat×Nat)}{k:VC}{T:D->Prop}{xs:List D}
  (ha:args.map (·.den env)=xs) (hc: ∃r,T r/\eA P f none xs r [] rt) (hty: ∀r,T r->bA tab vt r) (hk: ∀r,T r->k.den P tab (env++[r]) Q L):(VC.rq (.cF f none args vt [] rt) k).den P tab env Q L:=by
 obtain ⟨r,h1,h2⟩:=hc;exact ⟨r,[],hty r h1,trivial,ha▸h2,hk r h1⟩
def eZ{P:Program}{tab:Nat->List CT}{env:List D}{Q:D->List D->Prop}{L:List (List D->Prop)}{dR:List VT}{inits:List E}{body:VC}
  (n:Nat) (st:Nat->List D) (I:Nat->Prop) (h0:inits.map (·.den env)=st 0) (hI:I 0)
  (hs: ∀k,k<=n->I k->dW (st k)->body.den P tab (env++st k) Q ((fun ys=>k<n/\ys=st (k+1)/\I (k+1))::L)):(VC.loop dR inits body).den P tab env Q L:=by
 classical
 let last:List D->Nat->Nat:=fun xs m=>Nat.rec 0 (fun j r=>if xs=st (j+1)/\I (j+1) then j+1 else r) m
 have aA5: ∀xs m,last xs m<=m:=by
  intro xs m;induction m with
  | zero=>exact bU _
  | succ m ih => show (if xs=st (m+1)/\I (m+1) then m+1 else last xs m)<=m+1;split<;>omega
 have aA3: ∀xs m k,k<=m->xs=st k->I k->k<=last xs m:=by
  intro xs m;induction m with
  | zero=>intro k hk _ _;omega
  | succ m ih =>
   intro k hk hx hi;show k<=(if xs=st (m+1)/\I (m+1) then m+1 else last xs m);by_cases h:k=m+1
   ·subst h;rw [aA ⟨hx,hi⟩];exact bU _
   ·have:=ih k (by omega) hx hi;split<;>omega
 have aA4: ∀xs m k,k<=m->xs=st k->I k->xs=st (last xs m)/\I (last xs m):=by
  intro xs m;induction m with
  | zero =>
   intro k hk hx hi;have:k=0:=by omega
   subst this;exact ⟨hx,hi⟩
  | succ m ih =>
   intro k hk hx hi;show xs=st (if xs=st (m+1)/\I (m+1) then m+1 else last xs m)/\I (if xs=st (m+1)/\I (m+1) then m+1 else last xs m);by_cases h:xs=st (m+1)/\I (m+1)
   ·rw [aA h];exact h
   ·rw [ak h];refine ih k ?_ hx hi;rcases dY k (m+1) with hlt|hge
    ·omega
    ·have:k=m+1:=by omega
     subst this;exact absurd ⟨hx,hi⟩ h
 refine ⟨fun xs=> ∃k,k<=n/\xs=st k/\I k,fun xs=>n-last xs n,⟨0,fX _,h0,hI⟩,?_⟩;rintro xs _ hf ⟨k,hk,hx,hi⟩;obtain ⟨h1,h2⟩:=aA4 xs n k hk hx hi;have h3:=aA5 xs n;generalize hj:last xs n=j at *;subst h1;have:=hs j h3 h2 hf;refine yA (fun _ _ h=>h) _ _ ?_ this;refine .cons (fun ys hys=> ?_) (.refl _);obtain ⟨q1,q2,q3⟩:=hys;refine ⟨⟨j+1,by omega,q2,q3⟩,?_⟩;have:=aA3 ys n (j+1) (by omega) q2 q3;show n-last ys n<n-last (st j) n;rw [hj];omega
def dK{P:Program}{tab:Nat->List CT}{env:List D}{Q:D->List D->Prop}{L:List (List D->Prop)}{es:List E}{xs:List D}{p q:Prop}
  (hp:p) (h:es.map (·.den env)=xs) (hq:q):(VC.again 0 es).den P tab env Q ((fun ys=>p/\ys=xs/\q)::L):=⟨hp,h,hq⟩
def ix(k:Nat):List D:=[.int .i64 k]
def bW{x y:Int}(h1: -9223372036854775808<=x+y:=by omega)(h2:x+y<=9223372036854775807:=by omega):dJ .add .i64 x y=x+y:=wrap_i64 h1 h2
def oV{x y:Int}(h1: -9223372036854775808<=x-y:=by omega)(h2:x-y<=9223372036854775807:=by omega):dJ .sub .i64 x y=x-y:=wrap_i64 h1 h2
def Dl{α:Type}[aE α]{tab:Nat->List CT}{ts:List CT}(h: ∀x:α,br tab ts (aE.cells x))(l:List α):cN tab ts (l.map aE.cells) :=
 ud (by intro r hr;obtain ⟨x,_,rfl⟩:=gD.1 hr;exact h x)
def qM{α:Type}[aE α]{l:List α}(h:Fits (ax l)):l.length<=maxLen:=by unfold ax Fits at h;simpa using h.1
def afL(x y:Int):ba .lss x y=decide (x<y):=rfl
def Yl(x y:Int):ba .leq x y=decide (x<=y):=rfl
def awy(x y:Int):ba .gtr x y=decide (x>y):=rfl
def awx(x y:Int):ba .geq x y=decide (x>=y):=rfl
def Yk(x y:Int):ba .eql x y=(x==y):=rfl
def awz(x y:Int):ba .neq x y=(x != y):=rfl
def Yo:(∀{α β:Type} {f:α->β} {a:α} {l:List α},List.map f (a::l)=f a::List.map f l)/\(∀{α β:Type} {f:α->β},List.map f []=[])/\(∀{α β:Type} (f:α->β),Option.map f none=none)/\(∀{α β:Type} (a:α) (f:α->β),Option.map f (some a)=some (f a)) /\
  (∀{α:Type} {x:α} {xs:List α} {d:α},(x::xs).getD 0 d=x)/\(∀{α:Type} {x:α} {xs:List α} {n:Nat} {d:α},(x::xs).getD (n+1) d=xs.getD n d)/\(∀{α:Type} {a:α} {r s:List α},(a::r)++s=a::(r++s))/\(∀{α:Type} (r:List α),[]++r=r)/\(∀{α:Type} (r:List α),r++[]=r) /\
  (∀{α:Type} {a:α} {l:List α} {i:Nat},(a::l).drop (i+1)=l.drop i)/\(∀{α:Type} {l:List α},l.drop 0=l)/\(∀{α:Type} {a:α} {l:List α} {i:Nat},(a::l).take (i+1)=a::l.take i)/\(∀{α:Type} {l:List α},l.take 0=[]) /\
  (∀(k:IntKind) (n:Int),(D.int k n).eT=n)/\(∀b:Bool,(D.bool b).jZ=b)/\(∀s:ByteArray,(D.str s).Bq=s)/\(∀l:List D,(D.agg l).mQ=l)/\(∀l:List D,(D.aL l).UH=l)/\(∀l:List (List D),(D.sl l).tN=l) /\
  (∀{α:Type} [aE α] (x:α),(enc x).mQ=aE.cells x)/\(∀{α:Type} [aE α] (l:List α),(ax l).tN=l.map aE.cells)/\(∀{α:Type} [aE α] (l:List α),dL (ax l)=l.length) :=
 ⟨by simp,by simp,by simp,by simp,by simp,by simp,by simp,by simp,by simp,by simp,by simp,by simp,by simp,by simp,by simp,by simp,by simp,by simp,by simp,by simp,by simp,by simp⟩
def iEq:(∀x y:Int,ba .lss x y=decide (x<y))/\(∀x y:Int,ba .leq x y=decide (x<=y))/\(∀x y:Int,ba .gtr x y=decide (x>y))/\(∀x y:Int,ba .geq x y=decide (x>=y))/\(∀x y:Int,ba .eql x y=(x==y))/\(∀x y:Int,ba .neq x y=(x != y))/\(∀n:Nat,(n:Int).toNat=n)/\(0:Int).toNat=0 :=
 ⟨afL,Yl,awy,awx,Yk,awz,jv,rfl⟩
def eE:=And.intro (And.intro (And.intro (And.intro (And.intro @E.den.eq_1 @E.den.eq_2) (And.intro @E.den.eq_3 (And.intro @E.den.eq_4 @E.den.eq_5))) (And.intro (And.intro @E.den.eq_6 @E.den.eq_7) (And.intro @E.den.eq_8 (And.intro @E.den.eq_9 @E.den.eq_10)))) (And.intro (And.intro (And.intro @E.den.eq_11 @E.den.eq_12) (And.intro @E.den.eq_13 (And.intro @E.den.eq_14 @E.den.eq_15))) (And.intro (And.intro @E.den.eq_16 @E.den.eq_17) (And.intro @E.den.eq_18 (And.intro @E.den.eq_19 @E.den.eq_20))))) (And.intro (And.intro (And.intro (And.intro @E.den.eq_21 @E.den.eq_22) (And.intro @E.den.eq_23 (And.intro @E.den.eq_24 @E.den.eq_25))) (And.intro (And.intro @E.den.eq_26 @E.den.eq_27) (And.intro @E.den.eq_28 (And.intro @E.den.eq_29 @E.den.eq_30)))) (And.intro (And.intro (And.intro @E.den.eq_31 @E.den.eq_32) (And.intro @E.den.eq_33 (And.intro @E.den.eq_34 @E.den.eq_35))) (And.intro (And.intro @E.den.eq_36 (And.intro @E.den.eq_37 @E.den.eq_38)) (And.intro @E.den.eq_39 (And.intro @E.den.eq_40 @E.den.eq_41)))))
def vE:=And.intro (And.intro (And.intro @VC.den.eq_1 @VC.den.eq_2) (And.intro @VC.den.eq_3 (And.intro @VC.den.eq_4 @VC.den.eq_5))) (And.intro (And.intro @VC.den.eq_6 (And.intro @VC.den.eq_7 @VC.den.eq_8)) (And.intro @VC.den.eq_9 (And.intro @VC.den.eq_10 @VC.den.eq_11)))
def gS:=And.intro vE (And.intro eE (And.intro Yo (And.intro @dZ vR)))
def bS:=And.intro (And.intro (And.intro @Bool.true_and (And.intro @Bool.and_true @Bool.false_and)) (And.intro (And.intro @Bool.and_false @Bool.and_self) (And.intro @Bool.not_true @Bool.not_false))) (And.intro (And.intro (@cond_true.{1}) (And.intro (@cond_false.{1}) @beq_self_eq_true)) (And.intro (And.intro (@ite_true.{1}) (@ite_false.{1})) (And.intro (@if_true.{1}) (@if_false.{1}))))
instance :aE ByteArray:={cells:=fun s=>[.str s]}
instance :aE Int:={cells:=fun n=>[.int .i64 n]}
def eB(s:ByteArray):aE.cells s=[.str s]:=rfl
def afJ(n:Int):aE.cells n=[.int .i64 n]:=rfl
def gW(l:List ByteArray)(k:Nat):D.agg (((l.map aE.cells)[k]?).getD [fW CT.str])=enc (nth l k):=Bn l k rfl
def ak4(l:List Int)(k:Nat):D.agg (((l.map aE.cells)[k]?).getD [fW (CT.int .i64)])=enc (nth l k):=Bn l k rfl
def yF(s:ByteArray)(k:Nat):Int:=((s[k]?).map fun (c:UInt8)=>(c.toNat:Int)).getD 0
def ae3(s:ByteArray)(k:Nat):((s[k]?).map fun (c:UInt8)=>(c.toNat:Int)).getD 0=yF s k:=rfl
def agS{s:ByteArray}(h:Fits (.str s)):s.size<=9223372036854775807:=by simpa [Fits,maxLen] using h
def CZ(s:ByteArray):dL (.str s)=s.size:=rfl
def aHF(s:ByteArray):br aI.tab [.str] (aE.cells s):=by simp [eB,br,cD]
def NL:aI.tab 9=[.str]:=by kernel_rfl
def lG(l:List ByteArray):cD aI.tab (.sl 9) (ax l):=by show cN _ (aI.tab _) _;rw [NL];exact Dl aHF l
def Gq(a b:ByteArray):(a.toList==b.toList)=decide (a=b):=by rw [Eu];simp only [um,cC];refine ⟨fun h=> ?_,fun h=>by rw [h]⟩;rw [ByteArray.toList_eq,ByteArray.toList_eq] at h;cases a;cases b;simp_all [kJ]
def qG(a b:ByteArray):iK .eql a b=decide (a=b):=Gq a b
def Ym(a b:ByteArray):iK .neq a b= !decide (a=b):=by rw [<-Gq];rfl
def cU(a b:ByteArray):Bool:=Op.bytesLess a.toList b.toList
def awB(a b:ByteArray):iK .lss a b=cU a b:=rfl
def awA(a b:ByteArray):iK .geq a b= !cU a b:=rfl
def sEq:(∀s:ByteArray,dL (.str s)=s.size)/\(∀(s:ByteArray) (k:Nat),((s[k]?).map fun (c:UInt8)=>(c.toNat:Int)).getD 0=yF s k)/\(∀a b:ByteArray,iK .eql a b=decide (a=b))/\(∀a b:ByteArray,iK .neq a b= !decide (a=b))/\(∀a b:ByteArray,iK .lss a b=cU a b)/\(∀a b:ByteArray,iK .geq a b= !cU a b):=⟨CZ,ae3,qG,Ym,awB,awA⟩
def eS:=And.intro eE (And.intro Yo (And.intro iEq sEq))
structure vF where
 name:ByteArray
 count:Int
 deriving DecidableEq,Inhabited
instance :aE vF:={cells:=fun v=>[.str v.name,.int .i64 v.count]}
def Ae(v:vF):aE.cells v=[.str v.name,.int .i64 v.count]:=rfl
def Jw(l:List vF)(k:Nat):D.agg (((l.map aE.cells)[k]?).getD [fW (CT.str),fW (CT.int .i64)])=enc (nth l k):=Bn l k rfl
def aFy(v:vF):br aI.tab [.str,.int .i64] (aE.cells v):=⟨trivial,rfl,trivial⟩
def aFf:aI.tab 97=[.str,.int .i64]:=by kernel_rfl
def aFz(l:List vF):cD aI.tab (.sl 97) (ax l):=by show cN _ (aI.tab _) _;rw [aFf];exact Dl aFy l
structure Cell where
 key:ByteArray
 val:Int
 deriving DecidableEq,Inhabited
instance :aE Cell:={cells:=fun v=>[.str v.key,.int .i64 v.val]}
def lY(v:Cell):aE.cells v=[.str v.key,.int .i64 v.val]:=rfl
def rf(l:List Cell)(k:Nat):D.agg (((l.map aE.cells)[k]?).getD [fW (CT.str),fW (CT.int .i64)])=enc (nth l k):=Bn l k rfl
def aFw(v:Cell):br aI.tab [.str,.int .i64] (aE.cells v):=⟨trivial,rfl,trivial⟩
def aFc:aI.tab 136=[.str,.int .i64]:=by kernel_rfl
def yd(l:List Cell):cD aI.tab (.sl 136) (ax l):=by show cN _ (aI.tab _) _;rw [aFc];exact Dl aFw l
structure Core where
 kind:ByteArray
 on:Bool
 broken:Bool
 cells:List Cell
 count:Int
 deriving DecidableEq,Inhabited
instance :aE Core:={cells:=fun v=>[.str v.kind,.bool v.on,.bool v.broken,ax v.cells,.int .i64 v.count]}
def eY(v:Core):aE.cells v=[.str v.kind,.bool v.on,.bool v.broken,ax v.cells,.int .i64 v.count]:=rfl
def qo(v:Core):br aI.tab [.str,.bool,.bool,.sl 136,.int .i64] (aE.cells v):=⟨trivial,trivial,trivial,yd _,rfl,trivial⟩
structure Call where
 method:ByteArray
 key:ByteArray
 val:Int
 text:ByteArray
 deriving DecidableEq,Inhabited
instance :aE Call:={cells:=fun v=>[.str v.method,.str v.key,.int .i64 v.val,.str v.text]}
def bL(v:Call):aE.cells v=[.str v.method,.str v.key,.int .i64 v.val,.str v.text]:=rfl
def axt(v u:Call):v=u↔v.method=u.method/\v.key=u.key/\v.val=u.val/\v.text=u.text:=⟨fun h=>by subst h;simp,fun h=>by cases v;cases u;simp_all⟩
def axv(v u:Call):lZ (aE.cells v) (aE.cells u)=decide (v=u):=by rw [Eu];simp [bL,lZ,IC,Gq,axt,and_assoc]
def zz(v:Call):br aI.tab [.str,.str,.int .i64,.str] (aE.cells v):=⟨trivial,trivial,rfl,trivial,trivial⟩
structure gJ where
 code:Int
 val:Int
 text:ByteArray
 want:Int
 had:Int
 deriving DecidableEq,Inhabited
instance :aE gJ:={cells:=fun v=>[.int .i64 v.code,.int .i64 v.val,.str v.text,.int .i64 v.want,.int .i64 v.had]}
def Af(v:gJ):aE.cells v=[.int .i64 v.code,.int .i64 v.val,.str v.text,.int .i64 v.want,.int .i64 v.had]:=rfl
def wV(v:gJ):br aI.tab [.int .i64,.int .i64,.str,.int .i64,.int .i64] (aE.cells v):=⟨rfl,rfl,trivial,rfl,rfl,trivial⟩
structure Part where
 core:Core
 aw:List vF
 deriving DecidableEq,Inhabited
instance :aE Part:={cells:=fun v=>[.str v.core.kind,.bool v.core.on,.bool v.core.broken,ax v.core.cells,.int .i64 v.core.count,ax v.aw]}
def ko(v:Part):aE.cells v=[.str v.core.kind,.bool v.core.on,.bool v.core.broken,ax v.core.cells,.int .i64 v.core.count,ax v.aw]:=rfl
def Uf(l:List Part)(k:Nat):D.agg (((l.map aE.cells)[k]?).getD [fW (CT.str),fW (CT.bool),fW (CT.bool),fW (CT.sl 136),fW (CT.int .i64),fW (CT.sl 97)])=enc (nth l k):=Bn l k rfl
def lT(v:Part):br aI.tab [.str,.bool,.bool,.sl 136,.int .i64,.sl 97] (aE.cells v):=⟨trivial,trivial,trivial,yd _,rfl,aFz _,trivial⟩
def aFi:aI.tab 58=[.str,.bool,.bool,.sl 136,.int .i64,.sl 97]:=by kernel_rfl
def aFC(l:List Part):cD aI.tab (.sl 58) (ax l):=by show cN _ (aI.tab _) _;rw [aFi];exact Dl lT l
structure qB where
 qb:Int
 min:Int
 deriving DecidableEq,Inhabited
instance :aE qB:={cells:=fun v=>[.int .i64 v.qb,.int .i64 v.min]}
def afI(v:qB):aE.cells v=[.int .i64 v.qb,.int .i64 v.min]:=rfl
def UN(v:qB):br aI.tab [.int .i64,.int .i64] (aE.cells v):=⟨rfl,rfl,trivial⟩
structure nS where
 kY:Int
 jS:ByteArray
 least:qB
 deriving DecidableEq,Inhabited
instance :aE nS:={cells:=fun v=>[.int .i64 v.kY,.str v.jS,.int .i64 v.least.qb,.int .i64 v.least.min]}
def E3(v:nS):aE.cells v=[.int .i64 v.kY,.str v.jS,.int .i64 v.least.qb,.int .i64 v.least.min]:=rfl
def abp(l:List nS)(k:Nat):D.agg (((l.map aE.cells)[k]?).getD [fW (CT.int .i64),fW (CT.str),fW (CT.int .i64),fW (CT.int .i64)])=enc (nth l k):=Bn l k rfl
def NT(v:nS):br aI.tab [.int .i64,.str,.int .i64,.int .i64] (aE.cells v):=⟨rfl,trivial,rfl,rfl,trivial⟩
def aFh:aI.tab 133=[.int .i64,.str,.int .i64,.int .i64]:=by kernel_rfl
def aFB(l:List nS):cD aI.tab (.sl 133) (ax l):=by show cN _ (aI.tab _) _;rw [aFh];exact Dl NT l
structure Entry where
 name:ByteArray
 recipe:List ByteArray
 kF:qB
 needs:List nS
 deriving DecidableEq,Inhabited
instance :aE Entry:={cells:=fun v=>[.str v.name,ax v.recipe,.int .i64 v.kF.qb,.int .i64 v.kF.min,ax v.needs]}
def nW(v:Entry):aE.cells v=[.str v.name,ax v.recipe,.int .i64 v.kF.qb,.int .i64 v.kF.min,ax v.needs]:=rfl
def uZ(l:List Entry)(k:Nat):D.agg (((l.map aE.cells)[k]?).getD [fW (CT.str),fW (CT.sl 9),fW (CT.int .i64),fW (CT.int .i64),fW (CT.sl 133)])=enc (nth l k):=Bn l k rfl
def JE(v:Entry):br aI.tab [.str,.sl 9,.int .i64,.int .i64,.sl 133] (aE.cells v):=⟨trivial,lG _,rfl,rfl,aFB _,trivial⟩
def aFd:aI.tab 49=[.str,.sl 9,.int .i64,.int .i64,.sl 133]:=by kernel_rfl
def rp(l:List Entry):cD aI.tab (.sl 49) (ax l):=by show cN _ (aI.tab _) _;rw [aFd];exact Dl JE l
structure gY where
 jS:ByteArray
 to:ByteArray
 kY:Int
 deriving DecidableEq,Inhabited
instance :aE gY:={cells:=fun v=>[.str v.jS,.str v.to,.int .i64 v.kY]}
def uu(v:gY):aE.cells v=[.str v.jS,.str v.to,.int .i64 v.kY]:=rfl
def wR(l:List gY)(k:Nat):D.agg (((l.map aE.cells)[k]?).getD [fW (CT.str),fW (CT.str),fW (CT.int .i64)])=enc (nth l k):=Bn l k rfl
def aFA(v:gY):br aI.tab [.str,.str,.int .i64] (aE.cells v):=⟨trivial,trivial,rfl,trivial⟩
def aFg:aI.tab 174=[.str,.str,.int .i64]:=by kernel_rfl
def zB(l:List gY):cD aI.tab (.sl 174) (ax l):=by show cN _ (aI.tab _) _;rw [aFg];exact Dl aFA l
structure Event where
 kind:Int
 name:ByteArray
 call:Call
 recipe:List ByteArray
 deriving DecidableEq,Inhabited
instance :aE Event:={cells:=fun v=>[.int .i64 v.kind,.str v.name,.str v.call.method,.str v.call.key,.int .i64 v.call.val,.str v.call.text,ax v.recipe]}
def fP(v:Event):aE.cells v=[.int .i64 v.kind,.str v.name,.str v.call.method,.str v.call.key,.int .i64 v.call.val,.str v.call.text,ax v.recipe]:=rfl
def aDE(l:List Event)(k:Nat):D.agg (((l.map aE.cells)[k]?).getD [fW (CT.int .i64),fW (CT.str),fW (CT.str),fW (CT.str),fW (CT.int .i64),fW (CT.str),fW (CT.sl 9)])=enc (nth l k):=Bn l k rfl
def zA(v:Event):br aI.tab [.int .i64,.str,.str,.str,.int .i64,.str,.sl 9] (aE.cells v):=⟨rfl,trivial,trivial,trivial,rfl,trivial,lG _,trivial⟩
def aFe:aI.tab 28=[.int .i64,.str,.str,.str,.int .i64,.str,.sl 9]:=by kernel_rfl
def aFx(l:List Event):cD aI.tab (.sl 28) (ax l):=by show cN _ (aI.tab _) _;rw [aFe];exact Dl zA l
structure Host where
 entries:List Entry
 parts:List Part
 up:List ByteArray
 shut:List ByteArray
 log:List Event
 deriving DecidableEq,Inhabited
instance :aE Host:={cells:=fun v=>[ax v.entries,ax v.parts,ax v.up,ax v.shut,ax v.log]}
def bB(v:Host):aE.cells v=[ax v.entries,ax v.parts,ax v.up,ax v.shut,ax v.log]:=rfl
def vg(v:Host):br aI.tab [.sl 49,.sl 58,.sl 9,.sl 9,.sl 28] (aE.cells v):=⟨rp _,aFC _,lG _,lG _,aFx _,trivial⟩
def iC{α:Type}[Inhabited α]{l:List α}{k:Nat}(h:k<l.length):nth l k∈l:=by simp [nth,List.getD,cO h]
def YX{α:Type}[Inhabited α]{l l':List α}(hl:l.length=l'.length)(h: ∀i,i<l.length->nth l i=nth l' i):l=l':=by refine List.ext_getElem hl fun i h1 h2=> ?_;have:=h i h1;simpa [nth,List.getD,cO h1,cO h2] using this
def fz(p:Nat->Bool):Nat->Bool
 | 0=>true
 | n+1=>fz p n&&p n
def mD{p:Nat->Bool}: ∀{n:Nat},fz p n=true↔ ∀i,i<n->p i=true
 | 0=>by simp [fz]
 | n+1=>by
  simp only [fz,aP,mD];exact ⟨fun ⟨h1,h2⟩ i hi=>by
   by_cases e:i=n
   ·subst e;exact h2
   ·exact h1 i (by omega),fun h=>⟨fun i hi=>h i (by omega),h n (by omega)⟩⟩
def xq{p:Nat->Bool}{n k:Nat}(hk:k<n)(h:p k=false):fz p n=false:=by
 rcases hb:fz p n with _|_
 ·rfl
 ·have:=mD.1 hb k hk;rw [h] at this;cases this
def cS:=And.intro (And.intro (And.intro (And.intro @bB @nW) (And.intro @bL (And.intro @eB @fP))) (And.intro (And.intro @ko @eY) (And.intro @E3 (And.intro @uu @Ae)))) (And.intro (And.intro (And.intro @lY @gW) (And.intro @uZ (And.intro @abp @wR))) (And.intro (And.intro @Jw (And.intro @rf @Uf)) (And.intro @aDE (And.intro @Int.toNat_natCast @Int.toNat_zero))))
def fZ{P:Program}{tab:Nat->List CT}{env:List D}{Q:D->List D->Prop}{L:List (List D->Prop)}{gs:Gd}{c:E}{k:VC}
  (hk:k.den P tab env Q L) (h:cK env gs->c.den env= .bool true:=by (intro hg;first|(simp only [cK,fJ,sV,vT,ES,Cn,eS] at hg ⊢;(try simp only [D.bool.injEq] at hg);(try simp only [D.bool.injEq]);grind)|(simp only [cK,fJ,sV,vT,ES,Cn,eS,cS] at hg ⊢;(try simp only [D.bool.injEq] at hg);(try simp only [D.bool.injEq]);grind))):(VC.rq (.cond gs c) k).den P tab env Q L:=aX h hk
end
section
open Go.RowKit
variable [GC]
def own(M:Addr->Prop)(g:Nat):Addr->Prop:=fun p=>M p\/p.block=g
section
variable {w w1:World}{M:Addr->Prop}{g:Nat}{T:TypeId}{len n k:Nat}{rows:List (List D)}
end
def oW{w:World}{M:Addr->Prop}{rows:List (List D)}{n:Nat}(hn: ∀r∈rows,r.length=n){v:Value}(h:R w M (.sl rows) v) :
  ∃a cap,v= .slice a rows.length cap/\rows.length<=maxLen/\ ∀k row,rows[k]? =some row-> ∃b o vs,a=some ⟨b,o,none⟩/\vs.length=n/\Rs w M row vs/\ ∀(j:Nat) (u:Value),vs[j]? =some u->w.cell? ⟨b,o+k*n+j,none⟩=some u:=by
 obtain ⟨a,len,cap,rfl,rfl,hlc,hcm,hnone,hcells⟩:=h;refine ⟨a,cap,rfl,by omega,fun k row hk=> ?_⟩;have hlt:k<rows.length:=(dQ.1 hk).1;rcases a with _|⟨b,o,s⟩
 ·have:=hnone rfl;omega
 ·obtain ⟨hs,xI⟩:=hcells b o s rfl;have hs:=hs (by omega);subst hs;obtain ⟨vs,e,hr,hc⟩:=(xI.get hn hk).cells;exact ⟨b,o,vs,rfl,by rw [e,hn row (kV hk)],hr,hc⟩
def get_map{α:Type}[aE α](l:List α){k:Nat}(h:k<l.length):(l.map aE.cells)[k]? =some (aE.cells (nth l k)):=by rw [iI,nth,List.getD,cO h];rfl
def nL{α:Type}[aE α]{n:Nat}(h: ∀x:α,(aE.cells x).length=n)(l:List α): ∀r∈l.map aE.cells,r.length=n:=by intro r hr;obtain ⟨x,_,rfl⟩:=gD.1 hr;exact h x
end
section
open Go.RowKit Go
variable [GC]
def Rb{w:World}{a p:Addr}{v:Value}(h:p≠a)(hs:a.spot=none)(hp:p.spot=none\/True):(w.setCell a v).cell? p=w.cell? p\/(p.block=a.block/\p.off=a.off):=by
 by_cases hb:p.block=a.block
 ·by_cases ho:p.off=a.off
  ·exact .inr ⟨hb,ho⟩
  ·left;unfold World.cell? World.setCell;rw [hb];simp only [G9];cases hw:w.heap[a.block]? with
   | none=>simp
   | some x =>
    cases x with
    | cells c e f =>
     simp only [hs,XB,jP,vS];split
     ·rfl
     ·simp [Et,zY ho]
    | _=>simp
 ·left;exact ER (Below.heap_setCell _ _ _ _ hb)
def Rc{w:World}{p:Addr}{v:Value}(h:w.cell? p=some v):p.spot=none:=by
 unfold World.cell? at h;split at h
 ·split at h
  ·cases h
  ·rename_i hs;simpa using hs
 ·cases h
def awt{w:World}{a:Addr}{u v:Value}(h:w.cell? a=some u):(w.setCell a v).cell? a=some v:=by
 have hs:=Rc h;unfold World.cell? World.setCell at *;simp only [G9,vS];cases hw:w.heap[a.block]? with
 | none=>rw [hw] at h;cases h
 | some x =>
  rw [hw] at h;cases x with
  | cells c e f => simp only [hs,XB,xk,xp,jP] at h ⊢;have:=(rD.1 h).1;simp [Et,this]
  | _=>cases h
def R.less{w:World}{M M':Addr->Prop}{d:D}{v:Value}(h:R w M d v)(hM: ∀p,M' p->M p):R w M' d v :=
 R.keep (fun p v hp hn=>⟨hp,fun hm=>hn (hM p hm)⟩) d v h
mutual
def Sh:D->D->Prop
 | .str _,d'=> ∃s,d'= .str s
 | .int k _,d'=> ∃n,d'= .int k n
 | .sl rows,d'=> ∃rows',d'= .sl rows'/\Xc rows rows'
 | .agg l,d'=> ∃l',d'= .agg l'/\PE l l'
 | .aL l,d'=> ∃l',d'= .aL l'/\PE l l'
 | .fn f jQ,d'=> ∃afE,d'= .fn f afE/\Xc jQ afE
 | .bool _,d'=> ∃b,d'= .bool b
 | .mem n,d'=>d'= .mem n
 | .un,d'=>d'= .un
def PE:List D->List D->Prop
 | [],l'=>l'=[]
 | d::l,l'=> ∃d' r',l'=d'::r'/\Sh d d'/\PE l r'
def Xc:List (List D)->List (List D)->Prop
 | [],l'=>l'=[]
 | r::l,l'=> ∃d' r',l'=d'::r'/\PE r d'/\Xc l r'
end
section
variable {w w':World}{A M M':Addr->Prop}
end
def FT:D->Bool
 | .bool _| .int _ _| .str _=>true
 | _=>false
def aBw{w w':World}{M M':Addr->Prop}{d:D}{v:Value}(hl:FT d=true)(h:R w M d v):R w' M' d v:=by cases d<;>simp [FT] at hl<;>exact h
def IE{w:World}{M:Addr->Prop}{rows:List (List D)}{n b o len cap:Nat}{s:Option Nat}(hn: ∀r∈rows,r.length=n)(h:R w M (.sl rows) (.slice (some ⟨b,o,s⟩) len cap)){i j:Nat}{r:List D}{d:D}(hi:rows[i]? =some r)(hj:r[j]? =some d) :
  ∃u,w.cell? ⟨b,o+i*n+j,none⟩=some u/\ ¬M ⟨b,o+i*n+j,none⟩/\R w M d u:=by
 obtain ⟨a,len',cap',e,h1,h2,h3,h4,h5⟩:=h;cases e;exact ((h5 b o s rfl).2.get hn hi).get hj
def Ma{w:World}{M:Addr->Prop}{rows:List (List D)}{n b o len cap:Nat}{s:Option Nat}(hn: ∀r∈rows,r.length=n)(h1:len=rows.length)(h2:len<=cap)(h3:cap<=maxLen)(h4:0<len->s=none)
  (hc: ∀(i j:Nat) (r:List D) (d:D),rows[i]? =some r->r[j]? =some d-> ∃u,w.cell? ⟨b,o+i*n+j,none⟩=some u/\ ¬M ⟨b,o+i*n+j,none⟩/\R w M d u):R w M (.sl rows) (.slice (some ⟨b,o,s⟩) len cap):=by
 refine ⟨_,_,_,rfl,h1,h2,h3,(fun e=>by cases e),fun b' o' s' e=> ?_⟩;cases e;exact ⟨h4,B6 hn fun i r hr=>G6 fun j d hd=>hc i j r d hr hd⟩
def aH.calls{P:Program}{f:FuncId}{ds:List D}{r:D}(h:aH P f none ds r []){w:World}{M:Addr->Prop}{vs:List Value}(hG:fN w M)(hr:Rs w M ds vs) :
  Calls P f vs.toArray w fun e w'=> ∃v,e= .returned v/\R w' M r v/\Below w.heap.size w w' :=
 (h.2 w M 0 vs hG hr (fun cs h=>by cases h)).mono fun e w' ⟨v,h1,h2,h3,_⟩=>⟨v,h1,h2,h3.Br⟩
def aEX{P:Program}{w:World}{a:Addr}{u v:Value}(h:w.cell? a=some u)(hf:w.frozen? a=false)(hone:v.oneCell'=true):(store a v).run P w= .ok () (w.setCell a v):=by rw [run_store P w a v .plain hone,h,hf];rfl
abbrev PQ(b:Nat):Value:= .pointer (some ⟨b,0,none⟩)
def lk:List (Nat×Value)->Nat->Option Value
 | [],_=>none
 | p::r,t=>bif Nat.beq p.1 t then some p.2 else lk r t
structure Env(n:Nat)(a:Act)(E:List (Nat×Value)):Prop where
 size:a.tmps.size=n
 df:a.defers=[]
 at': ∀t v,lk E t=some v->a.tmps.getD t undef=v
def ev(E:List (Nat×Value)):Operand->Option Value
 | .tmp t=>lk E t
 | .const v=>some v
 | .global g=>some (.pointer (some ⟨g,0,none⟩))
 | .func f=>some (.func (.func f) #[] #[])
def Env.ev{n:Nat}{a:Act}{E:List (Nat×Value)}(h:Env n a E){x:Operand}{v:Value}(e:ev E x=some v):a.eval x=v:=by
 cases x with
 | tmp t=>exact h.at' t v e
 | const u=>simp [Go.Proofs.YtekplmpbkgchfaaGreatDoor.ev] at e;exact e
 | global g=>simp [Go.Proofs.YtekplmpbkgchfaaGreatDoor.ev] at e;exact e
 | func f=>simp [Go.Proofs.YtekplmpbkgchfaaGreatDoor.ev] at e;exact e
def Env.put{n:Nat}{a:Act}{E:List (Nat×Value)}(h:Env n a E){d:Nat}(hd:d<n)(v:Value):Env n (a.put (some d) v) ((d,v)::E):=by
 refine ⟨by simp [Act.put,h.size],h.df,fun t u e=> ?_⟩;have hs:=h.size;simp only [lk] at e;simp only [Act.put,rC,Et];cases hb:Nat.beq d t with
 | true => have:d=t:=iW hb;subst this;rw [hb] at e;simp at e;subst e;rw [aA rfl,aA (by omega)];rfl
 | false =>
  rw [hb] at e;simp at e;have hne: ¬d=t:=fun x=>by subst x;simp at hb
  rw [ak hne];have:=h.at' t u e;rw [rC] at this;exact this
def sY(E:List (Nat×Value)):List (Nat×Value)->Prop
 | []=>True
 | p::r=>lk E p.1=some p.2/\sY E r
def sY.get{E:List (Nat×Value)}: ∀{E':List (Nat×Value)},sY E E'-> ∀{t:Nat} {v:Value},lk E' t=some v->lk E t=some v
 | [],_,t,v,h=>by simp [lk] at h
 | p::r,⟨h1,h2⟩,t,v,h=>by
  simp only [lk] at h;cases hb:Nat.beq p.1 t with
  | true => have:p.1=t:=iW hb;subst this;rw [hb] at h;simp at h;subst h;exact h1
  | false=>rw [hb] at h;simp at h;exact h2.get h
def Env.sub{n:Nat}{a:Act}{E E':List (Nat×Value)}(h:Env n a E)(hs:sY E E'):Env n a E':=⟨h.size,h.df,fun t v e=>h.at' t v (hs.get e)⟩
def asM{n:Nat}{a:Act}{E:List (Nat×Value)}(h:a.tmps.size=n)(hd:a.defers=[])(hs: ∀p∈E,a.tmps.getD p.1 undef=p.2):Env n a E:=by
 refine ⟨h,hd,fun t v e=> ?_⟩;induction E with
 | nil=>simp [lk] at e
 | cons p r ih =>
  simp only [lk] at e;cases hb:Nat.beq p.1 t with
  | true => have:p.1=t:=iW hb;subst this;rw [hb] at e;simp at e;subst e;exact hs p (by simp)
  | false=>rw [hb] at e;simp at e;exact ih (fun q hq=>hs q (by simp [hq])) e
section
variable {n:Nat}{P:Program}{ops:Array Oper}{Q:Exit->Act->World->Prop}{E:List (Nat×Value)}{w w':World}
def NX(n:Nat)(K:Act->World->Prop)(E:List (Nat×Value))(w:World):Prop:= ∀a,Env n a E->K a w
def WL(n:Nat)(P:Program)(ops:Array Oper)(Q:Exit->Act->World->Prop)(l:List Oper)(E:List (Nat×Value))(w:World):Prop:= ∀a,Env n a E->wpList P ops Q l a w
def CW(n:Nat)(P:Program)(c:Code)(Q:Exit->Act->World->Prop)(E:List (Nat×Value))(w:World):Prop:= ∀a,Env n a E->c.wp P Q a w
def CW.seq{x y:Code}(h:CW n P x (Exit.then (y.wp P Q) Q) E w):CW n P (.seq x y) Q E w:=fun a hE=>wp_seq (h a hE)
def CW.region{id:Nat}{l:List Oper}(h:WL n P l.toArray Q l E w):CW n P (.region id l.toArray false) Q E w:=fun a hE=>wp_region_lit (h a hE)
def CW.skip(h:NX n (Q .normal) E w):CW n P .skip Q E w:=fun a hE=>wp_skip (h a hE)
def CW.ret(h:NX n (Q .ret) E w):CW n P .ret Q E w:=fun a hE=>wp_ret (h a hE)
def CW.exit{id:Nat}(h:NX n (Q (.exit id)) E w):CW n P (.exit id) Q E w:=fun a hE=>wp_exit (h a hE)
def CW.block{id:Nat}{c:Code}(h:CW n P c (Exit.inBlock id Q) E w):CW n P (.block id c) Q E w:=fun a hE=>wp_block (h a hE)
def fq{c:Operand}{x y:Code}(h:CW n P x Q E w)(hc:ev E c=some (.bool true):=by rfl):CW n P (.cond c x y) Q E w:=fun a hE=>wp_cond_true (hE.ev hc) (h a hE)
def CW.no{c:Operand}{x y:Code}(h:CW n P y Q E w)(hc:ev E c=some (.bool false):=by rfl):CW n P (.cond c x y) Q E w:=fun a hE=>wp_cond_false (hE.ev hc) (h a hE)
def CW.sub{c:Code}{E':List (Nat×Value)}(hs:sY E E')(h:CW n P c Q E' w):CW n P c Q E w:=fun a hE=>h a (hE.sub hs)
def WL.nil(h:NX n (Q .normal) E w):WL n P ops Q [] E w:=fun a hE=>wpList_nil (h a hE)
def aK{y:Code}{Q':Exit->Act->World->Prop}(h:CW n P y Q E w):NX n (Exit.then (y.wp P Q) Q' .normal) E w:=h
def NX.ret{K:Act->World->Prop}(h:NX n (Q .ret) E w):NX n (Exit.then K Q .ret) E w:=h
def vH{id:Nat}(h:NX n (Q .ret) E w):NX n (Exit.inBlock id Q .ret) E w:=h
def vG{id:Nat}(h:NX n (Q .normal) E w):NX n (Exit.inBlock id Q .normal) E w:=h
def sQ{K:Act->World->Prop}{id:Nat}(h:NX n (Q (.exit id)) E w):NX n (Exit.then K Q (.exit id)) E w:=h
def Ed{id:Nat}(h:NX n (Q .normal) E w):NX n (Exit.inBlock id Q (.exit id)) E w:=fun a hE=>by show if id=id then Q .normal a w else Q (.exit id) a w;rw [aA rfl];exact h a hE
def WX{fn:Func}{R:Ending->World->Prop}{p:Tmp}{ty:TypeId}{g:Nat}{t:TypeId}{cs:Array Value}{d:TypeDesc}(h:fn.results= #[.cell p ty])(hp:lk E p=some (.pointer (some ⟨g,0,none⟩)))(hg:aC w g t cs)(hu:P.underlying ty=some d)
  (hd:(match d with| .struct _| .array _ _=>true|_=>false)=true) (hi:(P.info? ty).map (·.size)=some cs.size) (hR:R (.returned (.agg cs)) w):NX n (bodyPost P fn R .ret) E w :=
 fun a hE=>⟨hE.df,_,aDz h a.tmps w d (hE.at' p _ hp) hg hu hd hi,hR⟩
def WY{fn:Func}{R:Ending->World->Prop}{p:Tmp}{v:Value}(h:fn.results= #[.tmp p])(hp:lk E p=some v)(hR:R (.returned v) w):NX n (bodyPost P fn R .ret) E w :=
 fun a hE=>⟨hE.df,_,results_tmp h a.tmps P w,by rw [hE.at' p _ hp];exact hR⟩
def fu(n:Nat)(P:Program)(E:List (Nat×Value))(o:Oper)(w:World)(v:Value)(w':World):Prop:= ∀a,Env n a E->(execOp a.eval o).run P w= .ok (.value v) w'
def Em(n:Nat)(P:Program)(E:List (Nat×Value))(o:Oper)(w:World)(w':World):Prop:= ∀a,Env n a E->(execOp a.eval o).run P w= .ok .skip w'
def Kb{o:Oper}(hg:o.guard=none)(y:Nat->Option Bool):Region.wanted o y=true:=by simp [Region.wanted,hg]
def asB{a:Act}(hE:Env n a E){j d:Nat}{b:Bool}(hj:(ops[j]?).bind (·.dst)=some d)(hb:lk E d=some (.bool b)):yielded ops a.tmps j=some b:=by
 have h1:=hE.at' d _ hb;unfold yielded;rw [hj];rw [rC] at h1;cases h2:a.tmps[d]? with
 | none=>rw [h2] at h1;simp [undef] at h1
 | some v=>rw [h2] at h1;simp at h1;subst h1;simp [h2]
def WB{o:Oper}{a:Act}(hE:Env n a E){j d:Nat}{b:Bool}(hg:o.guard=some (j,b))(hj:(ops[j]?).bind (·.dst)=some d)(hb:lk E d=some (.bool b)):Region.wanted o (yielded ops a.tmps)=true:=by simp [Region.wanted,hg,asB hE hj hb]
def asw{o:Oper}{a:Act}(hE:Env n a E){j d:Nat}{b:Bool}(hg:o.guard=some (j,!b))(hj:(ops[j]?).bind (·.dst)=some d)(hb:lk E d=some (.bool b)):Region.wanted o (yielded ops a.tmps)=false:=by cases b<;>simp [Region.wanted,hg,asB hE hj hb]
variable {o:Oper}{rest:List Oper}{v:Value}{d:Nat}
def jN(hg:o.guard=none)(hd:o.dst=some d)(hr:fu n P E o w v w')(cT:d<n)(h:WL n P ops Q rest ((d,v)::E) w'):WL n P ops Q (o::rest) E w:=fun a hE =>
 wpList_plain hg fun K hK=>by unfold Oper.wp;rw [hr a hE,KH,hd];exact hK _ _ (h _ (hE.put cT v))
def qC(hr:Em n P E o w w')(h:WL n P ops Q rest E w')(hg:o.guard=none:=by rfl)(hd:o.dst=none:=by rfl):WL n P ops Q (o::rest) E w:=fun a hE =>
 wpList_plain hg fun K hK=>by unfold Oper.wp;rw [hr a hE,Oper.upon_skip,hd];exact hK _ _ (h _ hE)
def Cc{j e:Nat}{b:Bool}(hg:o.guard=some (j,b))(hj:(ops[j]?).bind (·.dst)=some e)(hb:lk E e=some (.bool b))(hd:o.dst=some d)(hr:fu n P E o w v w')(cT:d<n)(h:WL n P ops Q rest ((d,v)::E) w'):WL n P ops Q (o::rest) E w:=fun a hE =>
 wpList_step fun K hK=>by rw [aA (WB hE hg hj hb)];unfold Oper.wp;rw [hr a hE,KH,hd];exact hK _ _ (h _ (hE.put cT v))
def WL.no{j e:Nat}{b:Bool}(hg:o.guard=some (j,!b))(hj:(ops[j]?).bind (·.dst)=some e)(hb:lk E e=some (.bool b))(hd:o.dst=some d)(cT:d<n)(h:WL n P ops Q rest ((d,undef)::E) w):WL n P ops Q (o::rest) E w:=fun a hE =>
 wpList_step fun K hK=>by rw [ak (by rw [asw hE hg hj hb];simp),hd];exact hK _ _ (h _ (hE.put cT undef))
def yx(n:Nat)(P:Program)(E:List (Nat×Value))(o:Oper)(w:World)(f:FuncId)(args:Array Value):Prop:= ∀a,Env n a E->(execOp a.eval o).run P w= .ok (.enter f args) w
def WL.c{f:FuncId}{args:Array Value}{R:Ending->World->Prop}(hg:o.guard=none)(hd:o.dst=some d)(hr:yx n P E o w f args)(cT:d<n)(hC:Calls P f args w R)
  (h: ∀e w',R e w'-> ∃v,e= .returned v/\WL n P ops Q rest ((d,v)::E) w'):WL n P ops Q (o::rest) E w:=fun a hE =>
 wpList_plain hg fun K hK=>by unfold Oper.wp;rw [hr a hE];refine hC.mono fun e w' he=> ?_;obtain ⟨v,rfl,hv⟩:=h e w' he;rw [hd];exact hK _ _ (hv _ (hE.put cT v))
def auE{f:FuncId}{args:Array Value}{R:Ending->World->Prop}{j e:Nat}{b:Bool}(hg:o.guard=some (j,b))(hj:(ops[j]?).bind (·.dst)=some e)(hb:lk E e=some (.bool b))(hd:o.dst=some d)(hr:yx n P E o w f args)(cT:d<n)(hC:Calls P f args w R)
  (h: ∀e w',R e w'-> ∃v,e= .returned v/\WL n P ops Q rest ((d,v)::E) w'):WL n P ops Q (o::rest) E w:=fun a hE =>
 wpList_step fun K hK=>by rw [aA (WB hE hg hj hb)];unfold Oper.wp;rw [hr a hE];refine hC.mono fun e w' he=> ?_;obtain ⟨v,rfl,hv⟩:=h e w' he;rw [hd];exact hK _ _ (hv _ (hE.put cT v))
def aN{x:Operand}(ho:o.op= .move x:=by rfl)(hx:ev E x=some v:=by rfl):fu n P E o w v w:=fun a hE=>by simp [execOp,ho,hE.ev hx]
def cy{x:Operand}(ho:o.op= .assign x:=by rfl)(hx:ev E x=some v:=by rfl):fu n P E o w v w:=fun a hE=>by simp [execOp,ho,hE.ev hx]
def Kt:TypeDesc->Bool
 | .struct _| .array _ _=>true
 | _=>false
def aAj{T:TypeId}{ds:TypeDesc}(h:P.underlying T=some ds)(hd:Kt ds=false):(isAgg T).run P w= .ok false w:=by cases ds<;>simp [Kt] at hd<;>simp [isAgg,run_underlying h]
def bM{T:TypeId}{ds:TypeDesc}{x:Operand}{ad:Addr}(hT:P.underlying T=some ds)(hc:w.cell? ad=some v)(ho:o.op= .load T x:=by rfl)(hx:ev E x=some (.pointer (some ad)):=by rfl)(hd:Kt ds=false:=by rfl):fu n P E o w v w:=fun a hE=>by simp [execOp,ho,hE.ev hx,Instr.loadAt,Instr.sureAddr,loadVar,aAj hT hd,hc]
def bE{T:TypeId}{ds:TypeDesc}{x:Operand}{b:Nat}{t:TypeId}{cs:Array Value}(hT:P.underlying T=some ds)(hb:aC w b t cs)(hi:(P.info? T).map (·.size)=some cs.size)(ho:o.op= .load T x:=by rfl)(hx:ev E x=some (.pointer (some ⟨b,0,none⟩)):=by rfl)(hd:(match ds with| .struct _| .array _ _=>true|_=>false)=true:=by rfl):fu n P E o w (.agg cs) w:=fun a hE=>by simp [execOp,ho,hE.ev hx,Instr.loadAt,Instr.sureAddr,Hz w b t T cs (0,0) ds hb hT hd hi]
def n9(P:Program)(T:TypeId)(f:Nat):Option Nat:=match P.underlying T with
 | some (.struct fs)=>match fs[f]? with
  | some fl=>match P.info? fl.type with
   | some i=>bif Nat.beq i.size 0 then none else some fl.offset
   | none=>none
  | none=>none
 | _=>none
def bD{T:TypeId}{x:Operand}{f k b c:Nat}(hf:n9 P T f=some k)(ho:o.op= .fieldAddr T x f:=by rfl)(hx:ev E x=some (.pointer (some ⟨b,c,none⟩)):=by rfl):fu n P E o w (.pointer (some ⟨b,c+k,none⟩)) w:=fun a hE=>by
 unfold n9 at hf;split at hf
 ·rename_i fs hu;split at hf
  ·rename_i fl hfl;split at hf
   ·rename_i i hi;cases hz:Nat.beq i.size 0 with
    | true=>rw [hz] at hf;simp at hf
    | false =>
     rw [hz] at hf;simp at hf;subst hf;have hne: ¬i.size=0:=fun e=>by rw [e] at hz;simp at hz
     have hs:(sizeOf fl.type).run P w= .ok i.size w:=run_sizeOf hi;simp [execOp,ho,hE.ev hx,Instr.fieldAt,run_underlying hu,hfl,Instr.sureAddr,fieldPlace,hs,hne,addr_add]
   ·simp at hf
  ·simp at hf
 ·simp at hf
def xz(P:Program)(T:TypeId):Option Nat:=match P.underlying T with
 | some (.slice e)=>(P.info? e).map (·.size)
 | _=>none
def uU{T:TypeId}{x i:Operand}{m b c len cap:Nat}{k:IntKind}{j:Int}(ho:o.op= .indexAddr T x i)(hx:ev E x=some (.slice (some ⟨b,c,none⟩) len cap))(hi:ev E i=some (.int k j))(h0:0<=j)(h1:j<len)(hT:xz P T=some m) :
  fu n P E o w (.pointer (some ⟨b,c+j.toNat*m,none⟩)) w:=fun a hE=>by
 unfold xz at hT;split at hT
 ·rename_i e hu;simp only [lJ] at hT;obtain ⟨inf,rO,rfl⟩:=hT;simp [execOp,ho,hE.ev hx,hE.ev hi,Instr.indexAt,asIntOf,run_underlying hu,run_sizeOf rO,h0,h1,addr_add]
 ·simp at hT
def Nv{T U:TypeId}{x y:Operand}{s t:ByteArray}(ho:o.op= .binOp .eql T x y U)(hx:ev E x=some (.string s))(hy:ev E y=some (.string t)):fu n P E o w (.bool (iK .eql s t)) w:=fun a hE=>by simp [execOp,ho,hE.ev hx,hE.ev hy,eqGuard,binOp,Op.stringOp,iK]
def aDb{T U:TypeId}{x y:Operand}{s t:ByteArray}(ho:o.op= .binOp .neq T x y U)(hx:ev E x=some (.string s))(hy:ev E y=some (.string t)):fu n P E o w (.bool (iK .neq s t)) w:=fun a hE=>by simp [execOp,ho,hE.ev hx,hE.ev hy,eqGuard,binOp,Op.stringOp,iK]
def aC5{op:BinOp}{T U:TypeId}{x y:Operand}{k:IntKind}{p q:Int}(ho:o.op= .binOp op T x y U)(hop:I9 op=true)(hx:ev E x=some (.int k p))(hy:ev E y=some (.int k q)):fu n P E o w (.int k (dJ op k p q)) w:=fun a hE=>by cases op<;>simp [I9] at hop<;>simp [execOp,ho,hE.ev hx,hE.ev hy,eqGuard,binOp,Op.intArith,Op.intBits,dJ]
def aC9{op:BinOp}{T U:TypeId}{x y:Operand}{k:IntKind}{p q:Int}(ho:o.op= .binOp op T x y U)(hop:FN op=true)(hx:ev E x=some (.int k p))(hy:ev E y=some (.int k q)):fu n P E o w (.bool (ba op p q)) w:=fun a hE=>by cases op<;>simp [FN] at hop<;>simp [execOp,ho,hE.ev hx,hE.ev hy,eqGuard,binOp,Op.intCmp,ba]
def r9{T:TypeId}{x:Operand}{b:Bool}(ho:o.op= .unOp .not T x:=by rfl)(hx:ev E x=some (.bool b):=by rfl):fu n P E o w (.bool (!b)) w:=fun a hE=>by simp [execOp,ho,hE.ev hx,Op.unary]
def uW{c x y:Operand}(ho:o.op= .pick c x y)(hc:ev E c=some (.bool true))(hx:ev E x=some v):fu n P E o w v w:=fun a hE=>by simp [execOp,ho,hE.ev hc,hE.ev hx,asBool]
def uV{c x y:Operand}(ho:o.op= .pick c x y)(hc:ev E c=some (.bool false))(hy:ev E y=some v):fu n P E o w v w:=fun a hE=>by simp [execOp,ho,hE.ev hc,hE.ev hy,asBool]
def uT{T:TypeId}{x:Operand}(ho:o.op= .box T x:=by rfl)(hx:ev E x=some v:=by rfl):fu n P E o w (.pointer (some ⟨w.heap.size,0,none⟩)) (w.alloc (.cells v.cells T)):=fun a hE=>by simp [execOp,ho,hE.ev hx,Instr.box,newVar,newRow]
def cY{T:TypeId}{z:Value}(ho:o.op= .alloc T)(hz:(P.info? T).bind (·.zero)=some z):fu n P E o w (.pointer (some ⟨w.heap.size,0,none⟩)) (w.alloc (.cells z.cells T)):=fun a hE=>by simp only [Option.bind_eq_some_iff] at hz;obtain ⟨i,hi,hz⟩:=hz;simp [execOp,ho,Instr.alloc,zeroValue,run_typeInfo hi,hz,newVar,newRow]
def pI{cl:Go.Call}{f:FuncId}{args:Array Value}(hf:yG P f=true)(ho:o.op= .call cl)(hcl:cl.callee= .value (.func f))(ha:cl.args.toList.map (ev E)=args.toList.map some):yx n P E o w f args:=fun a hE=>by
 rw [Gj hf ho hcl];have:cl.args.map a.eval=args:=by
  rw [<-kJ,Array.toList_map];have key: ∀(l:List Operand) (m:List Value),l.map (ev E)=m.map some->l.map a.eval=m:=by
   intro l;induction l with
   | nil=>intro m h;cases m<;>simp_all
   | cons x r ih =>
    intro m h;cases m with
    | nil=>simp at h
    | cons y q => simp only [kU,Ev] at h ⊢;exact ⟨hE.ev h.1,ih q h.2⟩
  exact key _ _ ha
 rw [this]
def Bk{cl:Go.Call}{x:Operand}{a0:Option Addr}{len cap:Nat}(ho:o.op= .call cl)(hcl:cl.callee= .builtin .len){T e:TypeId}(ha:cl.args= #[x])(hat:cl.argTypes= #[T])(hT:P.underlying T=some (.slice e))(hx:ev E x=some (.slice a0 len cap)):fu n P E o w (.int .i64 len) w:=fun a hE=>by simp [execOp,ho,resolve,hcl,ha,hat,invoke,builtin,Builtin.len_,hE.ev hx,run_underlying hT,goInt]
def qg{T:TypeId}{x y:Operand}{ad:Addr}{u:Value}(ho:o.op= .store T x y)(hx:ev E x=some (.pointer (some ad)))(hy:ev E y=some v)(hsz:(P.info? T).map (·.size)=some 1)(hone:v.oneCell'=true)(hc:w.cell? ad=some u)(hf:w.frozen? ad=false):Em n P E o w (w.setCell ad v):=fun a hE=>by
 simp only [lJ] at hsz;obtain ⟨i,hi,hs⟩:=hsz;have hcs:v.cells= #[v]:=by cases v<;>simp [Value.oneCell'] at hone<;>rfl
 have h1:(storeVar T ad v).run P w= .ok () (w.setCell ad v):=by simp [storeVar,run_sizeOf hi,hs,hcs,storeCells,Addr.add,aEX hc hf hone]
 simp [execOp,ho,hE.ev hx,hE.ev hy,Instr.storeAt,Instr.sureAddr,h1]
def akF{T:TypeId}{x y:Operand}{b:Nat}{t:TypeId}{C cs:Array Value}(ho:o.op= .store T x y)(hx:ev E x=some (.pointer (some ⟨b,0,none⟩)))(hy:ev E y=some (.agg cs))(hsz:(P.info? T).map (·.size)=some cs.size)(hone: ∀u∈cs.toList,u.oneCell'=true)(hC:C.size=cs.size)(hb:aC w b t C) :
  ∃w',Em n P E o w w'/\aC w' b t cs/\bN w w' b:=by
 simp only [lJ] at hsz;obtain ⟨i,hi,hs⟩:=hsz;obtain ⟨w',h1,h2,h3⟩:=Jy (P:=P) b t cs.toList w C 0 0 hb hone (by simp;omega);refine ⟨w',fun a hE=> ?_,?_,h3⟩
 ·have h4:(storeVar T ⟨b,0,none⟩ (.agg cs)).run P w= .ok () w':=by simp only [storeVar,Value.cells,lK,run_sizeOf hi,uk,hs];simp [h1]
  simp [execOp,ho,hE.ev hx,hE.ev hy,Instr.storeAt,Instr.sureAddr,h4]
 ·have e:iQ C (0+0) cs.toList=cs:=by
   rw [<-kJ,Gl];have key: ∀(l C:List Value) (k:Nat),C.length=k+l.length->mi C k l=C.take k++l:=by
    intro l;induction l with
    | nil=>intro C k h;simp [mi];exact (Cj (by simp at h;omega)).symm
    | cons x r ih =>
     intro C k h;simp only [mi,fw] at h ⊢;rw [ih _ _ (by simp;omega)];have hk:k<C.length:=by omega
     rw [KF];simp [Ew,hk,List.take_set_of_le]
   rw [key _ _ _ (by simp [hC])];simp
  rw [e] at h2;exact h2
def jC{op:BinOp}{T U:TypeId}{x y:Operand}{k:IntKind}{p q:Int}{b:Bool}(ho:o.op= .binOp op T x y U:=by rfl)(hop:FN op=true:=by rfl)(hx:ev E x=some (.int k p):=by rfl)(hy:ev E y=some (.int k q):=by rfl)(hb:ba op p q=b):fu n P E o w (.bool b) w:=hb▸aC9 ho hop hx hy
def jB{op:BinOp}{T U:TypeId}{x y:Operand}{k:IntKind}{p q r:Int}(ho:o.op= .binOp op T x y U:=by rfl)(hop:I9 op=true:=by rfl)(hx:ev E x=some (.int k p):=by rfl)(hy:ev E y=some (.int k q):=by rfl)(hb:dJ op k p q=r):fu n P E o w (.int k r) w:=hb▸aC5 ho hop hx hy
def cj{T:TypeId}{x y:Operand}{b:Nat}{t:TypeId}{C cs:Array Value}(ho:o.op= .store T x y)(hy:ev E y=some (.agg cs))(hb:aC w b t C)(hone: ∀u∈cs.toList,u.oneCell'=true)(hsz:(P.info? T).map (·.size)=some cs.size)(h: ∀w',aC w' b t cs->bN w w' b->WL n P ops Q rest E w')(hg:o.guard=none:=by rfl)(hd:o.dst=none:=by rfl)(hx:ev E x=some (.pointer (some ⟨b,0,none⟩)):=by rfl)(hC:C.size=cs.size:=by rfl):WL n P ops Q (o::rest) E w:=by obtain ⟨w',h1,h2,h3⟩:=akF (n:=n) (P:=P) (E:=E) ho hx hy hsz hone hC hb;exact qC (hg:=hg) (hd:=hd) h1 (h w' h2 h3)
def HY{o:Obj}{w1:World}(h:bN (w.alloc o) w1 w.heap.size):Below w.heap.size w w1:=by refine ⟨h.os,h.tape,h.output,by rw [h.size,dI];omega,fun i hi=> ?_⟩;rw [h.block i (by omega)];exact Ku w o i hi
def placesOf(P:Program):List Field->Option (List (Nat×Nat))
 | []=>some []
 | f::r=>match P.info? f.type,placesOf P r with
  | some i,some q=>some ((f.offset,i.size)::q)
  | _,_=>none
def akq: ∀{fl:List Field} {pl:List (Nat×Nat)},placesOf P fl=some pl->(fl.mapM (m:=Sem) fun f=>do pure (f.offset, <-sizeOf f.type)).run P w= .ok pl w
 | [],pl,h=>by simp [placesOf] at h;subst h;simp
 | f::r,pl,h=>by
  unfold placesOf at h;split at h
  ·rename_i i q h1 h2;simp only [bg] at h;subst h;rw [Xt];simp only [lK,EB,run_sizeOf h1,uk,akq h2]
  ·simp at h
def tg(P:Program)(T:TypeId)(parts:List (Nat×Value)):Option (Array Value):=match (P.info? T).bind (·.zero),P.underlying T with
 | some z,some (.struct fields)=>match placesOf P fields.toList with
  | some pl=>Instr.fill (fun x=>pl[x]?) z.cells parts
  | none=>none
 | _,_=>none
def jK{T:TypeId}{parts:Array (Nat×Operand)}{vs:List (Nat×Value)}{cs:Array Value}(hb:tg P T vs=some cs)(ho:o.op= .build T parts:=by rfl)(ha:parts.toList.map (fun p=>(p.1,ev E p.2))=vs.map (fun p=>(p.1,some p.2)):=by rfl):fu n P E o w (.agg cs) w:=fun a hE=>by
 have hp:(parts.map fun (x:Nat×Operand)=>(x.1,a.eval x.2)).toList=vs:=by
  rw [Array.toList_map];have key: ∀(l:List (Nat×Operand)) (m:List (Nat×Value)),l.map (fun p=>(p.1,ev E p.2))=m.map (fun p=>(p.1,some p.2))->l.map (fun p=>(p.1,a.eval p.2))=m:=by
   intro l;induction l with
   | nil=>intro m h;cases m<;>simp_all
   | cons x r ih =>
    intro m h;cases m with
    | nil=>simp at h
    | cons y q => simp only [kU,Ev,oU] at h ⊢;refine ⟨?_,ih q h.2⟩;rw [hE.ev h.1.2,h.1.1]
  exact key _ _ ha
 unfold tg at hb;split at hb
 ·rename_i z fields hz hu;split at hb
  ·rename_i pl hpl;simp only [Option.bind_eq_some_iff] at hz;obtain ⟨i,hi,hz⟩:=hz;have hm:(fields.mapM (m:=Sem) fun f=>do pure (f.offset, <-sizeOf f.type)).run P w= .ok pl.toArray w:=by rw [Xi,Sem.run_map,akq hpl];rfl
   simp only [execOp,ho,Instr.build,lK,zeroValue,run_typeInfo hi,hz,uk,EB,run_underlying hu,hm];rw [hp];simp [hb]
  ·simp at hb
 ·simp at hb
def tj{f:FuncId}{fn:Func}{c:Code}{args:Array Value}{R:Ending->World->Prop}{E:List (Nat×Value)}{n:Nat}(hf:P.funcs[f]? =some fn)(hb:fn.body=some c)(hnn:fn.ntmps=n)(hn:args.size<=n)(hE: ∀p∈E,args[p.1]? =some p.2)
  (h:CW n P c (bodyPost P fn R) E w):Calls P f args w R:=by
 subst hnn;refine calls_of_wp hf hb (h _ (asM ?_ rfl fun p hp=> ?_))
 ·simp;omega
 ·have:=hE p hp;have hlt:=(rD.1 this).1;simp only [rC];rw [Xh hlt,this];rfl
section
variable {l0 f0 m1 m2 t0 t1 t2 t3 t4 t5 t6 t7 t8 t9 t10:Nat}{T S U A B:TypeId}{dA dB:TypeDesc}{o0 o1 o2 o3 o4 o5 o6 o7 o8 o9 o10:Oper}{x2:Nat}{ad ad2:Addr}{b c b' c' k k':Nat}{s u s1 u1:ByteArray}
def aFk{xc:Operand}{TC A1 A2 A3 A4:TypeId}{fC:Nat}
  (h0:o0.op= .fieldAddr TC xc fC) (g0:o0.guard=none) (d0:o0.dst=some t0)
  (h1:o1.op= .load A1 (.tmp t0)) (g1:o1.guard=none) (d1:o1.dst=some t1)
  (h2:o2.op= .binOp .eql A2 (.tmp t1) (.const (.string u)) A3) (g2:o2.guard=none) (d2:o2.dst=some t2)
  (h3:o3.op= .move (.tmp t2)) (g3:o3.guard=none) (d3:o3.dst=some t3)
  (h4:o4.op= .fieldAddr TC xc fC) (g4:o4.guard=some (3,false)) (d4:o4.dst=some t4)
  (h5:o5.op= .load A1 (.tmp t4)) (g5:o5.guard=some (3,false)) (d5:o5.dst=some t5)
  (h6:o6.op= .binOp .eql A2 (.tmp t5) (.const (.string u1)) A4) (g6:o6.guard=some (3,false)) (d6:o6.dst=some t6)
  (h7:o7.op= .pick (.tmp t3) (.const (.bool true)) (.tmp t6)) (g7:o7.guard=none) (d7:o7.dst=some t7)
  (h8:o8.op= .assign (.tmp t7)) (g8:o8.guard=none) (d8:o8.dst=some t8)
  (hn:t0<n/\t1<n/\t2<n/\t3<n/\t4<n/\t5<n/\t6<n/\t7<n/\t8<n)
  (az3:ev E xc=some (.pointer (some ⟨b',c',none⟩)))
  (MX: ∀z0 z1 z2 z3,ev ((t3,z3)::(t2,z2)::(t1,z1)::(t0,z0)::E) xc=some (.pointer (some ⟨b',c',none⟩)))
  (il:t3≠t4/\t3≠t5/\t3≠t6)
  (hA:P.underlying A1=some dA) (RM:Kt dA=false) (R9:n9 P TC fC=some k') (hc2:w.cell? ⟨b',c'+k',none⟩=some (.string s1))
  (h: ∀E',(∀t,t∉[t0,t1,t2,t3,t4,t5,t6,t7,t8]->lk E' t=lk E t)->lk E' t8=some (.bool (iK .eql s1 u||iK .eql s1 u1))->NX n (Q .normal) E' w) :
  WL n P #[o0,o1,o2,o3,o4,o5,o6,o7,o8] Q [o0,o1,o2,o3,o4,o5,o6,o7,o8] E w:=by
 obtain ⟨n0,n1,n2,n3,n4,n5,n6,n7,n8⟩:=hn;have eJ: ∀t v (F:List (Nat×Value)),lk ((t,v)::F) t=some v:=fun t v F=>by simp [lk]
 have ji: ∀{t t' v} {F:List (Nat×Value)},t≠t'->lk ((t',v)::F) t=lk F t:=fun {t t' v F} hne=>by
  simp only [lk];cases hb:Nat.beq t' t with
  | false=>rfl
  | true=>exact absurd (iW hb).symm hne
 refine jN g0 d0 (bD (ho:=h0) (hx:=az3) R9) n0 ?_;refine jN g1 d1 (bM (ho:=h1) (hx:=(eJ _ _ _)) hA (hd:=RM) hc2) n1 ?_;refine jN g2 d2 (Nv h2 (eJ _ _ _) rfl) n2 ?_;refine jN g3 d3 (aN (ho:=h3) (hx:=(eJ _ _ _))) n3 ?_;have fin: ∀(vs:List (Nat×Value)) (t:Nat),t∉[t0,t1,t2,t3,t4,t5,t6,t7,t8]->(∀p∈vs,p.1∈[t0,t1,t2,t3,t4,t5,t6,t7,t8])->lk (vs++E) t=lk E t:=by
  intro vs t ht;induction vs with
  | nil=>intro _;rfl
  | cons p r ih => intro hp;obtain ⟨pt,pv⟩:=p;have h1:pt∈[t0,t1,t2,t3,t4,t5,t6,t7,t8]:=hp (pt,pv) (by simp);rw [iH,ji (fun e=>ht (by rw [e];exact h1))];exact ih fun q hq=>hp q (by simp [hq])
 cases hb:iK .eql s1 u with
 | true => refine WL.no (b:=true) g4 (by simpa using d3) (by rw [eJ]) d4 n4 ?_;refine WL.no (b:=true) g5 (by simpa using d3) (by rw [ji il.1,eJ]) d5 n5 ?_;refine WL.no (b:=true) g6 (by simpa using d3) (by rw [ji il.2.1,ji il.1,eJ]) d6 n6 ?_;refine jN g7 d7 (uW h7 (by show lk _ _=_;rw [ji il.2.2,ji il.2.1,ji il.1,eJ]) rfl) n7 ?_;refine jN g8 d8 (cy (ho:=h8) (hx:=(eJ _ _ _))) n8 (WL.nil (h _ (fun t ht=> ?_) (by rw [eJ,hb];rfl)));exact fin [_,_,_,_,_,_,_,_,_] t ht (by simp)
 | false => refine Cc (b:=false) g4 (by simpa using d3) (by rw [eJ]) d4 (bD (ho:=h4) (hx:=(MX _ _ _ _)) R9) n4 ?_;refine Cc (b:=false) g5 (by simpa using d3) (by rw [ji il.1,eJ]) d5 (bM (ho:=h5) (hx:=(eJ _ _ _)) hA (hd:=RM) hc2) n5 ?_;refine Cc (b:=false) g6 (by simpa using d3) (by rw [ji il.2.1,ji il.1,eJ]) d6 (Nv h6 (eJ _ _ _) rfl) n6 ?_;refine jN g7 d7 (uV h7 (by show lk _ _=_;rw [ji il.2.2,ji il.2.1,ji il.1,eJ]) (eJ _ _ _)) n7 ?_;refine jN g8 d8 (cy (ho:=h8) (hx:=(eJ _ _ _))) n8 (WL.nil (h _ (fun t ht=> ?_) (by rw [eJ,hb,PJ])));exact fin [_,_,_,_,_,_,_,_,_] t ht (by simp)
end
end
section
variable {n:Nat}{P:Program}{ops:Array Oper}{Q:Exit->Act->World->Prop}{E E':List (Nat×Value)}{w w':World}{o:Oper}{rest:List Oper}{v:Value}{d:Nat}
def ah(hr:fu n P E o w v w')(h:WL n P ops Q rest ((d,v)::E) w')(hg:o.guard=none:=by rfl)(hd:o.dst=some d:=by rfl)(cT:d<n:=by decide):WL n P ops Q (o::rest) E w:=jN hg hd hr cT h
def mB{j e:Nat}{b:Bool}(hr:fu n P E o w v w')(h:WL n P ops Q rest ((d,v)::E) w')(hg:o.guard=some (j,b):=by rfl)(hj:(ops[j]?).bind (·.dst)=some e:=by rfl)(hb:lk E e=some (.bool b):=by rfl)(hd:o.dst=some d:=by rfl)(cT:d<n:=by decide):WL n P ops Q (o::rest) E w:=Cc hg hj hb hd hr cT h
def iV{j e:Nat}{b:Bool}(h:WL n P ops Q rest ((d,undef)::E) w)(hg:o.guard=some (j,!b):=by rfl)(hj:(ops[j]?).bind (·.dst)=some e:=by rfl)(hb:lk E e=some (.bool b):=by rfl)(hd:o.dst=some d:=by rfl)(cT:d<n:=by decide):WL n P ops Q (o::rest) E w:=WL.no hg hj hb hd cT h
def dC{f:FuncId}{args:Array Value}{R:Ending->World->Prop}(hC:Calls P f args w R)(h: ∀e w',R e w'-> ∃v,e= .returned v/\WL n P ops Q rest ((d,v)::E) w')(hr:yx n P E o w f args:=by exact pI (by kernel_rfl) rfl rfl rfl)(hg:o.guard=none:=by rfl)(hd:o.dst=some d:=by rfl)(cT:d<n:=by decide):WL n P ops Q (o::rest) E w:=WL.c hg hd hr cT hC h
def Ep{f:FuncId}{args:Array Value}{R:Ending->World->Prop}{j e:Nat}{b:Bool}(hC:Calls P f args w R)(h: ∀e w',R e w'-> ∃v,e= .returned v/\WL n P ops Q rest ((d,v)::E) w')(hr:yx n P E o w f args:=by exact pI (by kernel_rfl) rfl rfl rfl)(hg:o.guard=some (j,b):=by rfl)(hj:(ops[j]?).bind (·.dst)=some e:=by rfl)(hb:lk E e=some (.bool b):=by rfl)(hd:o.dst=some d:=by rfl)(cT:d<n:=by decide):WL n P ops Q (o::rest) E w:=auE hg hj hb hd hr cT hC h
def bQ{y:Code}{Q':Exit->Act->World->Prop}(h:CW n P y Q E w):WL n P ops (Exit.then (y.wp P Q) Q') [] E w:=WL.nil (aK h)
def aT{id:Nat}{l:List Oper}{y:Code}(h:WL n P l.toArray (Exit.then (y.wp P Q) Q) l E w):CW n P (.seq (.region id l.toArray false) y) Q E w:=CW.seq (CW.region h)
def bq{c:Code}(h:CW n P c Q E' w)(hs:sY E E':=by ((repeat refine And.intro rfl ?_);exact trivial)):CW n P c Q E w:=CW.sub hs h
end
end
end Go.Proofs.YtekplmpbkgchfaaGreatDoor
