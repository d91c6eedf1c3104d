/- Regions whose order is left open: in whatever order their edges allow they do what they do in the order of the text. No program in sight. -/
import Derived.Test.YtoomhbopolalnabGreatDoorT5
import Derived.Deep.LoopGhost
set_option linter.all false
namespace Go.Proofs.YtoomhbopolalnabGreatDoor
variable {listed:Array Bool}{T a g n off:Nat}{o:Oper}{x:Operand}{dst:Option Nat}{ti:TI}
section
open Go.RowKit
variable [GC]
section
variable {tb:TB}{Γ:List VT}{gs:Gd}{σ bJ:Nat->ST}{ops:Array Oper}
def OP(h:∀t,x=.tmp t->bJ (3*t)=σ (3*t)):aY tb bJ T x=aY tb σ T x:=by
 cases x with
 |tmp t=>simp only[aY,h t rfl]
 |_=>rfl
def amo{g:Gd}{id:Nat}(h:aY tb σ T x=some (.ptr g id off)):∃t,x=.tmp t/\σ (3*t)=.ptr g id off:=by
 cases x with
 |tmp t=>simp only[aY,aS]at h;exact⟨t,rfl,h⟩
 |const v=>
  simp only[aY]at h;unfold FE at h
  (repeat' split at h)<;>simp at h
 |_=>simp[aY]at h
def aFb{a:Gd}{i:E}(h:aY tb σ T x=some (.mp a g n i off)):∃t,x=.tmp t/\σ (3*t)=.mp a g n i off:=by
 cases x with
 |tmp t=>simp only[aY,aS]at h;exact⟨t,rfl,h⟩
 |const v=>
  simp only[aY]at h;unfold FE at h
  (repeat' split at h)<;>simp at h
 |_=>simp[aY]at h
def aE9{d:Gd}{i:E}{j:E}{m o:Nat}(h:aY tb σ T x=some (.ip d g a n i off j m o)):∃t,x=.tmp t/\σ (3*t)=.ip d g a n i off j m o:=by
 cases x with
 |tmp t=>simp only[aY,aS]at h;exact⟨t,rfl,h⟩
 |const v=>
  simp only[aY]at h;unfold FE at h
  (repeat' split at h)<;>simp at h
 |_=>simp[aY]at h
def aFa{d:Gd}{i:E}{l:E}(h:aY tb σ T x=some (.iv d g a n i off l)):∃t,x=.tmp t/\σ (3*t)=.iv d g a n i off l:=by
 cases x with
 |tmp t=>simp only[aY,aS]at h;exact⟨t,rfl,h⟩
 |const v=>
  simp only[aY]at h;unfold FE at h
  (repeat' split at h)<;>simp at h
 |_=>simp[aY]at h
def aFc{gs:Gd}{e:E}(h:aY tb σ T x=some (.v gs (.own g) e)):∃t,x=.tmp t/\σ (3*t)=.v gs (.own g) e:=by
 cases x with
 |tmp t=>simp only[aY,aS]at h;exact⟨t,rfl,h⟩
 |const v=>
  simp only[aY]at h;unfold FE at h
  (repeat' split at h)<;>simp at h
 |_=>simp[aY]at h
structure Alike(ops:Array Oper)(o:Oper)(σ bJ:Nat->ST):Prop where
 t:∀t∈tmpsOf ops o,bJ (3*t)=σ (3*t)
 p:looks o.op=true->∀t∈tmpsOf ops o,∀g id off,σ (3*t)=.ptr g id off->bJ (3*id+1)=σ (3*id+1)
 r:looks o.op=true->∀t∈tmpsOf ops o,∀gs g e,σ (3*t)=.v gs (.own g) e->bJ (3*g+2)=σ (3*g+2)
 ip:looks o.op=true->∀t∈tmpsOf ops o,∀gd g gv n i off j m o2,σ (3*t)=.ip gd g gv n i off j m o2->bJ (3*g+2)=σ (3*g+2)
 iv:looks o.op=true->∀t∈tmpsOf ops o,∀gd g gv n i off l,σ (3*t)=.iv gd g gv n i off l->bJ (3*g+2)=σ (3*g+2)
 m:looks o.op=true->∀t∈tmpsOf ops o,∀g0 g n i off,σ (3*t)=.mp g0 g n i off->bJ (3*g+2)=σ (3*g+2)
def aim:∀{l:List Nat} {t:Nat},t∈l->∀{d:Gd} {g v n:Nat} {i:E} {off:Nat} {j:E} {m o:Nat},σ (3*t)=.ip d g v n i off j m o->3*g+2∈qU σ l
 |[],t,h,_,_,_,_,_,_,_,_,_,_=>by simp at h
 |x::r,t,h,d,g,v,n,i,off,j,m,o,e=>by
  unfold qU;rcases fI.1 h with rfl|h
  ·rw[e];simp
  ·have:=aim h e;split<;>simp[this]
def ain:∀{l:List Nat} {t:Nat},t∈l->∀{d:Gd} {g v n:Nat} {i:E} {off:Nat} {le:E},σ (3*t)=.iv d g v n i off le->3*g+2∈qU σ l
 |[],t,h,_,_,_,_,_,_,_,_=>by simp at h
 |x::r,t,h,d,g,v,n,i,off,le,e=>by
  unfold qU;rcases fI.1 h with rfl|h
  ·rw[e];simp
  ·have:=ain h e;split<;>simp[this]
def aio:∀{l:List Nat} {t:Nat},t∈l->∀{a:Gd} {g n:Nat} {i:E} {off:Nat},σ (3*t)=.mp a g n i off->3*g+2∈qU σ l
 |[],t,h,_,_,_,_,_,_=>by simp at h
 |x::r,t,h,a,g,n,i,off,e=>by
  unfold qU;rcases fI.1 h with rfl|h
  ·rw[e];simp
  ·have:=aio h e;split<;>simp[this]
def aiq:∀{l:List Nat} {t:Nat},t∈l->∀{g:Gd} {id off:Nat},σ (3*t)=.ptr g id off->3*id+1∈qU σ l
 |[],t,h,_,_,_,_=>by simp at h
 |x::r,t,h,g,id,off,e=>by
  unfold qU;rcases fI.1 h with rfl|h
  ·rw[e];simp
  ·have:=aiq h e;split<;>simp[this]
def aip:∀{l:List Nat} {t:Nat},t∈l->∀{gs:Gd} {g:Nat} {e:E},σ (3*t)=.v gs (.own g) e->3*g+2∈qU σ l
 |[],t,h,_,_,_,_=>by simp at h
 |x::r,t,h,gs,g,e,a=>by
  unfold qU;rcases fI.1 h with rfl|h
  ·rw[a];simp
  ·have:=aip h a;split<;>simp[this]
def avn(h:∀l∈readsOf ops σ o,bJ l=σ l):Alike ops o σ bJ where
 t:=fun t a=>h _ (by unfold readsOf;simp only[iJ,fJ];exact .inl ⟨t,a,rfl⟩)
 p:=fun b t a g id off d=>h _ (by unfold readsOf;rw[b];simp only[iJ,gD];exact .inr (aiq a d))
 r:=fun b t a gs g e d=>h _ (by unfold readsOf;rw[b];simp only[iJ,gD];exact .inr (aip a d))
 ip:=fun b t a f g v n i off j m k d=>h _ (by unfold readsOf;rw[b];simp only[iJ,gD];exact .inr (aim a d))
 iv:=fun b t a f g v n i off l d=>h _ (by unfold readsOf;rw[b];simp only[iJ,gD];exact .inr (ain a d))
 m:=fun b t a q g n i off d=>h _ (by unfold readsOf;rw[b];simp only[iJ,gD];exact .inr (aio a d))
def uD{t:Nat}(hx:x∈o.op.operands.toList)(e:x=.tmp t):t∈tmpsOf ops o:=by unfold tmpsOf;simp only[iJ,List.mem_filterMap];exact .inl ⟨x,hx,by rw[e]⟩
def aAr{tab:Nat->List CT}(h:Alike ops o σ bJ):zQ tab Γ ops bJ o=zQ tab Γ ops σ o:=by
 unfold zQ;cases g:o.guard with
 |none=>rfl
 |some a=>
  obtain⟨j,b⟩:=a;simp only;cases e:(ops[j]?).bind (·.dst)with
  |none=>rfl
  |some d=> simp only;rw[h.t d (by unfold tmpsOf;simp only[iJ,g];exact .inr (by simp[e]))]
def azM{tab:Nat->List CT}{s:Option ST}(h:∀g id off,s=some (.ptr g id off)->bJ (3*id+1)=σ (3*id+1)):Jm tab Γ gs dst bJ ti s=Jm tab Γ gs dst σ ti s:=by
 unfold Jm;cases b:s.bind (under gs)with
 |none=>rfl
 |some t=>
  cases t with
  |ptr g id off=> simp only;obtain⟨d,e,f⟩:=ym b;rcases Aq f with⟨_,_,_,_,_,a⟩|⟨i,j,o,rfl,_,a⟩|⟨_,_,_,_,_,a⟩<;>cases a;rw[h _ _ _ e]
  |_=>rfl
def azL(h1:aY tb bJ 0 x=aY tb σ 0 x)(h:∀g id off,aY tb σ 0 x=some (.ptr g id off)->bJ (3*id+1)=σ (3*id+1))(a:∀b g n i off,aY tb σ 0 x=some (.mp b g n i off)->bJ (3*g+2)=σ (3*g+2))(p:∀d g v n i off j m o,aY tb σ 0 x=some (.ip d g v n i off j m o)->bJ (3*g+2)=σ (3*g+2)):Jl tb Γ gs dst bJ ti x=Jl tb Γ gs dst σ ti x:=by
 have l:=azM (tab:=tb.tab) (Γ:=Γ) (gs:=gs) (dst:=dst) (ti:=ti) h;cases x with
 |global g=>rfl
 |_=>
  simp only[Jl];rw[h1];revert l a p;generalize aY tb σ 0 _=s;intro a p l;split
  ·rfl
  ·rename_i b g n i off;unfold TV;rw[a _ _ _ _ _ rfl]
  ·unfold TQ;rw[p _ _ _ _ _ _ _ _ _ rfl]
  ·exact l
def azQ{tab:Nat->List CT}{s x:Option ST}(h:∀g id off,s=some (.ptr g id off)->bJ (3*id+1)=σ (3*id+1)):Dm tab Γ gs dst bJ ti s x=Dm tab Γ gs dst σ ti s x:=by
 unfold Dm;cases gs with
 |cons _ _=>rfl
 |nil=>
  cases dst with
  |some _=>rfl
  |none=>
   cases b:s.bind (under [])with
   |none=>rfl
   |some t=>
    cases t with
    |ptr g id off=>
     obtain⟨d,f,i⟩:=ym b;rcases Aq i with⟨_,_,_,_,_,a⟩|⟨m,n,o,rfl,_,a⟩|⟨_,_,_,_,_,a⟩<;>cases a;cases j:fT [] x with
     |none=>rfl
     |some l=> obtain⟨k,e⟩:=l;simp only;rw[h _ _ _ f]
    |_=>cases j:fT [] x<;>rfl
def azP{s x:Option ST}(d:∀a g n i off,s=some (.mp a g n i off)->bJ (3*g+2)=σ (3*g+2))(p:∀f g v n i off j m o,s=some (.ip f g v n i off j m o)->bJ (3*g+2)=σ (3*g+2))
  (ho:∀gs g e,x=some (.v gs (.own g) e)->bJ (3*g+2)=σ (3*g+2)) (l:Dm tb.tab Γ gs dst bJ ti s x=Dm tb.tab Γ gs dst σ ti s x):Jp tb Γ gs dst bJ a ti s x=Jp tb Γ gs dst σ a ti s x:=by
 unfold Jp;split
 ·rename_i g n i off;unfold TW;rw[d _ _ _ _ _ rfl];cases t:σ (3*g+2)with
  |live m=>
   obtain⟨A,_|⟨B,q⟩⟩:=m
   ·rfl
   cases u:fT [] x with
   |none=>rfl
   |some r=>
    obtain⟨k,e⟩:=r;obtain⟨C,F,w,y⟩:=ad7 u;have z:∀h,k=.own h->bJ (3*h+2)=σ (3*h+2):=by rintro h rfl;rcases Aq y with⟨G,H,I,rfl,_,b⟩|⟨_,_,_,_,_,b⟩|⟨_,_,_,_,_,b⟩<;>cases b;exact ho _ _ _ w
    cases k with
    |own h=>
     rcases q with _|⟨v,J⟩
     ·rfl
     ·simp only[z h rfl]
    |_=>rfl
  |_=>rfl
 ·unfold TR;rw[p _ _ _ _ _ _ _ _ _ rfl]
 ·exact l
def ais{s:List (Nat×Nat)}:∀{parts:List (Nat×Operand)} {cs:List (K×E)},(∀p∈parts,∀t,p.2=.tmp t->bJ (3*t)=σ (3*t))->uq tb Γ gs bJ s parts cs=uq tb Γ gs σ s parts cs
 |[],cs,_=>rfl
 |(f,x)::r,cs,h=>by
  unfold uq;cases s[f]? with
  |none=>rfl
  |some p=> obtain⟨o,d⟩:=p;simp only;rw[OP (fun t a=>h (f,x) (by simp) t a)];have ih:∀cs,uq tb Γ gs bJ s r cs=uq tb Γ gs σ s r cs:=fun cs=>ais fun p b=>h p (by simp[b]);simp only[ih]
def ait{e:Nat}:∀{parts:List (Nat×Operand)} {n:Nat} {a:E},(∀p∈parts,∀t,p.2=.tmp t->bJ (3*t)=σ (3*t))->r9 tb Γ gs bJ e n parts a=r9 tb Γ gs σ e n parts a
 |[],n,a,_=>rfl
 |(f,x)::r,n,a,h=>by unfold r9;rw[OP (fun t b=>h (f,x) (by simp) t b)];have ih:∀n a,r9 tb Γ gs bJ e n r a=r9 tb Γ gs σ e n r a:=fun n a=>ait fun p d=>h p (by simp[d]);simp only[ih]
def Jh:∀{xs:List Operand} {Ts:List Nat},(∀x∈xs,∀t,x=.tmp t->bJ (3*t)=σ (3*t))->nO tb Γ gs bJ xs Ts=nO tb Γ gs σ xs Ts
 |[],[],_=>rfl
 |[],_::_,_=>rfl
 |_::_,[],_=>rfl
 |x::xs,T::Ts,h=>by unfold nO;rw[OP (fun t a=>h x (by simp) t a),Jh fun y b=>h y (by simp[b])]
def azK{r:List (Nat×Nat)}{f:Nat}{args:List Operand}{Ts:List Nat}(h:∀x∈args,∀t,x=.tmp t->bJ (3*t)=σ (3*t))(p:∀x∈args,∀t,x=.tmp t->∀g id off,σ (3*t)=.ptr g id off->bJ (3*id+1)=σ (3*id+1)) :
  Ji tb Γ gs dst bJ g r ti f args Ts=Ji tb Γ gs dst σ g r ti f args Ts:=by
 unfold Ji;cases args with
 |nil=>cases Ts<;>rfl
 |cons x s=>
  cases Ts with
  |nil=>rfl
  |cons T Ts=>
   simp only;rw[OP (fun t a=>h x (by simp) t a)];cases i:J0 (aY tb σ T x)with
   |none=>simp only;rw[Jh h]
   |some gi=>
    obtain⟨g,id⟩:=gi;simp only;have j:bJ (3*id+1)=σ (3*id+1):=by
     unfold J0 at i;split at i
     ·rename_i o k b;simp only[aS,gj]at i;obtain⟨rfl,rfl⟩:=i;obtain⟨t,a,l⟩:=amo b;exact p x (by simp) t a _ _ _ l
     ·simp at i
    have m:nO tb Γ gs bJ s Ts=nO tb Γ gs σ s Ts:=Jh fun y d=>h y (by simp[d]);have n:Jj tb Γ gs dst bJ r ti f s Ts g id=Jj tb Γ gs dst σ r ti f s Ts g id:=by unfold Jj;rw[j,m]
    rw[j,n];have e:nO tb Γ [] bJ s Ts=nO tb Γ [] σ s Ts:=Jh fun y d=>h y (by simp[d]);rw[e]
def azJ{u:TI}{s x:Option ST}(h:∀gs g e,s=some (.v gs (.own g) e)->bJ (3*g+2)=σ (3*g+2)):Jg tb Γ gs dst bJ g ti u s x=Jg tb Γ gs dst σ g ti u s x:=by
 unfold Jg;cases gs with
 |cons _ _=>rfl
 |nil=>
  cases f:fT [] s with
  |none=>rfl
  |some i=>
   obtain⟨k,e⟩:=i;obtain⟨t,p,j,l⟩:=ad7 f;have m:∀a,k=.own a->bJ (3*a+2)=σ (3*a+2):=by rintro a rfl;rcases Aq l with⟨q,r,v,rfl,_,b⟩|⟨_,_,_,_,_,b⟩|⟨_,_,_,_,_,b⟩<;>cases b;exact h _ _ _ j
   rcases ti.vt with (⟨_|_|_|n⟩|_)|_<;>try rfl
   rcases u.vt with (⟨_|_|_|o⟩|_)|_<;>try rfl
   simp only;cases fT [] x with
   |none=>rfl
   |some d=>
    obtain⟨w,y⟩:=d;cases tb.get n with
    |none=>rfl
    |some z=>
     simp only;cases k with
     |own a=>simp only[m a rfl]
     |_=>rfl
def azI{u:TI}{s x:Option ST}(h:∀gs g e,s=some (.v gs (.own g) e)->bJ (3*g+2)=σ (3*g+2))(a:∀d g v n i off l,x=some (.iv d g v n i off l)->bJ (3*g+2)=σ (3*g+2)):Jf tb Γ gs dst bJ g ti u s x=Jf tb Γ gs dst σ g ti u s x:=by
 unfold Jf;split
 ·unfold TJ;rw[a _ _ _ _ _ _ _ rfl]
 ·exact azJ h
def azO{x:Option ST}{lo i:Option (Option ST)}(h:∀gs g e,x=some (.v gs (.own g) e)->bJ (3*g+2)=σ (3*g+2)):Jo tb Γ gs dst bJ g ti x lo i=Jo tb Γ gs dst σ g ti x lo i:=by
 unfold Jo;split
 ·unfold TP;rw[h _ _ _ rfl]
 ·rfl
def air{tab:Nat->List CT}:∀{xs:List Operand} {i:List Nat} {e:E},(∀x∈xs,∀t,x=.tmp t->bJ (3*t)=σ (3*t))->(∀x∈xs,∀t,x=.tmp t->∀g id off,σ (3*t)=.ptr g id off->bJ (3*id+1)=σ (3*id+1))->Bh tab Γ bJ xs i e=Bh tab Γ σ xs i e
 |[],_,_,_,_=>rfl
 |.tmp t::r,i,e,h,p=>by
  simp only[Bh];rw[h (.tmp t) (by simp) t rfl];split
  ·rename_i id s;rw[p (.tmp t) (by simp) t rfl _ _ _ s];split
   ·split
    ·exact air (fun x hx=>h x (by simp[hx])) fun x hx=>p x (by simp[hx])
    ·rfl
   ·rfl
  ·rfl
 |.const _::_,_,_,_,_=>rfl
 |.global _::_,_,_,_,_=>rfl
 |.func _::_,_,_,_,_=>rfl
def azN{tab:Nat->List CT}{f:Nat}{first xs:List Operand}(h:∀x∈xs,∀t,x=.tmp t->bJ (3*t)=σ (3*t))(p:∀x∈xs,∀t,x=.tmp t->∀g id off,σ (3*t)=.ptr g id off->bJ (3*id+1)=σ (3*id+1)):Jn tab Γ gs dst bJ f first xs=Jn tab Γ gs dst σ f first xs:=by unfold Jn;rw[air h p]
def aE8{cx:Cx}(h:Alike ops o σ bJ):yP cx ops Γ g o bJ=yP cx ops Γ g o σ:=by
 have a:∀(T:Nat) (x:Operand),x∈o.op.operands.toList->aY cx.tb bJ T x=aY cx.tb σ T x:=fun T x q=>OP fun t u=>h.t t (uD q u);have M:looks o.op=true->∀(T:Nat) (x:Operand),x∈o.op.operands.toList->∀g id off,aY cx.tb σ T x=some (.ptr g id off)->bJ (3*id+1)=σ (3*id+1):=fun F T x q g id off k=>by obtain⟨t,u,G⟩:=amo k;exact h.p F t (uD q u) _ _ _ G
 have X:looks o.op=true->∀(T:Nat) (x:Operand),x∈o.op.operands.toList->∀B g C n i off l,aY cx.tb σ T x=some (.iv B g C n i off l)->bJ (3*g+2)=σ (3*g+2):=fun F T x q B g C n i off l k=>by obtain⟨t,u,G⟩:=aFa k;exact h.iv F t (uD q u) _ _ _ _ _ _ _ G
 have N:looks o.op=true->∀(T:Nat) (x:Operand),x∈o.op.operands.toList->∀B g C n i off j m J,aY cx.tb σ T x=some (.ip B g C n i off j m J)->bJ (3*g+2)=σ (3*g+2):=fun F T x q B g C n i off j m J k=>by obtain⟨t,u,G⟩:=aE9 k;exact h.ip F t (uD q u) _ _ _ _ _ _ _ _ _ G
 have O:looks o.op=true->∀(T:Nat) (x:Operand),x∈o.op.operands.toList->∀L g n i off,aY cx.tb σ T x=some (.mp L g n i off)->bJ (3*g+2)=σ (3*g+2):=fun F T x q L g n i off k=>by obtain⟨t,u,G⟩:=aFb k;exact h.m F t (uD q u) _ _ _ _ _ G
 have H:looks o.op=true->∀(T:Nat) (x:Operand),x∈o.op.operands.toList->∀gs g e,aY cx.tb σ T x=some (.v gs (.own g) e)->bJ (3*g+2)=σ (3*g+2):=fun F T x q gs g e k=>by obtain⟨t,u,G⟩:=aFc k;exact h.r F t (uD q u) _ _ _ G
 unfold yP;rw[aAr h];cases d:zQ cx.tb.tab Γ ops σ o with
 |none=>rfl
 |some gs=>
  simp only;congr 1;cases d:o.op with
  |move x=>simp only;rw[a _ x (by simp[d,Op.operands])]
  |assign x=>simp only;rw[a _ x (by simp[d,Op.operands])]
  |load T x=>
   simp only;cases cx.tb.get T with
   |none=>rfl
   |some A=>simp only;exact azL (a _ x (by simp[d,Op.operands])) (fun g id off k=>M (by rw[d];rfl) 0 x (by simp[d,Op.operands]) g id off k) (fun L g n i off k=>O (by rw[d];rfl) 0 x (by simp[d,Op.operands]) L g n i off k) fun B g C n i off j m J k=>N (by rw[d];rfl) 0 x (by simp[d,Op.operands]) B g C n i off j m J k
  |store T y x=>
   simp only;rw[a _ y (by simp[d,Op.operands]),a _ x (by simp[d,Op.operands])];cases cx.tb.get T with
   |none=>rfl
   |some A=>simp only;exact azP (fun L g n i off k=>O (by rw[d];rfl) 0 y (by simp[d,Op.operands]) L g n i off k) (fun B g C n i off j m J k=>N (by rw[d];rfl) 0 y (by simp[d,Op.operands]) B g C n i off j m J k) (fun gs g e k=>H (by rw[d];rfl) T x (by simp[d,Op.operands]) gs g e k) (azQ fun g id off k=>M (by rw[d];rfl) 0 y (by simp[d,Op.operands]) g id off k)
  |fieldAddr T x f=>simp only;rw[a _ x (by simp[d,Op.operands])]
  |indexAddr T x i=>
   have q:=a T x (by simp[d,Op.operands]);have Q:=a 0 i (by simp[d,Op.operands]);have j:∀A,Jk cx.tb Γ gs o.dst bJ A T x i=Jk cx.tb Γ gs o.dst σ A T x i:=by intro A;cases x<;>simp only[Jk,q,Q]
   simp only[j]
  |index T x i=>simp only;rw[a _ x (by simp[d,Op.operands]),a _ i (by simp[d,Op.operands])]
  |box T x=>simp only;rw[a _ x (by simp[d,Op.operands])]
  |makeSlice T l j=>simp only;rw[a _ l (by simp[d,Op.operands]),a _ j (by simp[d,Op.operands])]
  |build T parts=>
   simp only;cases cx.tb.get T with
   |none=>rfl
   |some A=>
    simp only;unfold TK;cases A.vt with
    |aU _=>rfl
    |one v=>
     cases v with
     |c _=>rfl
     |agg j=>simp only;rw[ais fun p Y t u=>h.t t (uD (x:=p.2) (by simp only[d,Op.operands,fJ];exact⟨p,Y,rfl⟩) u)]
  |buildSlice T len parts=>
   simp only;cases cx.tb.get T with
   |none=>rfl
   |some A=>
    simp only;have Z:∀I V,r9 cx.tb Γ I bJ V 0 parts.toList (.jf V)=r9 cx.tb Γ I σ V 0 parts.toList (.jf V):=fun I V=>
     ait fun p Y t u=>h.t t (uD (x:=p.2) (by simp only[d,Op.operands,fJ];exact⟨p,Y,rfl⟩) u)
    unfold TM TL;simp only[Z]
  |slice T x j Q p=>
   cases p with
   |some _=>rfl
   |none=>
    simp only;rw[a _ x (by simp[d,Op.operands])];have p:j.map (aY cx.tb bJ 0)=j.map (aY cx.tb σ 0):=by
     cases j with
     |none=>rfl
     |some y=>simp only[j6];rw[a _ y (by simp[d,Op.operands])]
    have j:Q.map (aY cx.tb bJ 0)=Q.map (aY cx.tb σ 0):=by
     cases Q with
     |none=>rfl
     |some y=>simp only[j6];rw[a _ y (by simp[d,Op.operands])]
    rw[p,j];cases cx.tb.get T with
    |none=>rfl
    |some A=>exact azO fun gs g e k=>H (by rw[d];rfl) T x (by simp[d,Op.operands]) gs g e k
  |convert S T x=>simp only;rw[a _ x (by simp[d,Op.operands])]
  |extract x i=>simp only;rw[a _ x (by simp[d,Op.operands])]
  |unOp op T x=> cases op<;>first|rfl|(simp only;rw[a _ x (by simp[d,Op.operands])])
  |pick x y z=>simp only;rw[a _ x (by simp[d,Op.operands]),a _ y (by simp[d,Op.operands]),a _ z (by simp[d,Op.operands])]
  |makeFunc fn first W=>
   cases fn with
   |func f=>
    simp only;have j:∀x∈W.toList,x∈o.op.operands.toList:=fun x q=>by rw[d];simp only[Op.operands,Array.toList_append,iJ];exact .inr q
    exact azN (fun x q t u=>h.t t (uD (j x q) u)) fun x q t u g id off k=>h.p (by rw[d];rfl) t (uD (j x q) u) _ _ _ k
   |_=>rfl
  |nilCheck x=>simp only;rw[a _ x (by simp[d,Op.operands])]
  |binOp op T x y j=>simp only;rw[a _ x (by simp[d,Op.operands]),a _ y (by simp[d,Op.operands])]
  |call j=>
   have s:∀x∈j.args.toList,x∈o.op.operands.toList:=fun x q=>by rw[d];simp only[Op.operands,Call.operands];cases j.callee<;>simp<;>first|exact .inr (by simpa using q)|(simpa using q)
   simp only;cases p:j.callee with
   |invoke r m=>rfl
   |value f=>
    cases f with
    |func f=>
     simp only;cases cx.tb.get o.type with
     |none=>rfl
     |some A=>
      simp only;cases ala A with
      |some j=>simp only;unfold eNew;rw[Jh fun x q t u=>h.t t (uD (s x q) u)]
      |none=>exact azK (fun x q t u=>h.t t (uD (s x q) u)) (fun x q t u g id off k=>h.p (by rw[d];rfl) t (uD (s x q) u) _ _ _ k)
    |tmp t=>
     simp only;have q:aY cx.tb bJ 0 (.tmp t)=aY cx.tb σ 0 (.tmp t):=a 0 (.tmp t) (by simp[d,Op.operands,Call.operands,p]);rw[q];cases cx.tb.get o.type with
     |none=>rfl
     |some A=>simp only;unfold TN;rw[Jh fun x q t u=>h.t t (uD (s x q) u)]
    |_=>rfl
   |builtin b=>
    cases b with
    |len=>
     simp only;split
     ·rename_i x T w j;rw[a _ x (s x (by rw[w];simp))]
     ·rfl
    |append=>
     simp only;split
     ·rename_i x y T U w j;rw[a _ x (s x (by rw[w];simp)),a _ y (s y (by rw[w];simp))];split
      ·exact azI (fun gs g e k=>H (by rw[d];rfl) T x (s x (by rw[w];simp)) gs g e k) fun B g C n i off l k=>X (by rw[d];rfl) U y (s y (by rw[w];simp)) B g C n i off l k
      ·rfl
     ·rfl
    |_=>rfl
  |_=>rfl
end
def xd(o:Oper):List Nat:=(o.after.toList.filter (Region.binds .any ·)).map (·.on)
def agT:List Nat->List Nat->List Nat
 |[],l=>l
 |m::r,l=>agT r (bif l.contains m then l else m::l)
def Tb:List Oper->List (List Nat)->List (List Nat)
 |[],a=>a
 |o::r,a=>Tb r (a++[agT ((xd o).flatMap fun m=>m::a.getD m []) []])
def FJ(l:List Oper)(B:List (List Nat)):Bool :=
 (List.range l.length).all fun j=>match l[j]? with
  |some o=>(xd o).all (fun m=>Nat.blt m j)&&(B.getD j []).all fun i=>(xd o).contains i||(xd o).any fun m=>(B.getD m []).contains i
  |none=>true
def infos(ops:Array Oper):List Oper->List bq->SS->List (List Nat×List Nat)
 |o::r,e::es,s=>(readsOf ops s.σ.get o,e.wr.map (·.1))::infos ops r es (s.step e)
 |_,_,_=>[]
def FG(a b:List Nat):Bool:=a.all fun x=> !b.contains x
def amF(B:List (List Nat))(I:List (List Nat×List Nat)):Bool :=
 (List.range I.length).all fun j=>(List.range j).all fun i=>(B.getD j []).contains i ||
  (FG (I.getD i ([],[])).2 (I.getD j ([],[])).1&&FG (I.getD i ([],[])).1 (I.getD j ([],[])).2&&FG (I.getD i ([],[])).2 (I.getD j ([],[])).2)
def TH(ops:Array Oper)(es:List bq)(s:SS):Bool :=
 FJ ops.toList (Tb ops.toList [])&&amF (Tb ops.toList []) (infos ops ops.toList es s)
def j7(S:Nat->Prop)[DecidablePred S]:Nat->List bq->(Nat->ST)->Nat->ST
 |_,[],σ=>σ
 |k,e::r,σ=>j7 S (k+1) r (if S k then dq σ e.wr else σ)
def HU(e:bq):List Nat:=e.wr.map (·.1)
def KE:∀{wr:List (Nat×ST)} {σ:Nat->ST} {x:Nat},x∉wr.map (·.1)->dq σ wr x=σ x
 |[],_,_,_=>rfl
 |(l,s)::r,σ,x,h=>by simp only[jA,fI,not_or]at h;show dq (aW σ l s) r x=_;rw[KE h.2,fZ _ _ h.1]
def ad8:∀{wr:List (Nat×ST)} {σ bJ:Nat->ST} {x:Nat},x∈wr.map (·.1)->dq σ wr x=dq bJ wr x
 |[],_,_,_,h=>by simp at h
 |(l,s)::r,σ,bJ,x,h=>by
  show dq (aW σ l s) r x=dq (aW bJ l s) r x;by_cases a:x∈r.map (·.1)
  ·exact ad8 a
  ·rw[KE a,KE a];simp only[jA,fI]at h;have:x=l:=h.resolve_right a;subst this;rw[cH,cH]
def Mw{S T:Nat->Prop}[DecidablePred S][DecidablePred T]{x:Nat}:∀{es:List bq} {k:Nat} {σ bJ:Nat->ST},(∀i e,es[i]? =some e->x∈HU e->(S (k+i)↔T (k+i)))->σ x=bJ x->j7 S k es σ x=j7 T k es bJ x
 |[],k,σ,bJ,_,h=>h
 |e::r,k,σ,bJ,h,hx=>by
  unfold j7;refine Mw (fun i b d w=>by have:=h (i+1) b (by simpa using d) w;rwa[show k+(i+1)=k+1+i by omega]at this) ?_;by_cases w:x∈HU e
  ·have a:=h 0 e rfl w;rw[rT]at a;by_cases s:S k
   ·rw[aC s,aC (a.1 s)];exact ad8 w
   ·rw[aw s,aw (fun t=>s (a.2 t))];exact hx
  ·have f:(if S k then dq σ e.wr else σ) x=σ x:=by split<;>first|exact KE w|rfl
   have g:(if T k then dq bJ e.wr else bJ) x=bJ x:=by split<;>first|exact KE w|rfl
   rw[f,g,hx]
def SW{S:Nat->Prop}[DecidablePred S]:∀{es:List bq} {k:Nat} {σ:Nat->ST},(∀i,k<=i->¬S i)->j7 S k es σ=σ
 |[],_,_,_=>rfl
 |e::r,k,σ,h=>by unfold j7;rw[aw (h k (bM _))];exact SW fun i a=>h i (by omega)
def ag7{S:Nat->Prop}[DecidablePred S]{x:Nat}:∀{es:List bq} {k j:Nat} {σ:Nat->ST} {e:bq},es[j]? =some e->S (k+j)->x∈HU e->(∀i a,es[i]? =some a->j<i->x∈HU a->¬S (k+i))->∀b,j7 S k es σ x=dq b e.wr x
 |[],k,j,σ,e,h,_,_,_,_=>by simp at h
 |d::r,k,0,σ,e,h,g,hx,l,b=>by
  simp at h;subst h;unfold j7;rw[aC (by simpa using g)];have:j7 S (k+1) r (dq σ d.wr) x=j7 (fun _=>False) (k+1) r (dq σ d.wr) x:=Mw (fun i a f w=>by have:=l (i+1) a (by simpa using f) (by omega) w;rw[show k+(i+1)=k+1+i by omega]at this;exact⟨fun h=>this h,fun h=>h.elim⟩) rfl
  rw[this,SW (fun _ _ h=>h)];exact ad8 hx
 |d::r,k,j+1,σ,e,h,g,hx,l,b=>by
  unfold j7;exact ag7 (k:=k+1) (j:=j) (by simpa using h) (by rwa[show k+1+j=k+(j+1) by omega]) hx (fun i a f m w=>by
   have:=l (i+1) a (by simpa using f) (by omega) w
   rwa[show k+(i+1)=k+1+i by omega]at this) b
def aai{a b:List Nat}(h:FG a b=true){x:Nat}(ha:x∈a)(hb:x∈b):False:=by have:=fH.1 h x ha;simp at this;exact this hb
section
variable {P:Program}{c:SC}{cx:Cx}{ops:Array Oper}
def anb{S0:Nat}:∀{l:List Oper} {a:SS} {es:List bq} {s:SS} {k:Nat},oW cx ops l a=some (es,s)->bV cx.tb.tab s.Γ c.env->AY P c.env a.Γ.length es->es.length=l.length/\s.σ.get=j7 (fun _=>True) k es a.σ.get/\(infos ops l es a).length=l.length /\
  ∀j o,l[j]? =some o->∃b e,es[j]? =some e/\bV cx.tb.tab b c.env/\yP cx ops b (a.nt+qH*j) o (j7 (fun i=>i<k+j) k es a.σ.get)=some e/\(∀q∈e.rq,jL P c.env b.length q) /\
   (infos ops l es a)[j]? =some (readsOf ops (j7 (fun i=>i<k+j) k es a.σ.get) o,HU e)
 |[],a,es,s,k,h,d,t=>by simp[oW]at h;obtain⟨rfl,rfl⟩:=h;exact⟨rfl,rfl,rfl,fun j o m=>by simp at m⟩
 |o::r,a,es,s,k,h,d,t=>by
  simp only[oW]at h;split at h
  ·simp at h
  ·rename_i e u;split at h
   ·simp at h
   ·rename_i f J g;simp only[aS,gj]at h;obtain⟨rfl,rfl⟩:=h;obtain⟨L,v,M,_⟩:=GZ g;have n:bV cx.tb.tab a.Γ c.env:=by rw[v]at d;simp only[SS.step,iY]at d;exact d.Ue
    obtain⟨w,x,y,z⟩:=anb (S0:=S0) (k:=k+1) g d (by simpa[SS.step]using t.2);refine⟨by simp[w],?_,by simp[infos,y],fun j A m=> ?_⟩
    ·rw[x,Pn];show _=j7 (fun _=>True) (k+1) f (if True then dq a.σ.get e.wr else a.σ.get);rw[aC trivial]
    ·cases j with
     |zero=>
      simp at m;subst m;have p:j7 (fun i=>i<k+0) k (e::f) a.σ.get=a.σ.get:=SW fun i N=>by omega
      refine⟨a.Γ,e,rfl,n,by rw[p];exact u,t.1,by rw[p];rfl⟩
     |succ j=>
      simp at m;obtain⟨b,B,C,F,G,H,I⟩:=z j A m;have p:j7 (fun i=>i<k+(j+1)) k (e::f) a.σ.get=j7 (fun i=>i<k+1+j) (k+1) f (a.step e).σ.get:=by
       rw[Pn];show j7 (fun i=>i<k+(j+1)) (k+1) f (if k<k+(j+1)then dq a.σ.get e.wr else a.σ.get)=_;rw[aC (by omega)];have:(fun i=>i<k+(j+1))=fun i=>i<k+1+j:=by funext i;apply propext;omega
       congr 1
      refine⟨b,B,by simpa using C,F,?_,H,?_⟩
      ·rw[p];have:a.nt+qH*(j+1)=(a.step e).nt+qH*j:=by simp only[SS.step,Nat.mul_add];omega
       rw[this];exact G
      ·rw[p];simpa[infos]using I
def adm{j:Nat}(s:listed.size=ops.size):j∈Region.ready .any ops listed↔listed.getD j true=false/\∃o,ops[j]? =some o/\∀m∈xd o,listed.getD m false=true:=by
 unfold Region.ready xd;simp only[tY,oF,aX,qi];constructor
 ·rintro⟨h,a,b⟩;refine⟨a,ops[j],by simp[h],fun m g=> ?_⟩;simp only[Ir h,j6,j0,Q6]at b;simp only[fJ,tY]at g;obtain⟨e,⟨d,f⟩,rfl⟩:=g;have:=b e (by simpa using d);rw[f]at this;simpa using this
 ·rintro⟨h,o,a,b⟩;have l:j<ops.size:=(rS.1 a).1;refine⟨l,h,?_⟩;simp only[a,j6,j0,Q6];intro e d;cases f:Region.binds .any e with
  |false=>simp
  |true=> have:=b e.on (by simp only[fJ,tY];exact⟨e,⟨by simpa using d,f⟩,rfl⟩);simp[this]
def left(listed:Array Bool):Nat->Nat
 |0=>0
 |n+1=>left listed n+if listed.getD n true=false then 1 else 0
def alF{listed:Array Bool}:∀{n:Nat},left listed n=0->∀j,j<n->listed.getD j true=true
 |0,_,j,a=>absurd a (by omega)
 |n+1,h,j,a=>by
  simp only[left]at h;by_cases e:j=n
  ·subst e;cases hb:listed.getD j true with
   |true=>rfl
   |false=>rw[hb]at h;simp at h
  ·exact alF (n:=n) (by omega) j (by omega)
def aaV{i j:Nat}{d:Bool}(a:i<listed.size):(listed.setIfInBounds i true).getD j d=if j=i then true else listed.getD j d:=by
 simp only[sX,C5];by_cases h:j=i
 ·subst h;simp[a]
 ·simp[h,ye h]
def alE{listed:Array Bool}{i:Nat}(a:i<listed.size)(f:listed.getD i true=false):∀{n:Nat},left (listed.setIfInBounds i true) n+(if i<n then 1 else 0)=left listed n
 |0=>rfl
 |n+1=>by
  have ih:=alE a f (n:=n);simp only[left,aaV a];by_cases e:n=i
  ·subst e;simp only[f,ue];simp at ih;simp[ih]
  ·have b:(if i<n then 1 else 0)=(if i<n+1 then 1 else 0:Nat):=by
    by_cases h:i<n
    ·rw[aC h,aC (show i<n+1 by omega)]
    ·rw[aw h,aw (show ¬i<n+1 by omega)]
   simp only[aw e];rw[<-b];omega
def dn(listed:Array Bool):Nat->Prop:=fun i=>listed.getD i false=true
instance (listed:Array Bool):DecidablePred (dn listed):=fun i=>inferInstanceAs (Decidable (_=_))
def aod(nt:Nat)(listed:Array Bool):Nat->Prop:=fun x=>x<nt\/∃j,dn listed j/\ji (nt+qH*j) x
def ZA{l:List Oper}{B:List (List Nat)}(e:FJ l B=true){S:Nat->Prop}(g:∀j o,S j->l[j]? =some o->∀m∈xd o,S m):∀(n j:Nat),j<n->S j->∀i∈B.getD j [],j<l.length->S i
 |0,j,h,_,_,_,_=>absurd h (by omega)
 |n+1,j,r,p,i,q,k=>by
  unfold FJ at e;have h1:=fH.1 e j (by simpa using k);have b:l[j]? =some l[j]:=bX k;rw[b]at h1;simp only[aX,fH,jM,uW]at h1;have d:∀m∈xd l[j],S m/\m<j:=fun m a=>⟨g j _ p b m a,gT (h1.1 m a)⟩;rcases h1.2 i q with h|⟨m,a,f⟩
  ·exact(d i (by simpa using h)).1
  ·exact ZA (by unfold FJ;exact e) g n m (by have:=(d m a).2;omega) (d m a).1 i (by simpa using f) (by have:=(d m a).2;omega)
def axu{l:List Oper}{B:List (List Nat)}(b:FJ l B=true){S:Nat->Prop}(g:∀j o,S j->l[j]? =some o->∀m∈xd o,S m){j:Nat}{o:Oper}(ho:l[j]? =some o)(r:∀m∈xd o,S m):∀i∈B.getD j [],S i:=by
 intro i k;have n:j<l.length:=(dh.1 ho).1;have d:=b;unfold FJ at b;have a:=fH.1 b j (by simpa using n);rw[ho]at a;simp only[aX,fH,jM,uW]at a;rcases a.2 i k with h|⟨m,f,e⟩
 ·exact r i (by simpa using h)
 ·have p:m<j:=gT (a.1 m f);exact ZA d g (m+1) m (by omega) (r m f) i (by simpa using e) (by omega)
def aFV(aE:cX P cx.tb cx.tb=true)(hnt:c.nt=cx.nt)(hm:P.follows .mixedOrders=true){Q:Exit->Act->World->Prop}{id:Nat}{g s:SS}{es:List bq}(h:oW cx ops ops.toList g=some (es,s))(Y:TH ops es g=true)(ax:bV cx.tb.tab s.Γ c.env)(hr:AY P c.env g.Γ.length es)
  {A:Nat->Nat} {tm:Nat->Value} {a:Act} {w:World} (hQ:∀Z tm' a' w',aN c (below s.nt) s.σ.get Z tm' a' w'->Q .normal a' w') (hs:aN c (below g.nt) g.σ.get A tm a w):(Code.region id ops true).wp P Q a w:=by
 unfold TH at Y;simp only[aX]at Y;obtain⟨L,d⟩:=Y;generalize f:Tb ops.toList []=B at L d;obtain⟨T,l,o,S⟩:=anb (S0:=0) (k:=0) h ax hr;obtain⟨_,_,r,_⟩:=GZ h;have p:∀i j,i<j->j<ops.size->i∉B.getD j []->∀a b,(infos ops ops.toList es g)[i]? =some a->(infos ops ops.toList es g)[j]? =some b->FG a.2 b.1=true/\FG a.1 b.2=true/\FG a.2 b.2=true:=by
  intro i j t C u x y f v;unfold amF at d;have k:=fH.1 d j (by simpa[o]using C);have F:=fH.1 k i (by simpa using t);simp only[jM,aX,List.getD,f,v,j0]at F;rcases F with F|F
  ·exact absurd (by simpa[List.getD]using F) u
  ·exact⟨F.1.1,F.1.2,F.2⟩
 refine wp_region_any hm ?_;have key:∀(u:Nat) (listed:Array Bool) (A:Nat->Nat) (tm:Nat->Value) (a:Act) (w:World),listed.size=ops.size->(∀j o,dn listed j->ops[j]? =some o->∀m∈xd o,dn listed m)->left listed ops.size<=u ->
   aN c (aod g.nt listed) (j7 (dn listed) 0 es g.σ.get) A tm a w->wpAny P .any ops Q u listed a w:=by
  have G:∀(listed:Array Bool) (A:Nat->Nat) (tm:Nat->Value) (a:Act) (w:World),listed.size=ops.size->(∀j,j<ops.size->listed.getD j true=true)->aN c (aod g.nt listed) (j7 (dn listed) 0 es g.σ.get) A tm a w->Q .normal a w:=by
   intro listed A tm a w z t hS;have N:∀j,dn listed j↔j<ops.size:=fun j=>by
    unfold dn;constructor
    ·intro h;rcases dP j ops.size with d|d
     ·exact d
     ·simp[sX,E5 (show listed.size<=j by omega)]at h
    ·intro h;have:=t j h;simp only[sX,Ir (show j<listed.size by omega),j0]at this ⊢;exact this
   refine hQ A tm a w ?_;have he:j7 (dn listed) 0 es g.σ.get=s.σ.get:=by rw[l];funext x;refine Mw (fun i e d _=> ?_) rfl;have:i<es.length:=(dh.1 d).1;rw[T,uV]at this;rw[nJ];exact⟨fun _=>trivial,fun _=>(N i).2 this⟩
   rw[<-he];refine hS.mono fun x f=> ?_;unfold below;rw[r,uV];rcases f with f|⟨j,C,f⟩
   ·omega
   ·have:=(N j).1 C;have:=f.2;simp only[qH]at *;omega
  have O:∀(listed:Array Bool),listed.size=ops.size->Region.ready .any ops listed=[]->∀j,j<ops.size->listed.getD j true=true:=by
   intro listed z H j;induction j using Nat.strongRecOn with
   |_ j ih=>
    intro C;cases hb:listed.getD j true with
    |true=>rfl
    |false=>
     exfalso;have l:ops[j]? =some ops[j]:=Ir C;have:j∈Region.ready .any ops listed:=(adm z).2 ⟨hb,ops[j],l,fun m hm=>by
      unfold FJ at L;have k:=fH.1 L j (by simpa using C);have r:ops.toList[j]? =some ops[j]:=by simp[l]
      rw[r]at k;simp only[aX,fH]at k;have l:m<j:=gT (k.1 m hm);have:=ih m l (by omega);simp only[sX,Ir (show m<listed.size by omega),j0]at this ⊢;exact this⟩
     rw[H]at this;simp at this
  intro u;induction u with
  |zero=>
   intro listed A tm a w z v l hS;have t:=alF (Nat.le_zero.1 l);refine⟨?_,G listed A tm a w z t hS⟩;cases hr:Region.ready .any ops listed with
   |nil=>rfl
   |cons j _=>
    have C:j∈Region.ready .any ops listed:=by rw[hr];simp
    obtain⟨k,o,F,_⟩:=(adm z).1 C;have:=t j (rS.1 F).1;rw[k]at this;cases this
  |succ u ih=>
   intro listed A tm a w z v l hS;refine⟨fun H=>G listed A tm a w z (O listed z H) hS,fun j C=> ?_⟩;obtain⟨O,o,ho,U⟩:=(adm z).1 C;have V:j<ops.size:=(rS.1 ho).1;have I:¬dn listed j:=fun h=>by unfold dn at h;simp only[sX,Ir (show j<listed.size by omega),j0]at h O;rw[h]at O;cases O
   have k:ops.toList[j]? =some o:=by simp[ho]
   obtain⟨HY,e,he,G,H,yE,r⟩:=S j o k;have W:∀i o,dn listed i->ops.toList[i]? =some o->∀m∈xd o,dn listed m:=fun i o d t=>v i o d (by simpa using t);have u:∀i∈B.getD j [],dn listed i:=axu L W k U;have J:∀i,dn listed i->i<ops.size->j∉B.getD i []:=fun i d l k=>I (ZA L W (i+1) i (by omega) d j k (by simpa using l));have L:∀i k,es[i]? =some k->i<ops.size:=fun i k d=>by
    have:i<es.length:=(dh.1 d).1
    rwa[T,uV]at this
   have M:∀i k,es[i]? =some k->∃rd,(infos ops ops.toList es g)[i]? =some (rd,HU k):=fun i k d=>by have l:=L i k d;obtain⟨_,W,F,_,_,_,T⟩:=S i ops[i] (by simp[l]);rw[F]at d;simp at d;subst d;exact⟨_,T⟩
   have F:Alike ops o (j7 (fun i=>i<0+j) 0 es g.σ.get) (j7 (dn listed) 0 es g.σ.get):=avn fun x f=>by
    refine Mw (fun i k d X=> ?_) rfl;have l:=L i k d;obtain⟨rd,S⟩:=M i k d;simp only[nJ];constructor
    ·intro N;rcases E8 i j with h|h|h
     ·exact h
     ·subst h;exact absurd N I
     ·obtain⟨_,q,_⟩:=p j i h l (J i N l) _ _ r S;exact absurd X (fun X=>aai q f X)
    ·intro N;by_cases hb:i∈B.getD j []
     ·exact u i hb
     ·obtain⟨q,_,_⟩:=p i j N V hb _ _ S r;exact(aai q X f).elim
   have u:yP cx ops HY (g.nt+qH*j) o (j7 (dn listed) 0 es g.σ.get)=some e:=by rw[aE8 F];exact H
   have F:j<listed.size:=by omega
   refine Yl aE hnt hS G (g:=g.nt+qH*j) ?_ ho u yE fun Z tm' a' w' G=> ?_
   ·rintro x u (h|⟨i,d,h⟩)
    ·have:=u.1;omega
    ·have:i=j:=by have q1:=u.1;have q2:=u.2;have q3:=h.1;have q4:=h.2;simp only[qH]at *;omega
     subst this;exact I d
   ·refine ih (listed.setIfInBounds j true) Z tm' a' w' (by simpa using z) ?_ ?_ ?_
    ·intro i z d t m u;unfold dn at *;rw[aaV F]at d ⊢;split at d
     ·rename_i k;subst k;rw[ho]at t;simp at t;subst t;have:=U m u;split
      ·rfl
      ·exact this
     ·have:=v i z d t m u;split
      ·rfl
      ·exact this
    ·have:=alE F O (n:=ops.size);rw[aC V]at this;omega
    ·have v:∀i,dn (listed.setIfInBounds j true) i↔(i=j\/dn listed i):=fun i=>by
      unfold dn;rw[aaV F];split
      ·rename_i k;exact⟨fun _=>.inl k,fun _=>rfl⟩
      ·rename_i k;exact⟨.inr,fun h=>h.resolve_left k⟩
     have t:j7 (dn (listed.setIfInBounds j true)) 0 es g.σ.get=dq (j7 (dn listed) 0 es g.σ.get) e.wr:=by
      funext x;by_cases f:x∈HU e
      ·refine ag7 (j:=j) he (by rw[nJ];exact(v j).2 (.inl rfl)) f (fun i k d u X N=> ?_) _;rw[nJ]at N;have l:=L i k d;obtain⟨rd,S⟩:=M i k d;have z:=((v i).1 N).resolve_left (by omega);obtain⟨_,_,q⟩:=p j i u l (J i z l) _ _ r S;exact aai q f X
      ·rw[KE f];refine Mw (fun i k d X=> ?_) rfl;rw[nJ];constructor
       ·intro h;refine((v i).1 h).resolve_left ?_;rintro rfl;rw[he]at d;simp at d;subst d;exact f X
       ·exact fun h=>(v i).2 (.inr h)
     rw[t];refine G.mono fun x f=> ?_;rcases f with (f|⟨i,d,f⟩)|f
     ·exact .inl f
     ·exact .inr ⟨i,(v i).2 (.inr d),f⟩
     ·exact .inr ⟨j,(v j).2 (.inl rfl),f⟩
 have d:∀j,¬dn (Array.replicate ops.size false) j:=fun j h=>by unfold dn at h;simp only[sX,Array.getElem?_replicate]at h;split at h<;>simp at h
 refine key ops.size (Array.replicate ops.size false) A tm a _ (by simp) (fun j o C=>absurd C (d j)) ?_ ?_
 ·have:∀n,left (Array.replicate ops.size false) n<=n:=fun n=>by
   induction n with
   |zero=>exact bM _
   |succ n ih=>simp only[left];split<;>omega
  exact this _
 ·have j:j7 (dn (Array.replicate ops.size false)) 0 es g.σ.get=g.σ.get:=SW fun i _=>d i;rw[j];refine aN.mono (F:=below g.nt) ?_ fun x f=>.inl f;exact hs.grow ((dQ _ _).drew)
end
def E.gr(n:Nat):E->Bool
 |.var i=>Nat.blt i n
 |.lb _|.li _ _|.ls _|.jf _|.E3|.zi|.fn0 _=>true
 |.ar _ _ x y|.ic _ x y|.sc _ x y|.tF x y|.uK x y|.bc x y|.ae x y|.an x y|.or x y|.row _ x y|.at x y|.cat x y|.bp x y|.app x y|.put x y|.bI x y|.few x y|.Kp _ x y|.FQ x y=>x.gr n&&y.gr n
 |.no x|.conv _ x|.len x|.I0 x|.cell x _|.sub x _ _|.proj x _|.aq x|.mem x|.rep _ _ x=>x.gr n
 |.ite x y z|.cut x y z|.inc x y z|.aW x y z _=>x.gr n&&y.gr n&&z.gr n
def agl{env more:List D}(a:n<=env.length):∀(e:E),e.gr n=true->e.den (env++more)=e.den env:=by
 intro e;induction e<;>intro h<;>simp only[E.gr,aX]at h<;>simp only[E.den]
 case var i=> have:i<env.length:=dS (gT h) a;simp[List.getD,mP this]
 all_goals simp_all
def vM(n:Nat)(gs:Gd):Bool:=gs.all fun x=>x.1.gr n
def pd(n:Nat):ST->Bool
 |.v gs _ e=>vM n gs&&e.gr n
 |.ptr gs _ _=>vM n gs
 |.ro gs e _=>vM n gs&&e.gr n
 |.gp gs _ x i=>vM n gs&&x.gr n&&i.gr n
 |.mp gs _ _ i _=>vM n gs&&i.gr n
 |.iv gs _ _ _ i _ l=>vM n gs&&i.gr n&&l.gr n
 |.ip gs _ _ _ i _ j _ _=>vM n gs&&i.gr n&&j.gr n
 |.box cs=>cs.all fun x=>x.2.gr n
 |.live m=>(match m.body with|some (e,_)=>e.gr n|none=>true)
 |_=>true
def J2(n:Nat):K->Bool
 |.own g=>Nat.blt g n
 |.ag ks=>ks.all fun k=>match k with|.own g=>Nat.blt g n|_=>true
 |_=>true
def rD(n:Nat):ST->Bool
 |.v _ k _=>J2 n k
 |.ptr _ id _=>Nat.blt id n
 |.mp _ g _ _ _=>Nat.blt g n
 |.iv _ g v _ _ _ _=>Nat.blt g n&&Nat.blt v n
 |.ip _ g v _ _ _ _ _ _=>Nat.blt g n&&Nat.blt v n
 |.live m=>(match m.body with|some (_,some (v,_))=>Nat.blt v n|_=>true)
 |.box cs=>cs.all fun x=>J2 n x.1
 |_=>true
inductive Slot where
 |t (t:Nat)|b (id j:Nat)|m (g:Nat)
 deriving DecidableEq
def Aj(σ:Nat->ST):Slot->Option (K×E)
 |.t t=>match σ (3*t)with|.v [] k e=>some (k,e)|_=>none
 |.b id j=>match σ (3*id+1)with|.box cs=>cs[j]? |_=>none
 |.m g=>match σ (3*g+2)with|.live ⟨_,some (e,_)⟩=>some (.d,e)|_=>none
structure Head where
 slots:List Slot
 ks:List K
 eJ:List VT
 hd:SS
def Gv(tab:Nat->List CT)(σ:Nat->ST)(ty:VT):K->K->Bool
 |.d,_=>true
 |.own _,.full=>(match ty with|.one (.c (.sl _))=>true|_=>false)
 |.own _,.own g=>(match ty with|.one (.c (.sl e))=>decide (σ (3*g+2)=.live ⟨(tab e).length,none⟩)|_=>false)
 |_,_=>false
def Cl(tab:Nat->List CT)(Γ:List VT)(σ:Nat->ST):List Slot->List K->List VT->Option (List (K×E))
 |[],[],[]=>some []
 |s::b,k::ks,ty::t=>match Aj σ s,Cl tab Γ σ b ks t with
  |some (a,e),some r=>bif decide (e.inf tab Γ=some ty)&&Gv tab σ ty k a then some ((a,e)::r)else none
  |_,_=>none
 |_,_,_=>none
def sN:List K->List (K×E)->List Nat
 |.own _::ks,(.own g,_)::r=>g::sN ks r
 |_::ks,_::r=>sN ks r
 |_,_=>[]
def GF:List Nat->Bool
 |[]=>true
 |x::r=> !r.contains x&&GF r
def BR(nt:Nat):Nat->List K->Bool
 |_,[]=>true
 |i,.d::r=>BR nt (i+1) r
 |i,.own g::r=>Nat.beq g (nt+i)&&BR nt (i+1) r
 |_,_::_=>false
def Ag(n nt:Nat)(σ:Nat->ST)(l:Nat)(h:ST):Bool:=decide (σ l=h)&&pd n h&&rD nt h
def TG(k:Nat):Option (Nat×List Nat)->Option (Nat×List Nat)->Bool
 |none,none=>true
 |some (g,s),some (_,m)=>Nat.beq g k&&decide (s=m)
 |_,_=>false
def mOk(n nt:Nat)(H:Head)(σ:Nat->ST)(l:Nat)(m:LV):Bool :=
 match m.body,σ l with
 |some (.var v,p),.live ⟨a,some (_,d)⟩=>Nat.ble n v&&decide (H.slots[v-n]? =some (.m (l/3)))&&Nat.beq a m.n&&TG (nt+(v-n)) p d
 |_,_=>false
def Bi(tab:Nat->List CT)(n nt:Nat)(H:Head)(σ:Nat->ST)(u:List Nat)(l:Nat)(h:ST):Bool :=
 match h with
 |.un=>true
 |.v [] k (.var v)=>(Nat.ble n v&&Nat.beq (l%3) 0&&decide (H.slots[v-n]? =some (.t (l/3)))&&decide (H.ks[v-n]? =some k))||Ag n nt σ l h
 |.box a=>Nat.beq (l%3) 1&&Nat.blt (l/3) nt&&(((match σ l with|.box s=>Nat.beq s.length a.length|_=>false)&&a.zipIdx.all fun x=>match x.1.2 with
  |.var v=>Nat.ble n v&&decide (H.slots[v-n]? =some (.b (l/3) x.2))&&decide (H.ks[v-n]? =some x.1.1)
  |_=>false)||Ag n nt σ l h)
 |.live m=>Nat.beq (l%3) 2&&((m.body.isNone&&Nat.ble nt (l/3)&&decide (H.ks[l/3-nt]? =some (.own (l/3)))&&(match H.eJ[l/3-nt]? with|some (.one (.c (.sl e)))=>Nat.beq m.n (tab e).length|_=>false))
  || (Nat.blt (l/3) nt&& !u.contains (l/3)&&(Ag n nt σ l h||mOk n nt H σ l m)))
 |_=>Ag n nt σ l h
def back(tab:Nat->List CT)(n nt:Nat)(H:Head)(s:SS):Option (List E) :=
 match Cl tab s.Γ s.σ.get H.slots H.ks H.eJ with
 |some v=>bif GF (sN H.ks v)&&BR nt 0 H.ks&&Nat.beq H.hd.nt (nt+H.slots.length)&&Nat.ble nt s.nt&&Nat.blt 0 nt&&H.hd.σ.all (fun x=>Bi tab n nt H s.σ.get (sN H.ks v) x.1 (H.hd.σ.get x.1))then some (v.map (·.2))else none
 |none=>none
def Kl:Code->Bool
 |.ret=>true
 |.seq a b=>OY a&&Kl b
 |.cond _ a b=>Kl a&&Kl b
 |_=>false
where OY:Code->Bool
 |.region _ _ _|.skip=>true
 |.seq a b=>OY a&&OY b
 |.cond _ a b=>(OY a||Kl a)&&(OY b||Kl b)
 |.ret=>true
 |_=>false
def opsOf:Code->List Oper
 |.region _ ops _=>ops.toList
 |.seq a b=>bif Kl (.seq a b)then []else opsOf a++opsOf b
 |.cond _ a b=>opsOf a++opsOf b
 |.block _ c|.loop c=>opsOf c
 |_=>[]
def DR(x:Nat):List Nat->Bool
 |[]=>false
 |y::r=>Nat.beq x y||DR x r
def axp(l:List Oper):List Nat:=l.filterMap (·.dst)
def rootOf(l:List Oper)(a:List Nat)(σ:Nat->ST):Nat->Nat->Option Nat
 |0,_=>none
 |f+1,t=>bif DR t a then
  match l.find? (fun o=>decide (o.dst=some t))with
  |some o=>match o.op with
   |.fieldAddr _ (.tmp u) _|.move (.tmp u)|.assign (.tmp u)|.nilCheck (.tmp u)=>rootOf l a σ f u
   |_=>none
  |none=>none
  else match σ (3*t)with
   |.ptr _ id _=>some id
   |_=>none
def ahm(l:List Oper)(a:List Nat)(σ:Nat->ST):List Oper->List Nat
 |[]=>[]
 |o::r=>
  let more:=ahm l a σ r
  let one (t:Nat):=match rootOf l a σ 20 t with|some id=>bif DR id more then more else id::more|none=>more
  match o.op with
  |.store _ (.tmp t) _=>one t
  |.call c=>match c.callee,c.args.toList with
   |.value (.func _),.tmp t::_=>one t
   |_,_=>more
  |_=>more
def dedup:List Nat->List Nat
 |[]=>[]
 |x::r=>bif DR x r then dedup r else x::dedup r
def adM(σ:Nat->ST):List Nat->List Slot
 |[]=>[]
 |t::r=>match σ (3*t)with
  |.v [] _ _=>.t t::adM σ r
  |_=>adM σ r
def adL(σ:Nat->ST):List Nat->List Slot
 |[]=>[]
 |id::r=>match σ (3*id+1)with
  |.box cs=>(List.range cs.length).map (.b id)++adL σ r
  |_=>adL σ r
def Uy(nt:Nat):Nat->List (K×E)->List K
 |_,[]=>[]
 |i,(.d,_)::r=>.d::Uy nt (i+1) r
 |i,(.ag _,_)::r=>.d::Uy nt (i+1) r
 |i,(_,_)::r=>.own (nt+i)::Uy nt (i+1) r
def aj2(tab:Nat->List CT)(Γ:List VT):List (K×E)->List VT
 |[]=>[]
 |(_,e)::r=>(e.inf tab Γ).getD (.aU [])::aj2 tab Γ r
def abu(n:Nat)(s:List Slot)(ks:List K)(σ:Nat->ST):List Nat->Sg
 |[]=>[]
 |id::r=>match σ (3*id+1)with
  |.box cs=>(3*id+1,.box ((List.range cs.length).map fun j=>match s.idxOf? (.b id j)with
   |some i=>(ks.getD i .d,.var (n+i))
   |none=>(.d,.E3)))::abu n s ks σ r
  |_=>abu n s ks σ r
def aj1(n:Nat)(s:List Slot)(ks:List K):List Nat->Sg
 |[]=>[]
 |t::r=>(3*t,match s.idxOf? (.t t)with|some i=>.v [] (ks.getD i .d) (.var (n+i))|none=>.un)::aj1 n s ks r
def abw(tab:Nat->List CT):List K->List VT->Sg
 |.own g::ks,.one (.c (.sl e))::t=>(3*g+2,.live ⟨(tab e).length,none⟩)::abw tab ks t
 |_::ks,_::t=>abw tab ks t
 |_,_=>[]
def an4(l:List Oper)(a:List Nat)(σ:Nat->ST):List Oper->Bool
 |[]=>false
 |o::r=>(match o.op with|.store _ (.tmp t) _=>(rootOf l a σ 20 t).isNone|_=>false)||an4 l a σ r
def aEH(σ:Sg):List Nat:=dedup ((σ.filter fun x=>Nat.beq (x.1%3) 2&&(match σ.get x.1 with|.live ⟨_,some _⟩=>true|_=>false)).map fun x=>x.1/3)
def abx(n nt:Nat)(s:List Slot)(σ:Nat->ST):List Nat->Sg
 |[]=>[]
 |g::r=>match s.idxOf? (.m g),σ (3*g+2)with
  |some i,.live ⟨k,some (_,d)⟩=>(3*g+2,.live ⟨k,some (.var (n+i),d.map fun x=>(nt+i,x.2))⟩)::abx n nt s σ r
  |_,_=>abx n nt s σ r
def abv:List (K×E)->Sg
 |[]=>[]
 |(.own g,_)::r=>(3*g+2,.un)::abv r
 |_::r=>abv r
def alU(tab:Nat->List CT)(c:Code)(ss:SS):Head :=
 let l:=opsOf c
 let uh:=dedup (axp l)
 let bs:=dedup (ahm l uh ss.σ.get l)
 let ms:=bif an4 l uh ss.σ.get l then aEH ss.σ else []
 let slots:=adM ss.σ.get uh++adL ss.σ.get bs++ms.map .m
 let vs:=slots.filterMap (Aj ss.σ.get)
 let ks:=Uy ss.nt 0 vs
 let eJ:=aj2 tab ss.Γ vs
 let n:=ss.Γ.length
 {slots,ks,eJ,hd:={Γ:=ss.Γ++eJ,nt:=ss.nt+slots.length,lv:=ss.lv+1,σ:=aj1 n slots ks uh++abu n slots ks ss.σ.get bs++abx n ss.nt slots ss.σ.get ms++abw tab ks eJ++abv vs++ss.σ}}
def nj:Nat->Nat->List VT->Sg
 |_,_,[]=>[]
 |k,j,_::r=>(3*k,.v [] .d (.var j))::nj (k+1) (j+1) r
def vtP:VT->VT
 |.aU [.c .fn]=>.one (.c .fn)
 |vt=>vt
def Fp(tb:TB):List Nat->Option (List VT)
 |[]=>some []
 |T::r=>match tb.get T,Fp tb r with
  |some i,some l=>some (vtP i.vt::l)
  |_,_=>none
def Ou(tb:TB)(p:List Nat)(bx:Option (List CT)):Option SS :=
 match bx,p with
 |none,s=>match Fp tb s with
  |some Γ=>some {Γ,nt:=0,lv:=0,σ:=nj 0 0 Γ}
  |none=>none
 |some a,_::s=>match Fp tb s with
  |some Γ=>some {Γ:=Γ++a.map (fun t=>.one (.c t)),nt:=1,lv:=0,σ:=(0,.ptr [] 0 0)::(1,.box (vars Γ.length a))::nj 1 0 Γ}
  |none=>none
 |some _,[]=>none
structure Fx where
 cx:Cx
 res:List ResultVar
 bx:Bool
 rt:List (Nat×Nat):=[]
def lU(σ:Nat->ST):Nat->ST:=fun l=>match σ l with|.live m=>.live ⟨m.n,none⟩|s=>s
def MD(σ:Nat->ST)(g:Nat):Option E:=match σ (3*g+2)with|.live ⟨_,some (b,_)⟩=>some b|_=>none
def J5(σ:Nat->ST):KK->Option E
 |.own g=>MD σ g
 |_=>none
def Nj(tab:Nat->List CT)(Γ:List VT)(σ:Nat->ST):K->E->E
 |.own g,e=>(MD σ g).getD e
 |.ag ks,e=>bif (ks.any fun kk=>(J5 σ kk).isSome)&&(match e.inf tab Γ with|some (.one (.agg us))=>Nat.beq us.length ks.length|_=>false)then mk ((List.range ks.length).map fun j=>(J5 σ (ks.getD j .d)).getD (.cell e j))else e
 |_,e=>e
def V0(tb:TB)(s:SS):ResultVar->Option (K×E)
 |.tmp t=>match s.σ.get (3*t)with|.v [] k e=>some (k,Nj tb.tab s.Γ s.σ.get k e)|_=>none
 |.cell t T=>match s.σ.get (3*t),tb.get T with
  |.ptr [] id 0,some ti=>match s.σ.get (3*id+1),ti.vt with
   |.box cs,.one (.agg a)=>bif Nat.beq a.length cs.length then some (Ae (cs.map (·.1)),pack tb.tab s.Γ (cs.map fun x=>Nj tb.tab s.Γ s.σ.get x.1 x.2))else none
   |.box [(k,e)],.one (.c _)=>some (k,e)
   |_,_=>none
  |_,_=>none
def Pg(tb:TB)(s:SS):List ResultVar->Option (List (K×E))
 |[]=>some []
 |r::rs=>match V0 tb s r,Pg tb s rs with
  |some e,some es=>some (e::es)
  |_,_=>none
def I7(tab:Nat->List CT)(Γ:List VT):List (K×E)->Option (List KK)
 |[]=>some []
 |(k,e)::r=>match e.inf tab Γ,I7 tab Γ r with
  |some (.one (.c _)),some l=>some (k.kk::l)
  |some (.one (.agg t)),some l=>some ((List.range t.length).map (fun j=>(k.nth j).kk)++l)
  |_,_=>none
def V7(σ:Nat->ST)(l:List KK):List (Nat×Nat)->Option (List Nat)
 |[]=>some []
 |(p,m)::r=>match l[p]?,V7 σ l r with
  |some .full,some q=>some q
  |some (.own g),some q=>if σ (3*g+2)=.live ⟨m,none⟩/\DR g q=false then some (g::q)else none
  |_,_=>none
def V6(tab:Nat->List CT)(Γ:List VT)(σ:Nat->ST)(es:List (K×E)):List (Nat×Nat)->Bool
 |[]=>true
 |r=>match I7 tab Γ es with|some l=>(V7 σ l r).isSome|none=>false
def Pv:List E->E->E
 |[],a=>a
 |e::r,a=>Pv r (.bp a e)
def OM:List E->E
 |[e]=>e
 |es=>Pv es .zi
def zb(fx:Fx)(s:SS):VC :=
 match Pg fx.cx.tb s fx.res with
 |some e=>
  bif V6 fx.cx.tb.tab s.Γ (lU s.σ.get) e fx.rt then
   bif fx.bx then match s.σ.get 1 with
    |.box a=>.ret (OM (e.map (·.2))) (a.map (·.2))
    |_=>.fail 1
   else .ret (OM (e.map (·.2))) []
  else .fail 10
 |none=>.fail 0
def OD(id:Nat):List (Nat×(SS->VC))->Option (SS->VC)
 |[]=>none
 |(i,k)::r=>bif Nat.beq i id then some k else OD id r
def Q5(tab:Nat->List CT)(n nt lv:Nat)(H:Head)(s:SS):VC :=
 match back tab n nt H s with
 |some e=>bif Nat.blt lv s.lv then .again (s.lv-lv-1) e else .fail 2
 |none=>.fail 3
def D2(n:Nat):Rq->Bool
 |.cond gs c=>vM n gs&&c.gr n
 |.cF _ bx args _ _ _=>(match bx with|none=>true|some l=>l.all (·.gr n))&&args.all (·.gr n)
 |.call gs _ bx args _ _=>vM n gs&&(match bx with|none=>true|some l=>l.all (·.gr n))&&args.all (·.gr n)
 |.new _ args _=>args.all (·.gr n)
 |.lJ gs e args _=>vM n gs&&e.gr n&&args.all (·.gr n)
 |.xg _ _ ix=>(match ix with|none=>true|some (gs,e,_)=>vM n gs&&e.gr n)
def Jq:Nat->List bq->Bool
 |_,[]=>true
 |n,e::r=>e.rq.all (D2 n)&&Jq (n+(lN e.rq).length) r
def ac2(es:List bq):Bool:=es.all fun e=>Nat.ble e.rq.length 1
def J1:List bq->Bool
 |[]=>true
 |e::r=>(match e.rq with|[]=>true|_=>false)&&J1 r
def ed(j d:Nat)(v:Bool)(o:Oper):Option Oper :=
 match o.guard with
 |some (i,b)=>bif Nat.beq i j then(bif b==v then some {o with guard:=none} else none)else some o
 |none=>match o.op with
  |.pick (.tmp t) x y=>bif Nat.beq t d then some {o with op:=.move (bif v then x else y)} else some o
  |_=>some o
def aaM(cx:Cx)(ops:Array Oper)(j d:Nat)(v:Bool)(Γ:List VT)(g:Nat)(o:Oper)(σ:Nat->ST):Option bq :=
 match ed j d v o with
 |some a=>yP cx ops Γ g a σ
 |none=>bif Je cx.nt o.dst then some ⟨wv o.dst .un,[]⟩else none
def UL(σ:Nat->ST)(d:Nat)(c:E):Bool:=match σ (3*d)with
 |.v [] _ e=>decide (e=c)
 |_=>false
def Ea(cx:Cx)(ops:Array Oper)(j d:Nat)(v:Bool)(c:E):List Oper->SS->Option (List bq×SS)
 |[],a=>some ([],a)
 |o::r,a=>bif UL a.σ.get d c then match aaM cx ops j d v a.Γ a.nt o a.σ.get with
  |none=>none
  |some e=>match Ea cx ops j d v c r (a.step e)with
   |none=>none
   |some (es,s)=>some (e::es,s)
  else none
def Ak:List Oper->List Oper×List Oper
 |[]=>([],[])
 |o::r=>match o.guard with
  |none=>(o::(Ak r).1,(Ak r).2)
  |some _=>([],o::r)
def Kd(s:SS)(es:List bq):Bool:=(J1 es||s.σ.all fun x=>pd s.Γ.length (s.σ.get x.1))&&Jq s.Γ.length es&&ac2 es
def Ug(cx:Cx)(ops:Array Oper)(j d:Nat)(c:E)(l:List Oper)(s:SS)(n:Nat)(k:SS->VC)(v:Bool):VC :=
 match Ea cx ops j d v c l s with
 |some (e,a)=>bif Kd s e then D3 e (k a)else .fail n
 |none=>.fail n
def ado(cx:Cx)(ops:Array Oper)(a:SS)(n:Nat)(k:SS->VC):VC :=
 match (Ak ops.toList).2 with
 |[]=>.fail n
 |o::r=>match o.guard with
  |none=>.fail n
  |some (j,_)=>match (ops[j]?).bind (·.dst)with
   |none=>.fail n
   |some d=>match oW cx ops (Ak ops.toList).1 a with
    |none=>.fail n
    |some (e,s)=>match s.σ.get (3*d)with
     |.v [] _ c=>bif Kd a e&&gV .bool (c.inf cx.tb.tab s.Γ)&&c.gr s.Γ.length then D3 e (.ite c (Ug cx ops j d c (o::r) s n k true) (Ug cx ops j d c (o::r) s n k false))else .fail n
     |_=>.fail n
def sx(fx:Fx):Code->SS->List (Nat×(SS->VC))->(SS->VC)->VC
 |.skip,d,_,k=>k d
 |.region id ops r,d,_,k=>match oW fx.cx ops ops.toList d with
  |some (es,s)=>bif (!r||TH ops es d)&&(J1 es||d.σ.all fun x=>pd d.Γ.length (d.σ.get x.1))&&Jq d.Γ.length es&&ac2 es then D3 es (k s)else .fail (1000+id)
  |none=>bif r then .fail (2000+id)else ado fx.cx ops d (2000+id) k
 |.seq a b,d,ex,k=>sx fx a d ex fun s=>sx fx b s ex k
 |.cond x a b,d,ex,k=>match fT [] (aY fx.cx.tb d.σ.get 0 x)with
  |some (_,e)=>bif gV .bool (e.inf fx.cx.tb.tab d.Γ)then .ite e (sx fx a d ex k) (sx fx b d ex k)else .fail 4
  |none=>.fail 5
 |.block id c,d,ex,k=>sx fx c d ((id,k)::ex) k
 |.exit id,d,ex,_=>match OD id ex with
  |some k=>k d
  |none=>.fail 6
 |.loop c,d,ex,_=>
  let H:=alU fx.cx.tb.tab c d
  match back fx.cx.tb.tab d.Γ.length d.nt H d with
  |some es=>bif Nat.beq H.hd.lv (d.lv+1)&&decide (H.hd.Γ=d.Γ++H.eJ)&&Nat.beq H.slots.length H.eJ.length then .loop H.eJ es (sx fx c H.hd ex (Q5 fx.cx.tb.tab d.Γ.length d.nt d.lv H))else .fail 7
  |none=>.fail 8
 |.ret,d,_,_=>zb fx d
 |_,_,_,_=>.fail 9
def fO(tab:Nat->List CT):List VT->List D->Prop
 |[],[]=>True
 |t::s,d::ds=>bG tab t d/\fO tab s ds
 |_,_=>False
def VC.den(P:Program)(tab:Nat->List CT):VC->List D->(D->List D->Prop)->List (List D->Prop)->Prop
 |.fail _,_,_,_=>False
 |.ret e bs,env,Q,_=>Q (e.den env) (bs.map (·.den env))
 |.rq (.cond gs c) k,env,Q,L=>(cP env gs->c.den env=.bool true)/\k.den P tab env Q L
 |.rq (.call gs f bx args vt nb) k,env,Q,L=>∃d cs,bG tab vt d/\bD tab nb cs/\(cP env gs->aH P f (bx.map (·.map (·.den env))) (args.map (·.den env)) d cs)/\k.den P tab (env++d::cs) Q L
 |.rq (.cF f bx args vt nb r) k,env,Q,L=>∃d cs,bG tab vt d/\bD tab nb cs/\dJ P f (bx.map (·.map (·.den env))) (args.map (·.den env)) d cs r/\k.den P tab (env++d::cs) Q L
 |.rq (.new f args nb) k,env,Q,L=>∃cs,bD tab nb cs/\QU P f (args.map (·.den env)) cs/\k.den P tab (env++cs) Q L
 |.rq (.lJ gs e args vt) k,env,Q,L=>∃d,bG tab vt d/\(cP env gs->QW P (e.den env) (args.map (·.den env)) d)/\k.den P tab (env++[d]) Q L
 |.rq (.xg g vt ix) k,env,Q,L=>∃d,bG tab vt d/\Yw g d/\agm env ix/\k.den P tab (env++[d]) Q L
 |.ite c a b,env,Q,L=>((c.den env).kG=true->a.den P tab env Q L)/\((c.den env).kG=false->b.den P tab env Q L)
 |.loop t i o,env,Q,L=>∃(I:List D->Prop) (h:List D->Nat),I (i.map (·.den env)) /\
  ∀xs,fO tab t xs->dI xs->I xs->o.den P tab (env++xs) Q ((fun y=>I y/\h y<h xs)::L)
 |.again d es,env,_,L=>match L[d]? with
  |some p=>p (es.map (·.den env))
  |none=>False
end
end Go.Proofs.YtoomhbopolalnabGreatDoor
