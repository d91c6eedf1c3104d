/- What single operations of the machine do, at types of which a table tells enough. No program in sight. -/
import Derived.Test.YtoomhbopolalnabGreatDoorT0
set_option linter.all false
namespace Go.Proofs.YtoomhbopolalnabGreatDoor
variable {f:Array Field}{t:CT}{T g n:Nat}{d:TypeDesc}{i:TypeInfo}{w w':World}
section
open Go.RowKit
def Ps{P:Program}{b:TB}:∀{tb:TB},cX P b tb=true->∀{T:Nat} {ti:TI},tb.get T=some ti->Kv P b T ti=true
 |[],_,T,ti,h=>by simp[TB.get]at h
 |(t,i)::r,k,T,ti,h=>by
  simp[cX]at k;simp only[TB.get]at h;cases e:Nat.beq t T with
  |true=> rw[e]at h;simp only[gD,aS]at h;subst h;have:t=T:=gI e;subst this;exact k.1
  |false=>rw[e]at h;exact Ps k.2 h
def iI:CT->TypeDesc->Prop
 |.bool,d=>d=.bool
 |.int k,d=>d=.int k
 |.str,d=>d=.string
 |.sl e,d=>d=.slice e
 |.mem,_=>False
 |.fn,_=>False
section
variable {P:Program}{tb:TB}(aE:cX P tb tb=true){T:Nat}{ti:TI}(hg:tb.get T=some ti)
include aE hg
def fX(v:ti.vt=.one (.c t)):∃i d,P.info? T=some i/\i.size=1/\i.bytes=ti.bytes/\(∃z,i.zero=some z/\zeroV t z=true)/\P.underlying T=some d/\iI t d:=by
 have h:=Ps aE hg;simp only[Kv,v]at h;split at h
 ·simp at h
 ·rename_i i g;simp only[aX,vf]at h;obtain⟨⟨⟨⟨j,k⟩,e⟩,b⟩,_⟩:=h;cases u:P.underlying T with
  |none=>rw[u]at b;cases t<;>simp[MY]at b
  |some d=>
   rw[u]at b;refine⟨i,d,g,j,k,?_,rfl,?_⟩
   ·cases f:i.zero with
    |none=>rw[f]at e;simp[Ym]at e
    |some z=>rw[f]at e;exact⟨z,rfl,e⟩
   ·cases t<;>cases d<;>simp[MY]at b<;>simp[iI,b]
def pX{t:List CT}(v:ti.vt=.one (.agg t)):∃i fields cs,P.info? T=some i/\i.size=t.length/\i.bytes=ti.bytes/\i.zero=some (.agg cs)/\sU t cs.toList=true/\P.underlying T=some (.struct fields)/\uu tb ti.fs fields.toList=true:=by
 have h:=Ps aE hg;simp only[Kv,v]at h;split at h
 ·simp at h
 ·rename_i i g;simp only[aX,vf]at h;obtain⟨⟨⟨⟨j,k⟩,b⟩,e⟩,_⟩:=h;cases u:P.underlying T with
  |none=>rw[u]at e;simp[MY]at e
  |some d=>
   rw[u]at e;cases d<;>simp[MY]at e;rename_i fields;cases f:i.zero with
   |none=>rw[f]at b;simp[Ym]at b
   |some z=> rw[f]at b;cases z<;>simp[Ym]at b;rename_i cs;exact⟨i,fields,cs,g,j,k,f,b,rfl,e⟩
def ad3(ha:Mx tb ti=some (n,t)):∃e d i,P.underlying T=some (.array n e)/\tb.get e=some d/\d.vt=.one (.c t)/\P.info? T=some i/\i.size=n:=by
 have h:=Ps aE hg;unfold Mx at ha;split at ha
 ·rename_i s m e k f;split at ha
  ·rename_i d g;split at ha
   ·rename_i o v;simp at ha;obtain⟨rfl,rfl⟩:=ha;simp only[Kv,k,f,aX]at h;obtain⟨b,j⟩:=h;split at b
    ·rename_i p q u;simp only[aX]at b;have q1:=gI b.1;have q2:=gI b.2;subst q1 q2;split at j
     ·rename_i i l;exact⟨_,d,i,u,g,v,l,gI j⟩
     ·simp at j
    ·simp at b
   ·simp at ha
  ·simp at ha
 ·simp at ha
def tH{v:V1}(g:ti.vt=.one v):∃i,P.info? T=some i/\i.size=v.cells.length/\i.bytes=ti.bytes:=by
 cases v with
 |c t=>obtain⟨i,d,h,b,e,_⟩:=fX aE hg g;exact⟨i,h,b,e⟩
 |agg s=>obtain⟨i,f,c,h,b,e,_⟩:=pX aE hg g;exact⟨i,h,b,e⟩
end
section
variable {P:Program}{w:World}
def run_typeInfo(h:P.info? T=some i):(typeInfo T).run P w=.ok i w:=by simp[typeInfo,h]
def run_sizeOf(h:P.info? T=some i):(sizeOf T).run P w=.ok i.size w:=by simp[sizeOf,run_typeInfo h]
def run_underlying(h:P.underlying T=some d):(underlying T).run P w=.ok d w:=by simp[underlying,h]
def adF(h:P.underlying T=some d)(hd:iI t d):(isAgg T).run P w=.ok false w:=by cases t<;>simp[iI]at hd<;>subst hd<;>simp[isAgg,run_underlying h]
def anH(h:P.underlying T=some (.struct f)):(isAgg T).run P w=.ok true w:=by simp[isAgg,run_underlying h]
def G8(h:P.underlying T=some d)(hd:iI t d){a:Addr}{v:Value}(b:w.cell? a=some v):(loadVar T a).run P w=.ok v w:=by simp[loadVar,adF h hd,b]
def addr_add(b o j:Nat):(⟨b,o,none⟩:Addr).add j=⟨b,o+j,none⟩:=by unfold Addr.add;by_cases h:j=0<;>simp[h]
def Pm(h:P.underlying T=some (.struct f)){i:TypeInfo}(e:P.info? T=some i){b o:Nat}{vs:List Value}(l:vs.length=i.size)
  (g:∀j u,vs[j]? =some u->w.cell? ⟨b,o+j,none⟩=some u):(loadVar T ⟨b,o,none⟩).run P w=.ok (.agg vs.toArray) w:=by
 have d:=IQ (P:=P) (w:=w) ⟨b,o,none⟩ vs (fun j u k=>by rw[addr_add];exact g j u k);rw[l]at d;simp[loadVar,anH h,run_sizeOf e,d]
def aGm{e:Nat}(h:P.underlying T=some (.array n e)):(isAgg T).run P w=.ok true w:=by simp[isAgg,run_underlying h]
def aGn{e:Nat}(h:P.underlying T=some (.array n e)){i:TypeInfo}(f:P.info? T=some i){b o:Nat}{vs:List Value}(l:vs.length=i.size)
  (g:∀j u,vs[j]? =some u->w.cell? ⟨b,o+j,none⟩=some u):(loadVar T ⟨b,o,none⟩).run P w=.ok (.agg vs.toArray) w:=by
 have d:=IQ (P:=P) (w:=w) ⟨b,o,none⟩ vs (fun j u k=>by rw[addr_add];exact g j u k);rw[l]at d;simp[loadVar,aGm h,run_sizeOf f,d]
def iF(cs:Array Value)(off:Nat):List Value->Array Value
 |[]=>cs
 |x::r=>iF (cs.setIfInBounds off x) (off+1) r
def Ha:∀(l:List Value) (cs:Array Value) (off:Nat),(iF cs off l).toList=nA cs.toList off l
 |[],_,_=>rfl
 |x::r,cs,off=>by simp[iF,nA,Ha r]
def Kr:∀(l:List Value) (cs:Array Value) (off:Nat),(iF cs off l).size=cs.size
 |[],_,_=>rfl
 |x::r,cs,off=>by simp[iF,Kr r]
structure bU(w w':World)(g:Nat):Prop where
 os:w'.os=w.os
 tape:w'.tape=w.tape
 output:w'.output=w.output
 size:w'.heap.size=w.heap.size
 block:∀k,k≠g->w'.heap[k]? =w.heap[k]?
def bU.refl(w:World)(g:Nat):bU w w g:=⟨rfl,rfl,rfl,rfl,fun _ _=>rfl⟩
def bU.set(h:bU w w' g)(o:Nat)(v:Value):bU w (w'.setCell ⟨g,o,none⟩ v) g :=
 ⟨h.os,h.tape,h.output,by simpa using h.size,fun k b=>(heap_setCell_other w' ⟨g,o,none⟩ k v b).trans (h.block k b)⟩
def Eb(g:Nat)(T:TypeId):∀(vs:List Value) (w:World) (C:Array Value) (o i:Nat),w.heap[g]? =some (.cells C T (0,0))->(∀v∈vs,v.oneCell'=true)->o+i+vs.length<=C.size ->
  ∃w',(storeCells ⟨g,o,none⟩ vs i).run P w=.ok () w'/\w'.heap[g]? =some (.cells (iF C (o+i) vs) T (0,0))/\bU w w' g
 |[],w,C,o,i,hg,_,_=>⟨w,by simp[storeCells],hg,bU.refl _ _⟩
 |v::r,w,C,o,i,hg,d,j=>by
  simp only[dR]at j;have l:o+i<C.size:=by omega
  have h:w.cell? ⟨g,o+i,none⟩=some C[o+i]:=by rw[yg w g (o+i) C T (0,0) hg];exact Ir l
  have f:=frozen_of_row w g (o+i) C T hg;have s:=heap_setCell_same w g (o+i) C T v hg;obtain⟨w',m,n,b⟩:=Eb g T r (w.setCell ⟨g,o+i,none⟩ v) (C.setIfInBounds (o+i) v) o (i+1) s (fun x p=>d x (by simp[p])) (by simp;omega);refine⟨w',?_,?_,?_⟩
  ·simp only[storeCells,lS,addr_add,run_store P w _ v .plain (d v (by simp)),h,f];simpa using m
  ·simpa[iF,wS]using n
  ·exact⟨b.os,b.tape,b.output,by simpa using b.size,fun k e=>(b.block k e).trans (heap_setCell_other w ⟨g,o+i,none⟩ k v e)⟩
end
end
variable {p:Addr}{M:Addr->Prop}{e:E}{env:List D}{B j x:Nat}{tm:Nat->Value}{X:Option Nat}{α:Type}{u v:Value}{a b:World}
section
open Go.RowKit
variable [GC]
def aW(σ:Nat->α)(l:Nat)(s:α):Nat->α:=fun x=>if x=l then s else σ x
def cH(σ:Nat->α)(l:Nat)(s:α):aW σ l s l=s:=by simp[aW]
def fZ(σ:Nat->α){l x:Nat}(s:α)(h:x≠l):aW σ l s x=σ x:=by simp[aW,h]
def dq(σ:Nat->ST):List (Nat×ST)->Nat->ST
  |[]=>σ
  |(l,s)::r=>dq (aW σ l s) r
def YK(l:Nat)(s:ST)(q:Sg):Sg.get ((l,s)::q)=aW (Sg.get q) l s:=by
  funext x;simp only[Sg.get,aW];cases e:Nat.beq l x with
  |true=>simp[gI e]
  |false=>
   have:x≠l:=fun h=>by rw[h]at e;simp at e
   simp[this]
def agI:∀(wr:List (Nat×ST)) (q:Sg),Sg.get (wr.reverse++q)=dq (Sg.get q) wr
  |[],q=>rfl
  |(l,s)::r,q=>by rw[List.reverse_cons,iY,List.singleton_append,agI r,YK];rfl
structure Fr(B:Nat)(X:Option Nat)(w w':World):Prop where
  os:w'.os=w.os
  tape:w'.tape=w.tape
  output:w'.output=w.output
  size:w.heap.size<=w'.heap.size
  block:∀k,k<B->some k≠X->w'.heap[k]? =w.heap[k]?
def Fr.refl(B:Nat)(X:Option Nat)(w:World):Fr B X w w:=⟨rfl,rfl,rfl,bM _,fun _ _ _=>rfl⟩
def Fr.trans{c:World}(h:Fr B X a b)(k:Fr B X b c):Fr B X a c :=
  ⟨k.os.trans h.os,k.tape.trans h.tape,k.output.trans h.output,dK h.size k.size,fun i d x=>(k.block i d x).trans (h.block i d x)⟩
def zt{d:Nat}(h:Below d a b)(e:B<=d):Fr B X a b:=⟨h.os,h.tape,h.output,h.size,fun k f _=>h.block k (by omega)⟩
def Ih(h:bU a b g)(hg:B<=g\/X=some g):Fr B X a b :=
  ⟨h.os,h.tape,h.output,lH h.size.symm,fun k d x=>h.block k (by rintro rfl;rcases hg with hg|hg;omega;exact x hg.symm)⟩
def Fr.Eg(h:Fr B none a b):Below B a b:=⟨h.os,h.tape,h.output,h.size,fun k d=>h.block k d (by simp)⟩
def cP(env:List D)(gs:Gd):Prop:=∀x∈gs,x.1.den env=.bool x.2
def cR(env:List D):cP env []:=by simp[cP]
def zP{g gs:Gd}(h:qV g gs=true)(b:cP env gs):cP env g:=by intro x d;have:=fH.1 h x d;exact b x (by simpa using this)
def aaX{gs:Gd}{c:E}{b:Bool}:cP env (gs++[(c,b)])↔cP env gs/\c.den env=.bool b:=by
  unfold cP;constructor
  · intro h;exact⟨fun x d=>h x (by simp[d]),h (c,b) (by simp)⟩
  · rintro⟨e,f⟩ x d
    rcases iJ.1 d with h|h
    · exact e x h
    · simp at h;subst h;exact f
def He(v:Value)(n:Nat)(p:Addr):Prop:=∃b o s len cap,v=.slice (some ⟨b,o,s⟩) len cap/\p.block=b/\o+len*n<=p.off/\p.off<o+cap*n
def ownIn(v:Value)(n:LV)(p:Addr):Prop:=∃b o s len cap,v=.slice (some ⟨b,o,s⟩) len cap/\p.block=b/\0<cap/\(n.body=none->o+len*n.n<=p.off/\p.off<o+cap*n.n)
def Ks(h:He v n p):∃o s len cap,v=.slice (some ⟨p.block,o,s⟩) len cap/\0<cap:=by
  obtain⟨b,o,s,len,cap,d,f,g,i⟩:=h;refine⟨o,s,len,cap,by rw[f];exact d,?_⟩;rcases dP 0 cap with h|h
  · exact h
  · have e:cap=0:=by omega
    subst e;omega
def dV(v:Value)(b:Nat):Prop:=∃o s len cap,v=.slice (some ⟨b,o,s⟩) len cap/\0<cap
def xD(tm:Nat->Value)(g:Nat)(n:LV)(p:Addr):Prop:=ownIn (tm g) n p\/∃e v m cells u,n.body=some (e,some (v,m))/\tm v=.tuple cells/\u∈cells.toList/\dV u p.block
def jy(tm:Nat->Value)(g:Nat)(n:LV)(b:Nat):Prop:=dV (tm g) b\/∃e v m cells u,n.body=some (e,some (v,m))/\tm v=.tuple cells/\u∈cells.toList/\dV u b
def DV{n:LV}(h:He (tm g) n.n p):xD tm g n p:=by obtain⟨m,q,l,d,e,r⟩:=Ks h;obtain⟨b,o,s,len,cap,f,i,j,k⟩:=h;rw[f]at e;simp only[fE]at e;exact .inl ⟨b,o,s,len,cap,f,i,by omega,fun _=>⟨j,k⟩⟩
def Kg(h:xD tm g ⟨n,none⟩ p):He (tm g) n p:=by
  rcases h with⟨b,o,s,len,cap,f,i,j,d⟩|⟨e,v,m,cells,u,h,_⟩
  · exact⟨b,o,s,len,cap,f,i,(d rfl).1,(d rfl).2⟩
  · cases h
def OT{n:LV}(h:xD tm g n p):jy tm g n p.block:=by
  rcases h with⟨b,o,s,len,cap,d,e,f,i⟩|h
  · subst e;exact .inl ⟨o,s,len,cap,d,f⟩
  · exact .inr h
def ac8{n:LV}(hb:n.body≠none)(h:jy tm g n p.block):xD tm g n p:=by
  rcases h with⟨o,s,len,cap,b,d⟩|h
  · exact .inl ⟨_,o,s,len,cap,b,rfl,d,fun h=>absurd h hb⟩
  · exact .inr h
def x9{b:Nat}(h:jy tm g ⟨n,none⟩ b):dV (tm g) b:=by
  rcases h with h|⟨e,v,m,cells,u,h,_⟩
  · exact h
  · cases h
def MM(M0:Addr->Prop)(bm:Nat->Nat)(tm:Nat->Value)(σ:Nat->ST):Addr->Prop :=
  fun p=>M0 p\/(∃id s,σ (3*id+1)=.box s/\p.block=bm id)\/(∃g n,σ (3*g+2)=.live n/\xD tm g n p)
def jO:Value->List Value
  |.agg cs=>cs.toList
  |v=>[v]
def nQ:Value->List Value
  |.tuple vs=>vs.toList.flatMap jO
  |v=>jO v
def tC(tm:Nat->Value):KK->Value->Prop
  |.d,_=>True
  |.own g,u=>u=tm g
  |.full,u=>∃a,u=.slice a 0 0
def K.has:K->Nat->Prop
  |.own g,x=>x=g
  |.ag ks,x=>KK.own x∈ks
  |_,_=>False
def cB(w:World)(M:Addr->Prop)(tm:Nat->Value)(env:List D):K->E->Value->Prop
  |.d,e,v=>R w M (e.den env) v
  |.own g,e,v=>R w M (e.den env) v/\v=tm g
  |.full,e,v=>R w M (e.den env) v/\∃a,v=.slice a 0 0
  |.ag ks,e,v=>R w M (e.den env) v/\∀(j:Nat) (kk:KK) (u:Value),ks[j]? =some kk->(nQ v)[j]? =some u->tC tm kk u
def cB.rd{k:K}(h:cB w M tm env k e v):R w M (e.den env) v:=by cases k<;>simp only[cB]at h<;>first|exact h|exact h.1
def Yw(g:Nat)(d:D):Prop:=∀w,qd w->∃s t f,w.heap[g]? =some (.cells s t f)/\∀(w':World) (M:Addr->Prop),Rs w' M d.kZ s.toList
def agm(env:List D):Option (Gd×E×Nat)->Prop
  |none=>True
  |some (gs,e,n)=>cP env gs->0<=(e.den env).cq/\(e.den env).cq<n
def rC(w:World)(M:Addr->Prop)(bm:Nat->Nat)(tm:Nat->Value)(env:List D):ST->Value->Prop
  |.v gs k e,v=>(cP env gs->cB w M tm env k e v)/\(¬cP env gs->v=undef)
  |.ptr gs id off,v=>(cP env gs->v=.pointer (some ⟨bm id,off,none⟩))/\(¬cP env gs->v=undef)
  |.ro gs e off,v=>(cP env gs->∃b o,v=.pointer (some ⟨b,o,none⟩)/\Rw w M ((e.den env).kZ.drop off) b o)/\(¬cP env gs->v=undef)
  |.mp gs g n i off,v=>(cP env gs->∃b o len cap,tm g=.slice (some ⟨b,o,none⟩) len cap/\0<=(i.den env).cq/\(i.den env).cq.toNat<len/\v=.pointer (some ⟨b,o+(i.den env).cq.toNat*n+off,none⟩))/\(¬cP env gs->v=undef)
  |.iv gs g d n i off l,v=>(cP env gs->(∃a L cap,tm g=.slice a L cap/\0<=(i.den env).cq/\(i.den env).cq.toNat<L)/\(∃cells,tm d=.tuple cells/\cells[(i.den env).cq.toNat*n+off]? =some v)/\R w M (.mem (l.den env).cq.toNat) v)/\(¬cP env gs->v=undef)
  |.ip gs g d n i off j m f,v=>(cP env gs->(∃a L cap,tm g=.slice a L cap/\0<=(i.den env).cq/\(i.den env).cq.toNat<L)/\∃cells b o len cap,tm d=.tuple cells/\cells[(i.den env).cq.toNat*n+off]? =some (.slice (some ⟨b,o,none⟩) len cap)/\0<=(j.den env).cq/\(j.den env).cq.toNat<len/\len<=cap/\v=.pointer (some ⟨b,o+(j.den env).cq.toNat*m+f,none⟩))/\(¬cP env gs->v=undef)
  |.gp gs g x i,v=>(cP env gs->v=.pointer (some ⟨g,(i.den env).cq.toNat,none⟩)/\Yw g (x.den env)/\(i.den env).cq.toNat<(x.den env).kZ.length)/\(¬cP env gs->v=undef)
  |_,_=>True
def dm(w:World)(M:Addr->Prop)(tm:Nat->Value)(env:List D):List (K×E)->List Value->Prop
  |[],vs=>vs=[]
  |c::r,vs=>∃v q,vs=v::q/\cB w M tm env c.1 c.2 v/\dm w M tm env r q
def cE:ST->Nat->Prop
  |.v _ k _,x=>k.has x
  |.ptr _ id _,x=>x=id
  |.mp _ g _ _ _,x=>x=g
  |.iv _ g v _ _ _ _,x=>x=g\/x=v
  |.ip _ g v _ _ _ _ _ _,x=>x=g\/x=v
  |.live n,x=>∃e m,n.body=some (e,some (x,m))
  |.box cs,x=>∃c∈cs,c.1.has x
  |_,_=>False
section
variable {w w':World}{M M':Addr->Prop}{bm ep:Nat->Nat}{tm tm':Nat->Value}{env:List D}
def tC.keep{kk:KK}(m:∀g,kk=.own g->tm' g=tm g)(h:tC tm kk u):tC tm' kk u:=by
  cases kk with
  |d=>trivial
  |own g=>simp only[tC]at *;rw[m g rfl];exact h
  |full=>exact h
def cB.keep(b:bQ w M w' M'){k:K}{e:E}{v:Value}(m:∀g,k.has g->tm' g=tm g)(h:cB w M tm env k e v):cB w' M' tm' env k e v:=by
  cases k with
  |d=>exact R.keep b _ _ h
  |own g=>exact⟨R.keep b _ _ h.1,by rw[m g rfl];exact h.2⟩
  |full=>exact⟨R.keep b _ _ h.1,h.2⟩
  |ag s=>exact⟨R.keep b _ _ h.1,fun j kk u f i=>(h.2 j kk u f i).keep fun g hg=>m g (by subst hg;exact jB f)⟩
def agq(kk:KK):kk.k.kk=kk:=by cases kk<;>rfl
def avJ{k:K}(h:k.kk=.own x):k.has x:=by cases k<;>simp[K.kk]at h;subst h;rfl
def agp{kk:KK}(h:kk.k.has x):kk=.own x:=by
  cases kk with
  |own g=>simp only[KK.k,K.has]at h;subst h;rfl
  |_=>exact h.elim
def Yz{k:K}(h:(k.nth j).has x):k.has x:=by
  cases k with
  |ag s=>
   simp only[K.nth,List.getD]at h;have:=agp h;cases b:s[j]? with
   |none=>rw[b]at this;simp at this
   |some kk=>rw[b]at this;simp at this;subst this;exact jB b
  |_=>exact h.elim
def YA{ks:List K}(h:(Ae ks).has x):∃k∈ks,k.has x:=by
  unfold Ae at h;cases b:ks.all (fun k=>decide (k.kk=.d))with
  |true=>rw[b]at h;exact h.elim
  |false=> rw[b]at h;obtain⟨k,d,e⟩:=fJ.1 (show KK.own x∈ks.map K.kk from h);exact⟨k,d,avJ e⟩
def avK{k:K}{off:Nat}{v:Option V1}(h:(adU k off v).has x):k.has x:=by
  rcases v with _|t|s
  · exact h.elim
  · exact Yz h
  · obtain⟨q,b,d⟩:=YA h
    obtain⟨j,_,rfl⟩:=fJ.1 b;exact Yz d
def cB.kk{k:K}(h:cB w M tm env k e v):tC tm k.kk v:=by
  cases k with
  |d=>trivial
  |own g=>exact h.2
  |full=>exact h.2
  |ag s=>trivial
def cB.nth{k:K}(h:cB w M tm env k e v)(b:(nQ v)[j]? =some u):tC tm (k.nth j).kk u:=by
  cases k with
  |ag s=>
   simp only[K.nth,agq,List.getD];cases d:s[j]? with
   |none=>trivial
   |some kk=>exact h.2 j kk u d b
  |_=>trivial
def anh{kk:KK}(r:R w M (e.den env) v)(h:tC tm kk v):cB w M tm env kk.k e v:=by
  cases kk with
  |d=>exact r
  |own g=>exact⟨r,h⟩
  |full=>exact⟨r,h⟩
def avL(k:K)(j:Nat):∃kk:KK,k.nth j=kk.k:=by
  cases k with
  |ag s=>exact⟨_,rfl⟩
  |_=>exact⟨.d,rfl⟩
def ani{k:K}(r:R w M (e.den env) v)(h:tC tm (k.nth j).kk v):cB w M tm env (k.nth j) e v:=by obtain⟨kk,b⟩:=avL k j;rw[b,agq]at h;rw[b];exact anh r h
def VW{ks:List K}{vs:List Value}(r:R w M (e.den env) (.agg vs.toArray))(h:∀(j:Nat) (k:K) (u:Value),ks[j]? =some k->vs[j]? =some u->tC tm k.kk u):cB w M tm env (Ae ks) e (.agg vs.toArray):=by
  unfold Ae;cases ks.all (fun k=>decide (k.kk=.d))with
  |true=>exact r
  |false=> refine⟨r,fun j kk u b d=> ?_⟩;simp only[iw,kN]at b;obtain⟨k,b,rfl⟩:=b;exact h j k u b (by simpa[nQ,jO]using d)
def rC.keep(q:bQ w M w' M'){st:ST}{v:Value}(d:∀g,cE st g->ep g=bm g/\tm' g=tm g)(h:rC w M bm tm env st v):rC w' M' ep tm' env st v:=by
  cases st with
  |un=>trivial
  |v s k e=>exact⟨fun hg=>(h.1 hg).keep q (fun g f=>(d g f).2),h.2⟩
  |ptr s id off=>exact⟨fun hg=>by rw[(d id (by simp[cE])).1];exact h.1 hg,h.2⟩
  |ro s e off=> refine⟨fun hg=> ?_,h.2⟩;obtain⟨b,o,r,t⟩:=h.1 hg;exact⟨b,o,r,Rw.keep q _ _ _ t⟩
  |box u=>trivial
  |live n=>trivial
  |gp s g x i=>exact h
  |mp s g n i off=>exact⟨fun hg=>by rw[(d g (by simp[cE])).2];exact h.1 hg,h.2⟩
  |iv s g p n i off l=>exact⟨fun hg=>by rw[(d g (.inl rfl)).2,(d p (.inr rfl)).2];exact h.1 hg,h.2⟩
  |ip s g p n i off j m y=>exact⟨fun hg=>by rw[(d g (.inl rfl)).2,(d p (.inr rfl)).2];exact h.1 hg,h.2⟩
def dm.keep(k:bQ w M w' M'):∀{cs:List (K×E)} {vs:List Value},(∀g,(∃c∈cs,c.1.has g)->tm' g=tm g)->dm w M tm env cs vs->dm w' M' tm' env cs vs
  |[],_,_,h=>h
  |c::r,vs,m,⟨v,q,e,h1,h2⟩=>⟨v,q,e,h1.keep k (fun g hg=>m g ⟨c,by simp,hg⟩),dm.keep k (fun g ⟨x,hx,hg⟩=>m g ⟨x,by simp[hx],hg⟩) h2⟩
def dm.length:∀{cs:List (K×E)} {vs:List Value},dm w M tm env cs vs->vs.length=cs.length
  |[],_,h=>by subst h;rfl
  |c::r,vs,⟨v,q,e,h1,h2⟩=>by subst e;simp[dm.length h2]
def dm.get:∀{cs:List (K×E)} {vs:List Value},dm w M tm env cs vs->∀{i:Nat} {c:K×E},cs[i]? =some c->∃v,vs[i]? =some v/\cB w M tm env c.1 c.2 v
  |[],_,_,i,c,h=>by simp at h
  |c::r,vs,⟨v,q,e,h1,h2⟩,0,b,h=>by subst e;simp at h;subst h;exact⟨v,rfl,h1⟩
  |c::r,vs,⟨v,q,e,h1,h2⟩,i+1,b,h=>by subst e;simp at h;obtain⟨u,d,f⟩:=dm.get h2 h;exact⟨u,by simpa using d,f⟩
def dm.set:∀{cs:List (K×E)} {vs:List Value},dm w M tm env cs vs->∀(i:Nat) {c:K×E} {v:Value},cB w M tm env c.1 c.2 v->dm w M tm env (cs.set i c) (vs.set i v)
  |[],_,h,i,c,v,b=>by subst h;simp[dm]
  |c::r,vs,⟨v,q,e,h1,h2⟩,0,f,d,b=>by subst e;exact⟨d,q,rfl,b,h2⟩
  |c::r,vs,⟨v,q,e,h1,h2⟩,i+1,f,d,b=>by subst e;exact⟨v,q.set i d,rfl,h1,dm.set h2 i b⟩
def dm.nA:∀{ds:List (K×E)} {us:List Value},dm w M tm env ds us->∀{cs:List (K×E)} {vs:List Value} (i:Nat),dm w M tm env cs vs->dm w M tm env (nA cs i ds) (nA vs i us)
  |[],_,hd,cs,vs,i,h=>by subst hd;exact h
  |d::r,us,⟨u,q,e,h1,h2⟩,cs,vs,i,h=>by subst e;simp only[Go.Proofs.YtoomhbopolalnabGreatDoor.nA];exact dm.nA h2 (i+1) (h.set i h1)
def dm.drop:∀{cs:List (K×E)} {vs:List Value},dm w M tm env cs vs->∀n,dm w M tm env (cs.drop n) (vs.drop n)
  |_,_,h,0=>by simpa using h
  |[],_,h,n+1=>by subst h;simp[dm]
  |c::r,vs,⟨v,q,e,h1,h2⟩,n+1=>by subst e;simpa using dm.drop h2 n
def dm.take:∀{cs:List (K×E)} {vs:List Value},dm w M tm env cs vs->∀n,dm w M tm env (cs.take n) (vs.take n)
  |_,_,h,0=>by simp[dm]
  |[],_,h,n+1=>by subst h;simp[dm]
  |c::r,vs,⟨v,q,e,h1,h2⟩,n+1=>by subst e;exact⟨v,q.take n,by simp,h1,dm.take h2 n⟩
def dm.rs:∀{cs:List (K×E)} {vs:List Value},dm w M tm env cs vs->Rs w M ((cs.map (·.2)).map (·.den env)) vs
  |[],_,h=>h
  |c::r,vs,⟨v,q,e,h1,h2⟩=>⟨v,q,e,h1.rd,dm.rs h2⟩
end
structure SC where
  w0:World
  B:Nat
  X:Option Nat
  M0:Addr->Prop
  nt:Nat
  env:List D
def GOk(c:SC):Prop:=qd c.w0/\NG<=c.B/\∀g,c.X=some g->NG<=g
def tR(c:SC)(w:World)(M:Addr->Prop)(bm:Nat->Nat)(tm:Nat->Value)(id:Nat)(cs:List (K×E)):Prop :=
  ∃v T,w.heap[bm id]? =some (.cells v.toArray T (0,0))/\dm w M tm c.env cs v/\(c.B<=bm id\/(id=0/\c.X=some (bm id)))
def wL(d:D)(v:Value):Prop:=∀(w:World) (M:Addr->Prop),R w M d v
def tT(w:World)(v:Value)(n:Nat)(Q:Nat->Nat->D->Value->Prop)(d:D):Prop :=
  ∃a len cap e,v=.slice a len cap/\d=.sl e/\len=e.length/\len<=cap/\cap<=maxLen/\(a=none->cap=0)/\(∀r∈e,r.length=n) /\
   ∀b o s,a=some ⟨b,o,s⟩->(0<len->s=none)/\∀i r,e[i]? =some r->∀j d,r[j]? =some d->∃u,w.cell? ⟨b,o+i*n+j,none⟩=some u/\Q i j d u
def uT(B:Nat)(w:World)(v:Value)(n:Nat):Prop :=
  ∀b o s len cap,v=.slice (some ⟨b,o,s⟩) len cap->0<cap->s=none/\B<=b/\∃cells T,w.heap[b]? =some (.cells cells T (0,0))/\o+cap*n<=cells.size
def CP(B:Nat)(w:World)(tm:Nat->Value)(n:Nat):Option (Nat×List Nat)->Nat->Nat->D->Value->Prop
  |none=>fun _ _ d u=>wL d u
  |some (g,m)=>fun i j d u=>(m.getD j 0=0->wL d u)/\(m.getD j 0≠0->(∃cells,tm g=.tuple cells/\cells[i*n+j]? =some u)/\uT B w u (m.getD j 0)/\tT w u (m.getD j 0) (fun _ _ d u=>wL d u) d)
structure sV(c:SC)(w:World)(tm:Nat->Value)(g:Nat)(n:LV):Prop where
  sp:uT c.B w (tm g) n.n
  bd:∀e dp,n.body=some (e,dp)->tT w (tm g) n.n (CP c.B w tm n.n dp) (e.den c.env)
  dp:∀e gv ms,n.body=some (e,some (gv,ms))->∃cells,tm gv=.tuple cells/\(∀u∈cells.toList,∃m,uT c.B w u m) /\
    (∀(k k':Nat) (u u':Value) (b:Nat),cells[k]? =some u->cells[k']? =some u'->k≠k'->dV u b->¬dV u' b)/\∀u∈cells.toList,∀b,dV u b->¬dV (tm g) b
def uT.keep(h:uT B w v n)(d:∀b,dV v b->w'.heap[b]? =w.heap[b]?):uT B w' v n:=fun b o s len cap e l=>by obtain⟨f,g,cells,T,i,j⟩:=h b o s len cap e l;exact⟨f,g,cells,T,by rw[d b ⟨o,s,len,cap,e,l⟩];exact i,j⟩
def tT.keep{Q g:Nat->Nat->D->Value->Prop}{d:D}(h:tT w v n Q d)(p:∀b,dV v b->w'.heap[b]? =w.heap[b]?)(q:∀i j d u,Q i j d u->g i j d u):tT w' v n g d:=by obtain⟨a,len,cap,e,k,t,x,y,z,A,B,l⟩:=h;refine⟨a,len,cap,e,k,t,x,y,z,A,B,fun b o s f=>⟨(l b o s f).1,fun i r m j d C=> ?_⟩⟩;obtain⟨u,G,H⟩:=(l b o s f).2 i r m j d C;refine⟨u,?_,q _ _ _ _ H⟩;have I:=(dh.1 m).1;rw[<-G];exact Df (p b ⟨o,s,len,cap,by rw[k,f],by omega⟩)
def CP.keep{tm':Nat->Value}{p:Option (Nat×List Nat)}(v:∀g m,p=some (g,m)->tm' g=tm g)(l:∀g m cells u b,p=some (g,m)->tm g=.tuple cells->u∈cells.toList->dV u b->w'.heap[b]? =w.heap[b]?){i j:Nat}{d:D}{u:Value}
    (h:CP B w tm n p i j d u):CP B w' tm' n p i j d u:=by
  rcases p with _|⟨g,m⟩
  · exact h
  · refine⟨h.1,fun o=> ?_⟩
    obtain⟨⟨cells,f,e⟩,q,r⟩:=h.2 o;have k:∀b,dV u b->w'.heap[b]? =w.heap[b]? :=fun b=>l g m cells u b rfl f (by rw[<-sY]at e;exact jB e)
    exact⟨⟨cells,by rw[v g m rfl];exact f,e⟩,q.keep k,r.keep k fun _ _ _ _ h=>h⟩
structure aN(c:SC)(F:Nat->Prop)(σ:Nat->ST)(bm:Nat->Nat)(tm:Nat->Value)(a:Act)(w:World):Prop where
  fr:Fr c.B c.X c.w0 w
  hB:c.B<=w.heap.size
  m0:(∀p,c.M0 p->p.block<c.B)/\GOk c
  tmps:∀t,rC w (MM c.M0 bm tm σ) bm tm c.env (σ (3*t)) (a.tmps.getD t undef)
  box:∀id cs,σ (3*id+1)=.box cs->tR c w (MM c.M0 bm tm σ) bm tm id cs
  live:∀g n,σ (3*g+2)=.live n->sV c w tm g n
  pJ:∀id id' cs cs',σ (3*id+1)=.box cs->σ (3*id'+1)=.box cs'->id≠id'->bm id≠bm id'
  lK:∀id cs g n b,σ (3*id+1)=.box cs->σ (3*g+2)=.live n->jy tm g n b->bm id≠b
  lT:∀g n g' n' b b',σ (3*g+2)=.live n->σ (3*g'+2)=.live n'->g≠g'->jy tm g n b->jy tm g' n' b'->b≠b'
  f1:∀l g,cE (σ l) g->F g
  f2:∀id cs,σ (3*id+1)=.box cs->F id
  f3:∀g n,σ (3*g+2)=.live n->F g
  size:a.tmps.size=c.nt
  defers:a.defers=[]
  x0:∀g,c.X=some g->bm 0=g/\F 0
section
variable {c:SC}{F F':Nat->Prop}{σ bJ:Nat->ST}{bm ep:Nat->Nat}{tm tm':Nat->Value}{a:Act}{w w':World}
def aN.mono(s:aN c F σ bm tm a w)(h:∀g,F g->F' g):aN c F' σ bm tm a w :=
  {s with f1:=fun l g hg=>h g (s.f1 l g hg),f2:=fun id b d=>h id (s.f2 id b d),f3:=fun g n e=>h g (s.f3 g n e),x0:=fun g hg=>⟨(s.x0 g hg).1,h 0 (s.x0 g hg).2⟩}
def avN{M0:Addr->Prop}(h1:∀id,bJ (3*id+1)=σ (3*id+1))(h2:∀g,bJ (3*g+2)=σ (3*g+2)):MM M0 bm tm bJ=MM M0 bm tm σ:=by funext p;simp only[MM,h1,h2]
def PF(d id:Nat)(s:ST):aW σ (3*d) s (3*id+1)=σ (3*id+1):=fZ _ _ (by omega)
def PG(d g:Nat)(s:ST):aW σ (3*d) s (3*g+2)=σ (3*g+2):=fZ _ _ (by omega)
def avm{d:Nat}(hd:d<a.tmps.size)(t:Nat):(a.put (some d) v).tmps.getD t undef=if t=d then v else a.tmps.getD t undef:=by
  simp only[Act.put,sX,C5];by_cases h:t=d
  · subst h;simp[hd]
  · simp[h,ye h]
def aN.put(s:aN c F σ bm tm a w){d:Nat}{st:ST}{v:Value}(hd:d<c.nt)(r:rC w (MM c.M0 bm tm σ) bm tm c.env st v)(m:∀g,cE st g->F g) :
    aN c F (aW σ (3*d) st) bm tm (a.put (some d) v) w:=by
  have f:MM c.M0 bm tm (aW σ (3*d) st)=MM c.M0 bm tm σ:=avN (fun id=>PF _ _ _) (fun g=>PG _ _ _);refine⟨s.fr,s.hB,s.m0,fun t=> ?_,fun id b h=> ?_,fun g n h=> ?_,?_,?_,?_,fun l g h=> ?_,fun id b h=> ?_,fun g n h=> ?_,?_,s.defers,s.x0⟩
  · rw[f,avm (by rw[s.size];exact hd)]
    by_cases e:t=d
    · subst e;rw[cH];simpa using r
    · rw[fZ _ _ (by omega)];simpa[e]using s.tmps t
  · rw[PF]at h;rw[f];exact s.box id b h
  · rw[PG]at h;exact s.live g n h
  · simp only[PF];exact s.pJ
  · simp only[PF,PG];exact s.lK
  · simp only[PG];exact s.lT
  · by_cases e:l=3*d
    · subst e;rw[cH]at h;exact m g h
    · rw[fZ _ _ e]at h;exact s.f1 l g h
  · rw[PF]at h;exact s.f2 id b h
  · rw[PG]at h;exact s.f3 g n h
  · simp[Act.put,s.size]
def aN.nY(h:aN c F σ bm tm a w){dst:Option Nat}{st:ST}{v:Value}(hd:∀d,dst=some d->d<c.nt)(r:rC w (MM c.M0 bm tm σ) bm tm c.env st v)(m:∀g,cE st g->F g) :
    aN c F (dq σ (wv dst st)) bm tm (a.put dst v) w:=by
  cases dst with
  |none=>exact h
  |some d=>exact h.put (hd d rfl) r m
def aN.turn(h:aN c F σ bm tm a w)(r:∀t,bJ (3*t)=σ (3*t))(e:∀g,F g->ep g=bm g/\tm' g=tm g)(s:∀g,F g->F' g)(f:Fr c.B c.X w w')
    (u:bQ w (MM c.M0 bm tm σ) w' (MM c.M0 ep tm' bJ))
    (o:∀id cs,bJ (3*id+1)=.box cs->tR c w' (MM c.M0 ep tm' bJ) ep tm' id cs)
    (i:∀g n,bJ (3*g+2)=.live n->sV c w' tm' g n)
    (j:∀id d cs cs',bJ (3*id+1)=.box cs->bJ (3*d+1)=.box cs'->id≠d->ep id≠ep d)
    (k:∀id cs g n b,bJ (3*id+1)=.box cs->bJ (3*g+2)=.live n->jy tm' g n b->ep id≠b)
    (m:∀g n g' p b q,bJ (3*g+2)=.live n->bJ (3*g'+2)=.live p->g≠g'->jy tm' g n b->jy tm' g' p q->b≠q)
    (f1:∀l g,cE (bJ l) g->F' g) (f2:∀id cs,bJ (3*id+1)=.box cs->F' id) (f3:∀g n,bJ (3*g+2)=.live n->F' g):aN c F' bJ ep tm' a w' :=
  ⟨h.fr.trans f,dK h.hB f.size,h.m0,
   fun t=>by rw[r];exact(h.tmps t).keep u fun g hg=>e g (h.f1 _ _ hg),o,i,j,k,m,f1,f2,f3,h.size,h.defers,fun g hg=>⟨((e 0 (h.x0 g hg).2).1).trans (h.x0 g hg).1,s 0 (h.x0 g hg).2⟩⟩
def tR.keep{M':Addr->Prop}{id:Nat}{cs:List (K×E)}(h:tR c w M bm tm id cs)(k:bQ w M w' M')(hb:ep id=bm id)(b:w'.heap[bm id]? =w.heap[bm id]?)(m:∀g,(∃x∈cs,x.1.has g)->tm' g=tm g):tR c w' M' ep tm' id cs:=by obtain⟨v,T,d,e,f⟩:=h;exact⟨v,T,by rw[hb,b];exact d,e.keep k m,by rw[hb];exact f⟩
def tR.lt{id:Nat}{cs:List (K×E)}(h:tR c w M bm tm id cs):bm id<w.heap.size:=by
  obtain⟨v,T,b,_⟩:=h;rcases dP (bm id) w.heap.size with h|h
  · exact h
  · rw[E5 h]at b;cases b
def ox{n:LV}{b:Nat}(t:tm' g=tm g)(j:∀x,cE (.live n) x->tm' x=tm x):jy tm' g n b↔jy tm g n b:=by
  unfold jy;rw[t];constructor
  · rintro (h|⟨e,v,m,cells,u,d,f,i⟩)
    · exact .inl h
    · exact .inr ⟨e,v,m,cells,u,d,by rw[<-j v ⟨e,m,d⟩];exact f,i⟩
  · rintro (h|⟨e,v,m,cells,u,d,f,i⟩)
    · exact .inl h
    · exact .inr ⟨e,v,m,cells,u,d,by rw[j v ⟨e,m,d⟩];exact f,i⟩
def sV.keep{n:LV}(h:sV c w tm g n)(l:∀b,jy tm g n b->w'.heap[b]? =w.heap[b]?)(t:tm' g=tm g)(y:∀x,cE (.live n) x->tm' x=tm x):sV c w' tm' g n:=by
  refine⟨?_,fun e A f=> ?_,fun e v s f=> ?_⟩
  · rw[t];exact h.sp.keep fun b k=>l b (.inl k)
  · rw[t]
    refine(h.bd e A f).keep (fun b k=>l b (.inl k)) fun i j d u B=>B.keep (fun v s p=>y v ⟨e,s,by rw[f,p]⟩) fun v s cells u b p o q r=>l b (.inr ⟨e,v,s,cells,u,by rw[f,p],o,q,r⟩)
  · obtain⟨cells,o,q,r,C⟩:=h.dp e v s f
    refine⟨cells,by rw[y v ⟨e,s,f⟩];exact o,fun u z=> ?_,r,by rw[t];exact C⟩;obtain⟨m,G⟩:=q u z;exact⟨m,G.keep fun b k=>l b (.inr ⟨e,v,s,cells,u,f,o,z,k⟩)⟩
def uT.lt{b:Nat}(h:uT B w v n)(hb:dV v b):b<w.heap.size/\B<=b:=by
  obtain⟨o,s,len,cap,e,l⟩:=hb;obtain⟨_,f,cells,T,d,_⟩:=h b o s len cap e l;refine⟨?_,f⟩;rcases dP b w.heap.size with h|h
  · exact h
  · rw[E5 h]at d;cases d
def sV.dz{b:Nat}{n:LV}(h:sV c w tm g n)(hb:jy tm g n b):b<w.heap.size/\c.B<=b:=by
  rcases hb with hb|⟨e,v,s,cells,u,d,f,i,j⟩
  · exact h.sp.lt hb
  · obtain⟨l,q1,q2,_⟩:=h.dp e v s d
    rw[f]at q1;cases q1;obtain⟨m,k⟩:=q2 u i;exact k.lt j
def sV.lt{b:Nat}{n:LV}(h:sV c w tm g n)(hb:jy tm g n b):b<w.heap.size:=(h.dz hb).1
def aN.grow(s:aN c F σ bm tm a w)(hb:Below w.heap.size w w'):aN c F σ bm tm a w':=by
  have k:bQ w (MM c.M0 bm tm σ) w' (MM c.M0 bm tm σ):=bQ.below hb fun _ _ h=>h;exact s.turn (fun _=>rfl) (fun _ _=>⟨rfl,rfl⟩) (fun _ h=>h) (zt hb s.hB) k
    (fun id e h=>(s.box id e h).keep k rfl (hb.block _ (s.box id e h).lt) fun _ _=>rfl)
    (fun g n h=>(s.live g n h).keep (fun b d=>hb.block _ ((s.live g n h).lt d)) rfl fun _ _=>rfl) s.pJ s.lK s.lT s.f1 s.f2 s.f3
def PD(id t:Nat)(s:ST):aW σ (3*id+1) s (3*t)=σ (3*t):=fZ _ _ (by omega)
def mi(id g:Nat)(s:ST):aW σ (3*id+1) s (3*g+2)=σ (3*g+2):=fZ _ _ (by omega)
def iW{id i:Nat}(s:ST)(h:i≠id):aW σ (3*id+1) s (3*i+1)=σ (3*i+1):=fZ _ _ (by omega)
def PE(g t:Nat)(s:ST):aW σ (3*g+2) s (3*t)=σ (3*t):=fZ _ _ (by omega)
def wD(g id:Nat)(s:ST):aW σ (3*g+2) s (3*id+1)=σ (3*id+1):=fZ _ _ (by omega)
def pY{g':Nat}(s:ST)(h:g'≠g):aW σ (3*g+2) s (3*g'+2)=σ (3*g'+2):=fZ _ _ (by omega)
def aN.We(s:aN c F σ bm tm a w){id:Nat}{cs cs':List (K×E)}(hid:σ (3*id+1)=.box cs)
    (z:Fr c.B c.X w w') (o:∀k,k<w.heap.size->k≠bm id->w'.heap[k]? =w.heap[k]?)
    (f:∀M',M'=MM c.M0 bm tm σ->bQ w (MM c.M0 bm tm σ) w' M'->tR c w' M' bm tm id cs') (H:∀g,(∃x∈cs',x.1.has g)->F g) :
    aN c F (aW σ (3*id+1) (.box cs')) bm tm a w':=by
  have B:MM c.M0 bm tm (aW σ (3*id+1) (.box cs'))=MM c.M0 bm tm σ:=by
    funext p;simp only[MM,mi];apply propext;constructor
    · rintro (h|⟨i,q,r,j⟩|h)
      · exact .inl h
      · by_cases e:i=id
        · subst e;exact .inr (.inl ⟨i,cs,hid,j⟩)
        · rw[iW _ e]at r;exact .inr (.inl ⟨i,q,r,j⟩)
      · exact .inr (.inr h)
    · rintro (h|⟨i,q,r,j⟩|h)
      · exact .inl h
      · by_cases e:i=id
        · subst e;exact .inr (.inl ⟨i,cs',cH _ _ _,j⟩)
        · exact .inr (.inl ⟨i,q,by rw[iW _ e];exact r,j⟩)
      · exact .inr (.inr h)
  have A:bQ w (MM c.M0 bm tm σ) w' (MM c.M0 bm tm σ):=fun p v C G=>by refine⟨?_,G⟩;have d:p.block≠bm id:=fun e=>G (.inr (.inl ⟨id,cs,hid,e⟩));rw[<-C];exact Df (o _ (gm C) d)
  refine s.turn (fun t=>PD _ _ _) (fun _ _=>⟨rfl,rfl⟩) (fun _ h=>h) z (by rw[B];exact A) ?_ ?_ ?_ ?_ ?_ ?_ ?_ ?_
  · intro i q h
    rw[B];by_cases e:i=id
    · subst e;rw[cH]at h;simp at h;subst h;exact f _ rfl A
    · rw[iW _ e]at h
      exact(s.box i q h).keep A rfl (o _ (s.box i q h).lt (s.pJ _ _ _ _ h hid e)) fun _ _=>rfl
  · intro g n h
    rw[mi]at h;exact(s.live g n h).keep (fun b m=>o _ ((s.live g n h).lt m) (ye (s.lK id cs g n b hid h m))) rfl fun _ _=>rfl
  · intro i I q J h u d
    by_cases e:i=id<;>by_cases y:I=id
    · exact absurd (e.trans y.symm) d
    · subst e;rw[iW _ y]at u;exact s.pJ _ _ _ _ hid u d
    · subst y;rw[iW _ e]at h;exact s.pJ _ _ _ _ h hid d
    · rw[iW _ e]at h;rw[iW _ y]at u;exact s.pJ _ _ _ _ h u d
  · intro i q g n b h hg m
    rw[mi]at hg;by_cases e:i=id
    · subst e;exact s.lK _ _ _ _ _ hid hg m
    · rw[iW _ e]at h;exact s.lK _ _ _ _ _ h hg m
  · simp only[mi];exact s.lT
  · intro l g h
    by_cases e:l=3*id+1
    · subst e;rw[cH]at h;exact H g h
    · rw[fZ _ _ e]at h;exact s.f1 l g h
  · intro i q h
    by_cases e:i=id
    · subst e;exact s.f2 _ _ hid
    · rw[iW _ e]at h;exact s.f2 _ _ h
  · intro g n h;rw[mi]at h;exact s.f3 g n h
def aN.aEN(s:aN c F σ bm tm a w){g:Nat}(hg:¬F g){cs:List (K×E)}{vs:List Value}{T:TypeId}(B:dm w (MM c.M0 bm tm σ) tm c.env cs vs)(C:∀x,(∃y∈cs,y.1.has x)->F x) :
    aN c (fun x=>F x\/x=g) (aW σ (3*g+1) (.box cs)) (aW bm g w.heap.size) tm a (w.alloc (.cells vs.toArray T)):=by
  have u:Below w.heap.size w (w.alloc (.cells vs.toArray T)):=(dQ _ _).alloc (bM _) _;have m:∀x,F x->aW bm g w.heap.size x=bm x:=fun x d=>fZ _ _ (fun e=>hg (e▸d));have z:bQ w (MM c.M0 bm tm σ) (w.alloc (.cells vs.toArray T)) (MM c.M0 (aW bm g w.heap.size) tm (aW σ (3*g+1) (.box cs))):=by
    refine bQ.below u fun p H h=> ?_;rcases h with h|⟨i,q,j,k⟩|⟨x,n,j,k⟩
    · exact .inl h
    · by_cases e:i=g
      · subst e;rw[cH]at k;omega
      · rw[iW _ e]at j;rw[fZ _ _ e]at k;exact .inr (.inl ⟨i,q,j,k⟩)
    · rw[mi]at j;exact .inr (.inr ⟨x,n,j,k⟩)
  refine s.turn (fun t=>PD _ _ _) (fun x d=>⟨m x d,rfl⟩) (fun _ h=>.inl h) (zt u s.hB) z ?_ ?_ ?_ ?_ ?_ ?_ ?_ ?_
  · intro i q h
    by_cases e:i=g
    · subst e;rw[cH]at h;simp at h;subst h
      refine⟨vs,T,?_,B.keep z fun _ _=>rfl,.inl ?_⟩
      · rw[cH];exact vg _ _
      · rw[cH];exact s.hB
    · rw[iW _ e]at h
      exact(s.box i q h).keep z (m i (s.f2 _ _ h)) (Mb _ _ _ (s.box i q h).lt) fun _ _=>rfl
  · intro x n h
    rw[mi]at h;exact(s.live x n h).keep (fun b u=>Mb _ _ _ ((s.live x n h).lt u)) rfl fun _ _=>rfl
  · intro i A q G h v o
    by_cases e:i=g<;>by_cases f:A=g
    · exact absurd (e.trans f.symm) o
    · subst e;rw[iW _ f]at v;rw[cH,fZ _ _ f];have:=(s.box A G v).lt;omega
    · subst f;rw[iW _ e]at h;rw[cH,fZ _ _ e];have:=(s.box i q h).lt;omega
    · rw[iW _ e]at h;rw[iW _ f]at v;rw[fZ _ _ e,fZ _ _ f];exact s.pJ _ _ _ _ h v o
  · intro i q x n b h d r
    rw[mi]at d;by_cases e:i=g
    · subst e;rw[cH];have:=(s.live x n d).lt r;omega
    · rw[iW _ e]at h;rw[fZ _ _ e];exact s.lK _ _ _ _ _ h d r
  · simp only[mi];exact s.lT
  · intro l x h
    by_cases e:l=3*g+1
    · subst e;rw[cH]at h;exact .inl (C x h)
    · rw[fZ _ _ e]at h;exact .inl (s.f1 l x h)
  · intro i q h
    by_cases e:i=g
    · exact .inr e
    · rw[iW _ e]at h;exact .inl (s.f2 _ _ h)
  · intro x n h;rw[mi]at h;exact .inl (s.f3 x n h)
def aN.aEO(s:aN c F σ bm tm a w){g d:Nat}(hg:¬F g)(hb:Below w.heap.size w w')(J:w.heap.size<=d){cs:List (K×E)}{vs:List Value}{T:TypeId}(o:w'.heap[d]? =some (.cells vs.toArray T (0,0)))
    (L:dm w' (fun p=>MM c.M0 bm tm σ p\/p.block=d) tm c.env cs vs) (N:∀x,(∃y∈cs,y.1.has x)->F x) :
    aN c (fun x=>F x\/x=g) (aW σ (3*g+1) (.box cs)) (aW bm g d) tm a w':=by
  have r:∀x,F x->aW bm g d x=bm x:=fun x j=>fZ _ _ (fun e=>hg (e▸j));have C:∀p,MM c.M0 (aW bm g d) tm (aW σ (3*g+1) (.box cs)) p->(MM c.M0 bm tm σ p\/p.block=d):=by
    intro p h;rcases h with h|⟨i,q,u,k⟩|⟨x,n,u,k⟩
    · exact .inl (.inl h)
    · by_cases e:i=g
      · subst e;rw[cH]at k;exact .inr k
      · rw[iW _ e]at u;rw[fZ _ _ e]at k;exact .inl (.inr (.inl ⟨i,q,u,k⟩))
    · rw[mi]at u;exact .inl (.inr (.inr ⟨x,n,u,k⟩))
  have G:bQ w (MM c.M0 bm tm σ) w' (MM c.M0 (aW bm g d) tm (aW σ (3*g+1) (.box cs))):=by
    refine bQ.below hb fun p H h=> ?_;rcases C p h with h|h
    · exact h
    · omega
  have B:bQ w' (fun p=>MM c.M0 bm tm σ p\/p.block=d) w' (MM c.M0 (aW bm g d) tm (aW σ (3*g+1) (.box cs))):=fun p v H O=>⟨H,fun h=>O (C p h)⟩;refine s.turn (fun t=>PD _ _ _) (fun x j=>⟨r x j,rfl⟩) (fun _ h=>.inl h) (zt hb s.hB) G ?_ ?_ ?_ ?_ ?_ ?_ ?_ ?_
  · intro i q h
    by_cases e:i=g
    · subst e;rw[cH]at h;simp at h;subst h
      refine⟨vs,T,?_,L.keep B fun _ _=>rfl,.inl ?_⟩
      · rw[cH];exact o
      · rw[cH];exact dK s.hB J
    · rw[iW _ e]at h
      exact(s.box i q h).keep G (r i (s.f2 _ _ h)) (hb.block _ (s.box i q h).lt) fun _ _=>rfl
  · intro x n h
    rw[mi]at h;exact(s.live x n h).keep (fun b f=>hb.block _ ((s.live x n h).lt f)) rfl fun _ _=>rfl
  · intro i I q Q h A z
    by_cases e:i=g<;>by_cases m:I=g
    · exact absurd (e.trans m.symm) z
    · subst e;rw[iW _ m]at A;rw[cH,fZ _ _ m];have:=(s.box I Q A).lt;omega
    · subst m;rw[iW _ e]at h;rw[cH,fZ _ _ e];have:=(s.box i q h).lt;omega
    · rw[iW _ e]at h;rw[iW _ m]at A;rw[fZ _ _ e,fZ _ _ m];exact s.pJ _ _ _ _ h A z
  · intro i q x n b h j f
    rw[mi]at j;by_cases e:i=g
    · subst e;rw[cH];have:=(s.live x n j).lt f;omega
    · rw[iW _ e]at h;rw[fZ _ _ e];exact s.lK _ _ _ _ _ h j f
  · simp only[mi];exact s.lT
  · intro l x h
    by_cases e:l=3*g+1
    · subst e;rw[cH]at h;exact .inl (N x h)
    · rw[fZ _ _ e]at h;exact .inl (s.f1 l x h)
  · intro i q h
    by_cases e:i=g
    · exact .inr e
    · rw[iW _ e]at h;exact .inl (s.f2 _ _ h)
  · intro x n h;rw[mi]at h;exact .inl (s.f3 x n h)
end
end
end Go.Proofs.YtoomhbopolalnabGreatDoor
