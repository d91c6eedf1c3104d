/- What single operations of the machine do, at types of which a table tells enough. No program in sight. -/
import Derived.Test.YtoomhbopolalnaaGreatDoorS0
set_option linter.all false
namespace Go.Proofs.YtoomhbopolalnaaGreatDoor
variable {f:Array Field}{t:CT}{T g n:Nat}{d:TypeDesc}{i:TypeInfo}{w w':World}
section
open Go.RowKit
def OQ{P:Program}{b:TB}:∀{tb:TB},cY P b tb=true->∀{T:Nat} {ti:TI},tb.get T=some ti->Kz P b T ti=true
 |[],_,T,ti,h=>by simp[TB.get]at h
 |(t,i)::r,k,T,ti,h=>by
  simp[cY]at k;simp only[TB.get]at h;cases e:Nat.beq t T with
  |true=> rw[e]at h;simp only[gD,aS]at h;subst h;have:t=T:=gL e;subst this;exact k.1
  |false=>rw[e]at h;exact OQ k.2 h
def iF:CT->TypeDesc->Prop
 |.bool,d=>d=.bool
 |.int k,d=>d=.int k
 |.str,d=>d=.string
 |.sl e,d=>d=.slice e
 |.mem,_=>False
 |.fn,_=>False
section
variable {P:Program}{tb:TB}(aE:cY P tb tb=true){T:Nat}{ti:TI}(hg:tb.get T=some ti)
include aE hg
def fW(v:ti.vt=.one (.c t)):∃i d,P.info? T=some i/\i.size=1/\i.bytes=ti.bytes/\(∃z,i.zero=some z/\zeroV t z=true)/\P.underlying T=some d/\iF t d:=by
 have h:=OQ aE hg;simp only[Kz,v]at h;split at h
 ·simp at h
 ·rename_i i g;simp only[aY,vA]at h;obtain⟨⟨⟨⟨j,k⟩,e⟩,b⟩,_⟩:=h;cases u:P.underlying T with
  |none=>rw[u]at b;cases t<;>simp[MR]at b
  |some d=>
   rw[u]at b;refine⟨i,d,g,j,k,?_,rfl,?_⟩
   ·cases f:i.zero with
    |none=>rw[f]at e;simp[XQ]at e
    |some z=>rw[f]at e;exact⟨z,rfl,e⟩
   ·cases t<;>cases d<;>simp[MR]at b<;>simp[iF,b]
def pU{t:List CT}(v:ti.vt=.one (.agg t)):∃i fields cs,P.info? T=some i/\i.size=t.length/\i.bytes=ti.bytes/\i.zero=some (.agg cs)/\sR t cs.toList=true/\P.underlying T=some (.struct fields)/\ux tb ti.fs fields.toList=true:=by
 have h:=OQ aE hg;simp only[Kz,v]at h;split at h
 ·simp at h
 ·rename_i i g;simp only[aY,vA]at h;obtain⟨⟨⟨⟨j,k⟩,b⟩,e⟩,_⟩:=h;cases u:P.underlying T with
  |none=>rw[u]at e;simp[MR]at e
  |some d=>
   rw[u]at e;cases d<;>simp[MR]at e;rename_i fields;cases f:i.zero with
   |none=>rw[f]at b;simp[XQ]at b
   |some z=> rw[f]at b;cases z<;>simp[XQ]at b;rename_i cs;exact⟨i,fields,cs,g,j,k,f,b,rfl,e⟩
def adl(ha:Mq tb ti=some (n,t)):∃e d i,P.underlying T=some (.array n e)/\tb.get e=some d/\d.vt=.one (.c t)/\P.info? T=some i/\i.size=n:=by
 have h:=OQ aE hg;unfold Mq at ha;split at ha
 ·rename_i s m e k f;split at ha
  ·rename_i d g;split at ha
   ·rename_i o v;simp at ha;obtain⟨rfl,rfl⟩:=ha;simp only[Kz,k,f,aY]at h;obtain⟨b,j⟩:=h;split at b
    ·rename_i p q u;simp only[aY]at b;have q1:=gL b.1;have q2:=gL b.2;subst q1 q2;split at j
     ·rename_i i l;exact⟨_,d,i,u,g,v,l,gL j⟩
     ·simp at j
    ·simp at b
   ·simp at ha
  ·simp at ha
 ·simp at ha
def tL{v:V1}(g:ti.vt=.one v):∃i,P.info? T=some i/\i.size=v.cells.length/\i.bytes=ti.bytes:=by
 cases v with
 |c t=>obtain⟨i,d,h,b,e,_⟩:=fW aE hg g;exact⟨i,h,b,e⟩
 |agg s=>obtain⟨i,f,c,h,b,e,_⟩:=pU aE hg g;exact⟨i,h,b,e⟩
end
section
variable {P:Program}{w:World}
def run_typeInfo(h:P.info? T=some i):(typeInfo T).run P w=.ok i w:=by simp[typeInfo,h]
def run_sizeOf(h:P.info? T=some i):(sizeOf T).run P w=.ok i.size w:=by simp[sizeOf,run_typeInfo h]
def run_underlying(h:P.underlying T=some d):(underlying T).run P w=.ok d w:=by simp[underlying,h]
def acY(h:P.underlying T=some d)(hd:iF t d):(isAgg T).run P w=.ok false w:=by cases t<;>simp[iF]at hd<;>subst hd<;>simp[isAgg,run_underlying h]
def amK(h:P.underlying T=some (.struct f)):(isAgg T).run P w=.ok true w:=by simp[isAgg,run_underlying h]
def Ha(h:P.underlying T=some d)(hd:iF t d){a:Addr}{v:Value}(b:w.cell? a=some v):(loadVar T a).run P w=.ok v w:=by simp[loadVar,acY h hd,b]
def addr_add(b o j:Nat):(⟨b,o,none⟩:Addr).add j=⟨b,o+j,none⟩:=by unfold Addr.add;by_cases h:j=0<;>simp[h]
def OK(h:P.underlying T=some (.struct f)){i:TypeInfo}(e:P.info? T=some i){b o:Nat}{vs:List Value}(l:vs.length=i.size)
  (g:∀j u,vs[j]? =some u->w.cell? ⟨b,o+j,none⟩=some u):(loadVar T ⟨b,o,none⟩).run P w=.ok (.agg vs.toArray) w:=by
 have d:=IY (P:=P) (w:=w) ⟨b,o,none⟩ vs (fun j u k=>by rw[addr_add];exact g j u k);rw[l]at d;simp[loadVar,amK h,run_sizeOf e,d]
def aFH{e:Nat}(h:P.underlying T=some (.array n e)):(isAgg T).run P w=.ok true w:=by simp[isAgg,run_underlying h]
def aFI{e:Nat}(h:P.underlying T=some (.array n e)){i:TypeInfo}(f:P.info? T=some i){b o:Nat}{vs:List Value}(l:vs.length=i.size)
  (g:∀j u,vs[j]? =some u->w.cell? ⟨b,o+j,none⟩=some u):(loadVar T ⟨b,o,none⟩).run P w=.ok (.agg vs.toArray) w:=by
 have d:=IY (P:=P) (w:=w) ⟨b,o,none⟩ vs (fun j u k=>by rw[addr_add];exact g j u k);rw[l]at d;simp[loadVar,aFH h,run_sizeOf f,d]
def iC(cs:Array Value)(off:Nat):List Value->Array Value
 |[]=>cs
 |x::r=>iC (cs.setIfInBounds off x) (off+1) r
def Hf:∀(l:List Value) (cs:Array Value) (off:Nat),(iC cs off l).toList=ni cs.toList off l
 |[],_,_=>rfl
 |x::r,cs,off=>by simp[iC,ni,Hf r]
def Kv:∀(l:List Value) (cs:Array Value) (off:Nat),(iC cs off l).size=cs.size
 |[],_,_=>rfl
 |x::r,cs,off=>by simp[iC,Kv r]
structure bU(w w':World)(g:Nat):Prop where
 os:w'.os=w.os
 tape:w'.tape=w.tape
 output:w'.output=w.output
 size:w'.heap.size=w.heap.size
 block:∀k,k≠g->w'.heap[k]? =w.heap[k]?
def bU.refl(w:World)(g:Nat):bU w w g:=⟨rfl,rfl,rfl,rfl,fun _ _=>rfl⟩
def bU.set(h:bU w w' g)(o:Nat)(v:Value):bU w (w'.setCell ⟨g,o,none⟩ v) g :=
 ⟨h.os,h.tape,h.output,by simpa using h.size,fun k b=>(heap_setCell_other w' ⟨g,o,none⟩ k v b).trans (h.block k b)⟩
def Ef(g:Nat)(T:TypeId):∀(vs:List Value) (w:World) (C:Array Value) (o i:Nat),w.heap[g]? =some (.cells C T (0,0))->(∀v∈vs,v.oneCell'=true)->o+i+vs.length<=C.size ->
  ∃w',(storeCells ⟨g,o,none⟩ vs i).run P w=.ok () w'/\w'.heap[g]? =some (.cells (iC C (o+i) vs) T (0,0))/\bU w w' g
 |[],w,C,o,i,hg,_,_=>⟨w,by simp[storeCells],hg,bU.refl _ _⟩
 |v::r,w,C,o,i,hg,d,j=>by
  simp only[dU]at j;have l:o+i<C.size:=by omega
  have h:w.cell? ⟨g,o+i,none⟩=some C[o+i]:=by rw[ye w g (o+i) C T (0,0) hg];exact Ix l
  have f:=frozen_of_row w g (o+i) C T hg;have s:=heap_setCell_same w g (o+i) C T v hg;obtain⟨w',m,n,b⟩:=Ef g T r (w.setCell ⟨g,o+i,none⟩ v) (C.setIfInBounds (o+i) v) o (i+1) s (fun x p=>d x (by simp[p])) (by simp;omega);refine⟨w',?_,?_,?_⟩
  ·simp only[storeCells,mw,addr_add,run_store P w _ v .plain (d v (by simp)),h,f];simpa using m
  ·simpa[iC,wV]using n
  ·exact⟨b.os,b.tape,b.output,by simpa using b.size,fun k e=>(b.block k e).trans (heap_setCell_other w ⟨g,o+i,none⟩ k v e)⟩
end
end
variable {p:Addr}{M:Addr->Prop}{e:E}{env:List D}{B j x:Nat}{tm:Nat->Value}{X:Option Nat}{α:Type}{u v:Value}{a b:World}
section
open Go.RowKit
variable [GC]
def aW(σ:Nat->α)(l:Nat)(s:α):Nat->α:=fun x=>if x=l then s else σ x
def cH(σ:Nat->α)(l:Nat)(s:α):aW σ l s l=s:=by simp[aW]
def gb(σ:Nat->α){l x:Nat}(s:α)(h:x≠l):aW σ l s x=σ x:=by simp[aW,h]
def di(σ:Nat->ST):List (Nat×ST)->Nat->ST
  |[]=>σ
  |(l,s)::r=>di (aW σ l s) r
def Yf(l:Nat)(s:ST)(q:Sg):Sg.get ((l,s)::q)=aW (Sg.get q) l s:=by
  funext x;simp only[Sg.get,aW];cases e:Nat.beq l x with
  |true=>simp[gL e]
  |false=>
   have:x≠l:=fun h=>by rw[h]at e;simp at e
   simp[this]
def afY:∀(wr:List (Nat×ST)) (q:Sg),Sg.get (wr.reverse++q)=di (Sg.get q) wr
  |[],q=>rfl
  |(l,s)::r,q=>by rw[List.reverse_cons,iU,List.singleton_append,afY r,Yf];rfl
structure Fr(B:Nat)(X:Option Nat)(w w':World):Prop where
  os:w'.os=w.os
  tape:w'.tape=w.tape
  output:w'.output=w.output
  size:w.heap.size<=w'.heap.size
  block:∀k,k<B->some k≠X->w'.heap[k]? =w.heap[k]?
def Fr.refl(B:Nat)(X:Option Nat)(w:World):Fr B X w w:=⟨rfl,rfl,rfl,bK _,fun _ _ _=>rfl⟩
def Fr.trans{c:World}(h:Fr B X a b)(k:Fr B X b c):Fr B X a c :=
  ⟨k.os.trans h.os,k.tape.trans h.tape,k.output.trans h.output,dV h.size k.size,fun i d x=>(k.block i d x).trans (h.block i d x)⟩
def zo{d:Nat}(h:Below d a b)(e:B<=d):Fr B X a b:=⟨h.os,h.tape,h.output,h.size,fun k f _=>h.block k (by omega)⟩
def Ik(h:bU a b g)(hg:B<=g\/X=some g):Fr B X a b :=
  ⟨h.os,h.tape,h.output,lF h.size.symm,fun k d x=>h.block k (by rintro rfl;rcases hg with hg|hg;omega;exact x hg.symm)⟩
def Fr.Ek(h:Fr B none a b):Below B a b:=⟨h.os,h.tape,h.output,h.size,fun k d=>h.block k d (by simp)⟩
def cO(env:List D)(gs:Gd):Prop:=∀x∈gs,x.1.den env=.bool x.2
def cP(env:List D):cO env []:=by simp[cO]
def zH{g gs:Gd}(h:qQ g gs=true)(b:cO env gs):cO env g:=by intro x d;have:=fM.1 h x d;exact b x (by simpa using this)
def aan{gs:Gd}{c:E}{b:Bool}:cO env (gs++[(c,b)])↔cO env gs/\c.den env=.bool b:=by
  unfold cO;constructor
  · intro h;exact⟨fun x d=>h x (by simp[d]),h (c,b) (by simp)⟩
  · rintro⟨e,f⟩ x d
    rcases iV.1 d with h|h
    · exact e x h
    · simp at h;subst h;exact f
def Hg(v:Value)(n:Nat)(p:Addr):Prop:=∃b o s len cap,v=.slice (some ⟨b,o,s⟩) len cap/\p.block=b/\o+len*n<=p.off/\p.off<o+cap*n
def ownIn(v:Value)(n:LV)(p:Addr):Prop:=∃b o s len cap,v=.slice (some ⟨b,o,s⟩) len cap/\p.block=b/\0<cap/\(n.body=none->o+len*n.n<=p.off/\p.off<o+cap*n.n)
def Kw(h:Hg v n p):∃o s len cap,v=.slice (some ⟨p.block,o,s⟩) len cap/\0<cap:=by
  obtain⟨b,o,s,len,cap,d,f,g,i⟩:=h;refine⟨o,s,len,cap,by rw[f];exact d,?_⟩;rcases dO 0 cap with h|h
  · exact h
  · have e:cap=0:=by omega
    subst e;omega
def dS(v:Value)(b:Nat):Prop:=∃o s len cap,v=.slice (some ⟨b,o,s⟩) len cap/\0<cap
def xC(tm:Nat->Value)(g:Nat)(n:LV)(p:Addr):Prop:=ownIn (tm g) n p\/∃e v m cells u,n.body=some (e,some (v,m))/\tm v=.tuple cells/\u∈cells.toList/\dS u p.block
def jv(tm:Nat->Value)(g:Nat)(n:LV)(b:Nat):Prop:=dS (tm g) b\/∃e v m cells u,n.body=some (e,some (v,m))/\tm v=.tuple cells/\u∈cells.toList/\dS u b
def DU{n:LV}(h:Hg (tm g) n.n p):xC tm g n p:=by obtain⟨m,q,l,d,e,r⟩:=Kw h;obtain⟨b,o,s,len,cap,f,i,j,k⟩:=h;rw[f]at e;simp only[fA]at e;exact .inl ⟨b,o,s,len,cap,f,i,by omega,fun _=>⟨j,k⟩⟩
def Kk(h:xC tm g ⟨n,none⟩ p):Hg (tm g) n p:=by
  rcases h with⟨b,o,s,len,cap,f,i,j,d⟩|⟨e,v,m,cells,u,h,_⟩
  · exact⟨b,o,s,len,cap,f,i,(d rfl).1,(d rfl).2⟩
  · cases h
def OB{n:LV}(h:xC tm g n p):jv tm g n p.block:=by
  rcases h with⟨b,o,s,len,cap,d,e,f,i⟩|h
  · subst e;exact .inl ⟨o,s,len,cap,d,f⟩
  · exact .inr h
def acx{n:LV}(hb:n.body≠none)(h:jv tm g n p.block):xC tm g n p:=by
  rcases h with⟨o,s,len,cap,b,d⟩|h
  · exact .inl ⟨_,o,s,len,cap,b,rfl,d,fun h=>absurd h hb⟩
  · exact .inr h
def xY{b:Nat}(h:jv tm g ⟨n,none⟩ b):dS (tm g) b:=by
  rcases h with h|⟨e,v,m,cells,u,h,_⟩
  · exact h
  · cases h
def MM(M0:Addr->Prop)(bm:Nat->Nat)(tm:Nat->Value)(σ:Nat->ST):Addr->Prop :=
  fun p=>M0 p\/(∃id s,σ (3*id+1)=.box s/\p.block=bm id)\/(∃g n,σ (3*g+2)=.live n/\xC tm g n p)
def jL:Value->List Value
  |.agg cs=>cs.toList
  |v=>[v]
def nL:Value->List Value
  |.tuple vs=>vs.toList.flatMap jL
  |v=>jL v
def tF(tm:Nat->Value):KK->Value->Prop
  |.d,_=>True
  |.own g,u=>u=tm g
  |.full,u=>∃a,u=.slice a 0 0
def K.has:K->Nat->Prop
  |.own g,x=>x=g
  |.ag ks,x=>KK.own x∈ks
  |_,_=>False
def cy(w:World)(M:Addr->Prop)(tm:Nat->Value)(env:List D):K->E->Value->Prop
  |.d,e,v=>R w M (e.den env) v
  |.own g,e,v=>R w M (e.den env) v/\v=tm g
  |.full,e,v=>R w M (e.den env) v/\∃a,v=.slice a 0 0
  |.ag ks,e,v=>R w M (e.den env) v/\∀(j:Nat) (kk:KK) (u:Value),ks[j]? =some kk->(nL v)[j]? =some u->tF tm kk u
def cy.rd{k:K}(h:cy w M tm env k e v):R w M (e.den env) v:=by cases k<;>simp only[cy]at h<;>first|exact h|exact h.1
def XZ(g:Nat)(d:D):Prop:=∀w,qa w->∃s t f,w.heap[g]? =some (.cells s t f)/\∀(w':World) (M:Addr->Prop),Rs w' M d.kZ s.toList
def afD(env:List D):Option (Gd×E×Nat)->Prop
  |none=>True
  |some (gs,e,n)=>cO env gs->0<=(e.den env).ck/\(e.den env).ck<n
def rA(w:World)(M:Addr->Prop)(bm:Nat->Nat)(tm:Nat->Value)(env:List D):ST->Value->Prop
  |.v gs k e,v=>(cO env gs->cy w M tm env k e v)/\(¬cO env gs->v=undef)
  |.ptr gs id off,v=>(cO env gs->v=.pointer (some ⟨bm id,off,none⟩))/\(¬cO env gs->v=undef)
  |.ro gs e off,v=>(cO env gs->∃b o,v=.pointer (some ⟨b,o,none⟩)/\Rw w M ((e.den env).kZ.drop off) b o)/\(¬cO env gs->v=undef)
  |.mp gs g n i off,v=>(cO env gs->∃b o len cap,tm g=.slice (some ⟨b,o,none⟩) len cap/\0<=(i.den env).ck/\(i.den env).ck.toNat<len/\v=.pointer (some ⟨b,o+(i.den env).ck.toNat*n+off,none⟩))/\(¬cO env gs->v=undef)
  |.iv gs g d n i off l,v=>(cO env gs->(∃a L cap,tm g=.slice a L cap/\0<=(i.den env).ck/\(i.den env).ck.toNat<L)/\(∃cells,tm d=.tuple cells/\cells[(i.den env).ck.toNat*n+off]? =some v)/\R w M (.mem (l.den env).ck.toNat) v)/\(¬cO env gs->v=undef)
  |.ip gs g d n i off j m f,v=>(cO env gs->(∃a L cap,tm g=.slice a L cap/\0<=(i.den env).ck/\(i.den env).ck.toNat<L)/\∃cells b o len cap,tm d=.tuple cells/\cells[(i.den env).ck.toNat*n+off]? =some (.slice (some ⟨b,o,none⟩) len cap)/\0<=(j.den env).ck/\(j.den env).ck.toNat<len/\len<=cap/\v=.pointer (some ⟨b,o+(j.den env).ck.toNat*m+f,none⟩))/\(¬cO env gs->v=undef)
  |.gp gs g x i,v=>(cO env gs->v=.pointer (some ⟨g,(i.den env).ck.toNat,none⟩)/\XZ g (x.den env)/\(i.den env).ck.toNat<(x.den env).kZ.length)/\(¬cO env gs->v=undef)
  |_,_=>True
def dh(w:World)(M:Addr->Prop)(tm:Nat->Value)(env:List D):List (K×E)->List Value->Prop
  |[],vs=>vs=[]
  |c::r,vs=>∃v q,vs=v::q/\cy w M tm env c.1 c.2 v/\dh w M tm env r q
def cE:ST->Nat->Prop
  |.v _ k _,x=>k.has x
  |.ptr _ id _,x=>x=id
  |.mp _ g _ _ _,x=>x=g
  |.iv _ g v _ _ _ _,x=>x=g\/x=v
  |.ip _ g v _ _ _ _ _ _,x=>x=g\/x=v
  |.live n,x=>∃e m,n.body=some (e,some (x,m))
  |.box cs,x=>∃c∈cs,c.1.has x
  |_,_=>False
section
variable {w w':World}{M M':Addr->Prop}{bm ep:Nat->Nat}{tm tm':Nat->Value}{env:List D}
def tF.keep{kk:KK}(m:∀g,kk=.own g->tm' g=tm g)(h:tF tm kk u):tF tm' kk u:=by
  cases kk with
  |d=>trivial
  |own g=>simp only[tF]at *;rw[m g rfl];exact h
  |full=>exact h
def cy.keep(b:bR w M w' M'){k:K}{e:E}{v:Value}(m:∀g,k.has g->tm' g=tm g)(h:cy w M tm env k e v):cy w' M' tm' env k e v:=by
  cases k with
  |d=>exact R.keep b _ _ h
  |own g=>exact⟨R.keep b _ _ h.1,by rw[m g rfl];exact h.2⟩
  |full=>exact⟨R.keep b _ _ h.1,h.2⟩
  |ag s=>exact⟨R.keep b _ _ h.1,fun j kk u f i=>(h.2 j kk u f i).keep fun g hg=>m g (by subst hg;exact jx f)⟩
def afG(kk:KK):kk.k.kk=kk:=by cases kk<;>rfl
def auP{k:K}(h:k.kk=.own x):k.has x:=by cases k<;>simp[K.kk]at h;subst h;rfl
def afF{kk:KK}(h:kk.k.has x):kk=.own x:=by
  cases kk with
  |own g=>simp only[KK.k,K.has]at h;subst h;rfl
  |_=>exact h.elim
def X4{k:K}(h:(k.nth j).has x):k.has x:=by
  cases k with
  |ag s=>
   simp only[K.nth,List.getD]at h;have:=afF h;cases b:s[j]? with
   |none=>rw[b]at this;simp at this
   |some kk=>rw[b]at this;simp at this;subst this;exact jx b
  |_=>exact h.elim
def X5{ks:List K}(h:(zZ ks).has x):∃k∈ks,k.has x:=by
  unfold zZ at h;cases b:ks.all (fun k=>decide (k.kk=.d))with
  |true=>rw[b]at h;exact h.elim
  |false=> rw[b]at h;obtain⟨k,d,e⟩:=fN.1 (show KK.own x∈ks.map K.kk from h);exact⟨k,d,auP e⟩
def auQ{k:K}{off:Nat}{v:Option V1}(h:(adb k off v).has x):k.has x:=by
  rcases v with _|t|s
  · exact h.elim
  · exact X4 h
  · obtain⟨q,b,d⟩:=X5 h
    obtain⟨j,_,rfl⟩:=fN.1 b;exact X4 d
def cy.kk{k:K}(h:cy w M tm env k e v):tF tm k.kk v:=by
  cases k with
  |d=>trivial
  |own g=>exact h.2
  |full=>exact h.2
  |ag s=>trivial
def cy.nth{k:K}(h:cy w M tm env k e v)(b:(nL v)[j]? =some u):tF tm (k.nth j).kk u:=by
  cases k with
  |ag s=>
   simp only[K.nth,afG,List.getD];cases d:s[j]? with
   |none=>trivial
   |some kk=>exact h.2 j kk u d b
  |_=>trivial
def amr{kk:KK}(r:R w M (e.den env) v)(h:tF tm kk v):cy w M tm env kk.k e v:=by
  cases kk with
  |d=>exact r
  |own g=>exact⟨r,h⟩
  |full=>exact⟨r,h⟩
def auR(k:K)(j:Nat):∃kk:KK,k.nth j=kk.k:=by
  cases k with
  |ag s=>exact⟨_,rfl⟩
  |_=>exact⟨.d,rfl⟩
def ams{k:K}(r:R w M (e.den env) v)(h:tF tm (k.nth j).kk v):cy w M tm env (k.nth j) e v:=by obtain⟨kk,b⟩:=auR k j;rw[b,afG]at h;rw[b];exact amr r h
def Vo{ks:List K}{vs:List Value}(r:R w M (e.den env) (.agg vs.toArray))(h:∀(j:Nat) (k:K) (u:Value),ks[j]? =some k->vs[j]? =some u->tF tm k.kk u):cy w M tm env (zZ ks) e (.agg vs.toArray):=by
  unfold zZ;cases ks.all (fun k=>decide (k.kk=.d))with
  |true=>exact r
  |false=> refine⟨r,fun j kk u b d=> ?_⟩;simp only[iq,kR]at b;obtain⟨k,b,rfl⟩:=b;exact h j k u b (by simpa[nL,jL]using d)
def rA.keep(q:bR w M w' M'){st:ST}{v:Value}(d:∀g,cE st g->ep g=bm g/\tm' g=tm g)(h:rA w M bm tm env st v):rA w' M' ep tm' env st v:=by
  cases st with
  |un=>trivial
  |v s k e=>exact⟨fun hg=>(h.1 hg).keep q (fun g f=>(d g f).2),h.2⟩
  |ptr s id off=>exact⟨fun hg=>by rw[(d id (by simp[cE])).1];exact h.1 hg,h.2⟩
  |ro s e off=> refine⟨fun hg=> ?_,h.2⟩;obtain⟨b,o,r,t⟩:=h.1 hg;exact⟨b,o,r,Rw.keep q _ _ _ t⟩
  |box u=>trivial
  |live n=>trivial
  |gp s g x i=>exact h
  |mp s g n i off=>exact⟨fun hg=>by rw[(d g (by simp[cE])).2];exact h.1 hg,h.2⟩
  |iv s g p n i off l=>exact⟨fun hg=>by rw[(d g (.inl rfl)).2,(d p (.inr rfl)).2];exact h.1 hg,h.2⟩
  |ip s g p n i off j m y=>exact⟨fun hg=>by rw[(d g (.inl rfl)).2,(d p (.inr rfl)).2];exact h.1 hg,h.2⟩
def dh.keep(k:bR w M w' M'):∀{cs:List (K×E)} {vs:List Value},(∀g,(∃c∈cs,c.1.has g)->tm' g=tm g)->dh w M tm env cs vs->dh w' M' tm' env cs vs
  |[],_,_,h=>h
  |c::r,vs,m,⟨v,q,e,h1,h2⟩=>⟨v,q,e,h1.keep k (fun g hg=>m g ⟨c,by simp,hg⟩),dh.keep k (fun g ⟨x,hx,hg⟩=>m g ⟨x,by simp[hx],hg⟩) h2⟩
def dh.length:∀{cs:List (K×E)} {vs:List Value},dh w M tm env cs vs->vs.length=cs.length
  |[],_,h=>by subst h;rfl
  |c::r,vs,⟨v,q,e,h1,h2⟩=>by subst e;simp[dh.length h2]
def dh.get:∀{cs:List (K×E)} {vs:List Value},dh w M tm env cs vs->∀{i:Nat} {c:K×E},cs[i]? =some c->∃v,vs[i]? =some v/\cy w M tm env c.1 c.2 v
  |[],_,_,i,c,h=>by simp at h
  |c::r,vs,⟨v,q,e,h1,h2⟩,0,b,h=>by subst e;simp at h;subst h;exact⟨v,rfl,h1⟩
  |c::r,vs,⟨v,q,e,h1,h2⟩,i+1,b,h=>by subst e;simp at h;obtain⟨u,d,f⟩:=dh.get h2 h;exact⟨u,by simpa using d,f⟩
def dh.set:∀{cs:List (K×E)} {vs:List Value},dh w M tm env cs vs->∀(i:Nat) {c:K×E} {v:Value},cy w M tm env c.1 c.2 v->dh w M tm env (cs.set i c) (vs.set i v)
  |[],_,h,i,c,v,b=>by subst h;simp[dh]
  |c::r,vs,⟨v,q,e,h1,h2⟩,0,f,d,b=>by subst e;exact⟨d,q,rfl,b,h2⟩
  |c::r,vs,⟨v,q,e,h1,h2⟩,i+1,f,d,b=>by subst e;exact⟨v,q.set i d,rfl,h1,dh.set h2 i b⟩
def dh.ni:∀{ds:List (K×E)} {us:List Value},dh w M tm env ds us->∀{cs:List (K×E)} {vs:List Value} (i:Nat),dh w M tm env cs vs->dh w M tm env (ni cs i ds) (ni vs i us)
  |[],_,hd,cs,vs,i,h=>by subst hd;exact h
  |d::r,us,⟨u,q,e,h1,h2⟩,cs,vs,i,h=>by subst e;simp only[Go.Proofs.YtoomhbopolalnaaGreatDoor.ni];exact dh.ni h2 (i+1) (h.set i h1)
def dh.drop:∀{cs:List (K×E)} {vs:List Value},dh w M tm env cs vs->∀n,dh w M tm env (cs.drop n) (vs.drop n)
  |_,_,h,0=>by simpa using h
  |[],_,h,n+1=>by subst h;simp[dh]
  |c::r,vs,⟨v,q,e,h1,h2⟩,n+1=>by subst e;simpa using dh.drop h2 n
def dh.take:∀{cs:List (K×E)} {vs:List Value},dh w M tm env cs vs->∀n,dh w M tm env (cs.take n) (vs.take n)
  |_,_,h,0=>by simp[dh]
  |[],_,h,n+1=>by subst h;simp[dh]
  |c::r,vs,⟨v,q,e,h1,h2⟩,n+1=>by subst e;exact⟨v,q.take n,by simp,h1,dh.take h2 n⟩
def dh.rs:∀{cs:List (K×E)} {vs:List Value},dh w M tm env cs vs->Rs w M ((cs.map (·.2)).map (·.den env)) vs
  |[],_,h=>h
  |c::r,vs,⟨v,q,e,h1,h2⟩=>⟨v,q,e,h1.rd,dh.rs h2⟩
end
structure SC where
  w0:World
  B:Nat
  X:Option Nat
  M0:Addr->Prop
  nt:Nat
  env:List D
def GOk(c:SC):Prop:=qa c.w0/\NG<=c.B/\∀g,c.X=some g->NG<=g
def tV(c:SC)(w:World)(M:Addr->Prop)(bm:Nat->Nat)(tm:Nat->Value)(id:Nat)(cs:List (K×E)):Prop :=
  ∃v T,w.heap[bm id]? =some (.cells v.toArray T (0,0))/\dh w M tm c.env cs v/\(c.B<=bm id\/(id=0/\c.X=some (bm id)))
def wO(d:D)(v:Value):Prop:=∀(w:World) (M:Addr->Prop),R w M d v
def tX(w:World)(v:Value)(n:Nat)(Q:Nat->Nat->D->Value->Prop)(d:D):Prop :=
  ∃a len cap e,v=.slice a len cap/\d=.sl e/\len=e.length/\len<=cap/\cap<=maxLen/\(a=none->cap=0)/\(∀r∈e,r.length=n) /\
   ∀b o s,a=some ⟨b,o,s⟩->(0<len->s=none)/\∀i r,e[i]? =some r->∀j d,r[j]? =some d->∃u,w.cell? ⟨b,o+i*n+j,none⟩=some u/\Q i j d u
def uU(B:Nat)(w:World)(v:Value)(n:Nat):Prop :=
  ∀b o s len cap,v=.slice (some ⟨b,o,s⟩) len cap->0<cap->s=none/\B<=b/\∃cells T,w.heap[b]? =some (.cells cells T (0,0))/\o+cap*n<=cells.size
def CM(B:Nat)(w:World)(tm:Nat->Value)(n:Nat):Option (Nat×List Nat)->Nat->Nat->D->Value->Prop
  |none=>fun _ _ d u=>wO d u
  |some (g,m)=>fun i j d u=>(m.getD j 0=0->wO d u)/\(m.getD j 0≠0->(∃cells,tm g=.tuple cells/\cells[i*n+j]? =some u)/\uU B w u (m.getD j 0)/\tX w u (m.getD j 0) (fun _ _ d u=>wO d u) d)
structure sS(c:SC)(w:World)(tm:Nat->Value)(g:Nat)(n:LV):Prop where
  sp:uU c.B w (tm g) n.n
  bd:∀e dp,n.body=some (e,dp)->tX w (tm g) n.n (CM c.B w tm n.n dp) (e.den c.env)
  dp:∀e gv ms,n.body=some (e,some (gv,ms))->∃cells,tm gv=.tuple cells/\(∀u∈cells.toList,∃m,uU c.B w u m) /\
    (∀(k k':Nat) (u u':Value) (b:Nat),cells[k]? =some u->cells[k']? =some u'->k≠k'->dS u b->¬dS u' b)/\∀u∈cells.toList,∀b,dS u b->¬dS (tm g) b
def uU.keep(h:uU B w v n)(d:∀b,dS v b->w'.heap[b]? =w.heap[b]?):uU B w' v n:=fun b o s len cap e l=>by obtain⟨f,g,cells,T,i,j⟩:=h b o s len cap e l;exact⟨f,g,cells,T,by rw[d b ⟨o,s,len,cap,e,l⟩];exact i,j⟩
def tX.keep{Q g:Nat->Nat->D->Value->Prop}{d:D}(h:tX w v n Q d)(p:∀b,dS v b->w'.heap[b]? =w.heap[b]?)(q:∀i j d u,Q i j d u->g i j d u):tX w' v n g d:=by obtain⟨a,len,cap,e,k,t,x,y,z,A,B,l⟩:=h;refine⟨a,len,cap,e,k,t,x,y,z,A,B,fun b o s f=>⟨(l b o s f).1,fun i r m j d C=> ?_⟩⟩;obtain⟨u,G,H⟩:=(l b o s f).2 i r m j d C;refine⟨u,?_,q _ _ _ _ H⟩;have I:=(db.1 m).1;rw[<-G];exact Da (p b ⟨o,s,len,cap,by rw[k,f],by omega⟩)
def CM.keep{tm':Nat->Value}{p:Option (Nat×List Nat)}(v:∀g m,p=some (g,m)->tm' g=tm g)(l:∀g m cells u b,p=some (g,m)->tm g=.tuple cells->u∈cells.toList->dS u b->w'.heap[b]? =w.heap[b]?){i j:Nat}{d:D}{u:Value}
    (h:CM B w tm n p i j d u):CM B w' tm' n p i j d u:=by
  rcases p with _|⟨g,m⟩
  · exact h
  · refine⟨h.1,fun o=> ?_⟩
    obtain⟨⟨cells,f,e⟩,q,r⟩:=h.2 o;have k:∀b,dS u b->w'.heap[b]? =w.heap[b]? :=fun b=>l g m cells u b rfl f (by rw[<-sX]at e;exact jx e)
    exact⟨⟨cells,by rw[v g m rfl];exact f,e⟩,q.keep k,r.keep k fun _ _ _ _ h=>h⟩
structure aL(c:SC)(F:Nat->Prop)(σ:Nat->ST)(bm:Nat->Nat)(tm:Nat->Value)(a:Act)(w:World):Prop where
  fr:Fr c.B c.X c.w0 w
  hB:c.B<=w.heap.size
  m0:(∀p,c.M0 p->p.block<c.B)/\GOk c
  tmps:∀t,rA w (MM c.M0 bm tm σ) bm tm c.env (σ (3*t)) (a.tmps.getD t undef)
  box:∀id cs,σ (3*id+1)=.box cs->tV c w (MM c.M0 bm tm σ) bm tm id cs
  live:∀g n,σ (3*g+2)=.live n->sS c w tm g n
  pu:∀id id' cs cs',σ (3*id+1)=.box cs->σ (3*id'+1)=.box cs'->id≠id'->bm id≠bm id'
  lI:∀id cs g n b,σ (3*id+1)=.box cs->σ (3*g+2)=.live n->jv tm g n b->bm id≠b
  lU:∀g n g' n' b b',σ (3*g+2)=.live n->σ (3*g'+2)=.live n'->g≠g'->jv tm g n b->jv tm g' n' b'->b≠b'
  f1:∀l g,cE (σ l) g->F g
  f2:∀id cs,σ (3*id+1)=.box cs->F id
  f3:∀g n,σ (3*g+2)=.live n->F g
  size:a.tmps.size=c.nt
  defers:a.defers=[]
  x0:∀g,c.X=some g->bm 0=g/\F 0
section
variable {c:SC}{F F':Nat->Prop}{σ bJ:Nat->ST}{bm ep:Nat->Nat}{tm tm':Nat->Value}{a:Act}{w w':World}
def aL.mono(s:aL c F σ bm tm a w)(h:∀g,F g->F' g):aL c F' σ bm tm a w :=
  {s with f1:=fun l g hg=>h g (s.f1 l g hg),f2:=fun id b d=>h id (s.f2 id b d),f3:=fun g n e=>h g (s.f3 g n e),x0:=fun g hg=>⟨(s.x0 g hg).1,h 0 (s.x0 g hg).2⟩}
def auT{M0:Addr->Prop}(h1:∀id,bJ (3*id+1)=σ (3*id+1))(h2:∀g,bJ (3*g+2)=σ (3*g+2)):MM M0 bm tm bJ=MM M0 bm tm σ:=by funext p;simp only[MM,h1,h2]
def Pc(d id:Nat)(s:ST):aW σ (3*d) s (3*id+1)=σ (3*id+1):=gb _ _ (by omega)
def Pf(d g:Nat)(s:ST):aW σ (3*d) s (3*g+2)=σ (3*g+2):=gb _ _ (by omega)
def aur{d:Nat}(hd:d<a.tmps.size)(t:Nat):(a.put (some d) v).tmps.getD t undef=if t=d then v else a.tmps.getD t undef:=by
  simp only[Act.put,sW,CZ];by_cases h:t=d
  · subst h;simp[hd]
  · simp[h,yc h]
def aL.put(s:aL c F σ bm tm a w){d:Nat}{st:ST}{v:Value}(hd:d<c.nt)(r:rA w (MM c.M0 bm tm σ) bm tm c.env st v)(m:∀g,cE st g->F g) :
    aL c F (aW σ (3*d) st) bm tm (a.put (some d) v) w:=by
  have f:MM c.M0 bm tm (aW σ (3*d) st)=MM c.M0 bm tm σ:=auT (fun id=>Pc _ _ _) (fun g=>Pf _ _ _);refine⟨s.fr,s.hB,s.m0,fun t=> ?_,fun id b h=> ?_,fun g n h=> ?_,?_,?_,?_,fun l g h=> ?_,fun id b h=> ?_,fun g n h=> ?_,?_,s.defers,s.x0⟩
  · rw[f,aur (by rw[s.size];exact hd)]
    by_cases e:t=d
    · subst e;rw[cH];simpa using r
    · rw[gb _ _ (by omega)];simpa[e]using s.tmps t
  · rw[Pc]at h;rw[f];exact s.box id b h
  · rw[Pf]at h;exact s.live g n h
  · simp only[Pc];exact s.pu
  · simp only[Pc,Pf];exact s.lI
  · simp only[Pf];exact s.lU
  · by_cases e:l=3*d
    · subst e;rw[cH]at h;exact m g h
    · rw[gb _ _ e]at h;exact s.f1 l g h
  · rw[Pc]at h;exact s.f2 id b h
  · rw[Pf]at h;exact s.f3 g n h
  · simp[Act.put,s.size]
def aL.nT(h:aL c F σ bm tm a w){dst:Option Nat}{st:ST}{v:Value}(hd:∀d,dst=some d->d<c.nt)(r:rA w (MM c.M0 bm tm σ) bm tm c.env st v)(m:∀g,cE st g->F g) :
    aL c F (di σ (wv dst st)) bm tm (a.put dst v) w:=by
  cases dst with
  |none=>exact h
  |some d=>exact h.put (hd d rfl) r m
def aL.turn(h:aL c F σ bm tm a w)(r:∀t,bJ (3*t)=σ (3*t))(e:∀g,F g->ep g=bm g/\tm' g=tm g)(s:∀g,F g->F' g)(f:Fr c.B c.X w w')
    (u:bR w (MM c.M0 bm tm σ) w' (MM c.M0 ep tm' bJ))
    (o:∀id cs,bJ (3*id+1)=.box cs->tV c w' (MM c.M0 ep tm' bJ) ep tm' id cs)
    (i:∀g n,bJ (3*g+2)=.live n->sS c w' tm' g n)
    (j:∀id d cs cs',bJ (3*id+1)=.box cs->bJ (3*d+1)=.box cs'->id≠d->ep id≠ep d)
    (k:∀id cs g n b,bJ (3*id+1)=.box cs->bJ (3*g+2)=.live n->jv tm' g n b->ep id≠b)
    (m:∀g n g' p b q,bJ (3*g+2)=.live n->bJ (3*g'+2)=.live p->g≠g'->jv tm' g n b->jv tm' g' p q->b≠q)
    (f1:∀l g,cE (bJ l) g->F' g) (f2:∀id cs,bJ (3*id+1)=.box cs->F' id) (f3:∀g n,bJ (3*g+2)=.live n->F' g):aL c F' bJ ep tm' a w' :=
  ⟨h.fr.trans f,dV h.hB f.size,h.m0,
   fun t=>by rw[r];exact(h.tmps t).keep u fun g hg=>e g (h.f1 _ _ hg),o,i,j,k,m,f1,f2,f3,h.size,h.defers,fun g hg=>⟨((e 0 (h.x0 g hg).2).1).trans (h.x0 g hg).1,s 0 (h.x0 g hg).2⟩⟩
def tV.keep{M':Addr->Prop}{id:Nat}{cs:List (K×E)}(h:tV c w M bm tm id cs)(k:bR w M w' M')(hb:ep id=bm id)(b:w'.heap[bm id]? =w.heap[bm id]?)(m:∀g,(∃x∈cs,x.1.has g)->tm' g=tm g):tV c w' M' ep tm' id cs:=by obtain⟨v,T,d,e,f⟩:=h;exact⟨v,T,by rw[hb,b];exact d,e.keep k m,by rw[hb];exact f⟩
def tV.lt{id:Nat}{cs:List (K×E)}(h:tV c w M bm tm id cs):bm id<w.heap.size:=by
  obtain⟨v,T,b,_⟩:=h;rcases dO (bm id) w.heap.size with h|h
  · exact h
  · rw[Fa h]at b;cases b
def nX{n:LV}{b:Nat}(t:tm' g=tm g)(j:∀x,cE (.live n) x->tm' x=tm x):jv tm' g n b↔jv tm g n b:=by
  unfold jv;rw[t];constructor
  · rintro (h|⟨e,v,m,cells,u,d,f,i⟩)
    · exact .inl h
    · exact .inr ⟨e,v,m,cells,u,d,by rw[<-j v ⟨e,m,d⟩];exact f,i⟩
  · rintro (h|⟨e,v,m,cells,u,d,f,i⟩)
    · exact .inl h
    · exact .inr ⟨e,v,m,cells,u,d,by rw[j v ⟨e,m,d⟩];exact f,i⟩
def sS.keep{n:LV}(h:sS c w tm g n)(l:∀b,jv tm g n b->w'.heap[b]? =w.heap[b]?)(t:tm' g=tm g)(y:∀x,cE (.live n) x->tm' x=tm x):sS c w' tm' g n:=by
  refine⟨?_,fun e A f=> ?_,fun e v s f=> ?_⟩
  · rw[t];exact h.sp.keep fun b k=>l b (.inl k)
  · rw[t]
    refine(h.bd e A f).keep (fun b k=>l b (.inl k)) fun i j d u B=>B.keep (fun v s p=>y v ⟨e,s,by rw[f,p]⟩) fun v s cells u b p o q r=>l b (.inr ⟨e,v,s,cells,u,by rw[f,p],o,q,r⟩)
  · obtain⟨cells,o,q,r,C⟩:=h.dp e v s f
    refine⟨cells,by rw[y v ⟨e,s,f⟩];exact o,fun u z=> ?_,r,by rw[t];exact C⟩;obtain⟨m,G⟩:=q u z;exact⟨m,G.keep fun b k=>l b (.inr ⟨e,v,s,cells,u,f,o,z,k⟩)⟩
def uU.lt{b:Nat}(h:uU B w v n)(hb:dS v b):b<w.heap.size/\B<=b:=by
  obtain⟨o,s,len,cap,e,l⟩:=hb;obtain⟨_,f,cells,T,d,_⟩:=h b o s len cap e l;refine⟨?_,f⟩;rcases dO b w.heap.size with h|h
  · exact h
  · rw[Fa h]at d;cases d
def sS.du{b:Nat}{n:LV}(h:sS c w tm g n)(hb:jv tm g n b):b<w.heap.size/\c.B<=b:=by
  rcases hb with hb|⟨e,v,s,cells,u,d,f,i,j⟩
  · exact h.sp.lt hb
  · obtain⟨l,q1,q2,_⟩:=h.dp e v s d
    rw[f]at q1;cases q1;obtain⟨m,k⟩:=q2 u i;exact k.lt j
def sS.lt{b:Nat}{n:LV}(h:sS c w tm g n)(hb:jv tm g n b):b<w.heap.size:=(h.du hb).1
def aL.grow(s:aL c F σ bm tm a w)(hb:Below w.heap.size w w'):aL c F σ bm tm a w':=by
  have k:bR w (MM c.M0 bm tm σ) w' (MM c.M0 bm tm σ):=bR.below hb fun _ _ h=>h;exact s.turn (fun _=>rfl) (fun _ _=>⟨rfl,rfl⟩) (fun _ h=>h) (zo hb s.hB) k
    (fun id e h=>(s.box id e h).keep k rfl (hb.block _ (s.box id e h).lt) fun _ _=>rfl)
    (fun g n h=>(s.live g n h).keep (fun b d=>hb.block _ ((s.live g n h).lt d)) rfl fun _ _=>rfl) s.pu s.lI s.lU s.f1 s.f2 s.f3
def O7(id t:Nat)(s:ST):aW σ (3*id+1) s (3*t)=σ (3*t):=gb _ _ (by omega)
def mg(id g:Nat)(s:ST):aW σ (3*id+1) s (3*g+2)=σ (3*g+2):=gb _ _ (by omega)
def iR{id i:Nat}(s:ST)(h:i≠id):aW σ (3*id+1) s (3*i+1)=σ (3*i+1):=gb _ _ (by omega)
def O8(g t:Nat)(s:ST):aW σ (3*g+2) s (3*t)=σ (3*t):=gb _ _ (by omega)
def wH(g id:Nat)(s:ST):aW σ (3*g+2) s (3*id+1)=σ (3*id+1):=gb _ _ (by omega)
def pV{g':Nat}(s:ST)(h:g'≠g):aW σ (3*g+2) s (3*g'+2)=σ (3*g'+2):=gb _ _ (by omega)
def aL.VA(s:aL c F σ bm tm a w){id:Nat}{cs cs':List (K×E)}(hid:σ (3*id+1)=.box cs)
    (z:Fr c.B c.X w w') (o:∀k,k<w.heap.size->k≠bm id->w'.heap[k]? =w.heap[k]?)
    (f:∀M',M'=MM c.M0 bm tm σ->bR w (MM c.M0 bm tm σ) w' M'->tV c w' M' bm tm id cs') (H:∀g,(∃x∈cs',x.1.has g)->F g) :
    aL c F (aW σ (3*id+1) (.box cs')) bm tm a w':=by
  have B:MM c.M0 bm tm (aW σ (3*id+1) (.box cs'))=MM c.M0 bm tm σ:=by
    funext p;simp only[MM,mg];apply propext;constructor
    · rintro (h|⟨i,q,r,j⟩|h)
      · exact .inl h
      · by_cases e:i=id
        · subst e;exact .inr (.inl ⟨i,cs,hid,j⟩)
        · rw[iR _ e]at r;exact .inr (.inl ⟨i,q,r,j⟩)
      · exact .inr (.inr h)
    · rintro (h|⟨i,q,r,j⟩|h)
      · exact .inl h
      · by_cases e:i=id
        · subst e;exact .inr (.inl ⟨i,cs',cH _ _ _,j⟩)
        · exact .inr (.inl ⟨i,q,by rw[iR _ e];exact r,j⟩)
      · exact .inr (.inr h)
  have A:bR w (MM c.M0 bm tm σ) w' (MM c.M0 bm tm σ):=fun p v C G=>by refine⟨?_,G⟩;have d:p.block≠bm id:=fun e=>G (.inr (.inl ⟨id,cs,hid,e⟩));rw[<-C];exact Da (o _ (gf C) d)
  refine s.turn (fun t=>O7 _ _ _) (fun _ _=>⟨rfl,rfl⟩) (fun _ h=>h) z (by rw[B];exact A) ?_ ?_ ?_ ?_ ?_ ?_ ?_ ?_
  · intro i q h
    rw[B];by_cases e:i=id
    · subst e;rw[cH]at h;simp at h;subst h;exact f _ rfl A
    · rw[iR _ e]at h
      exact(s.box i q h).keep A rfl (o _ (s.box i q h).lt (s.pu _ _ _ _ h hid e)) fun _ _=>rfl
  · intro g n h
    rw[mg]at h;exact(s.live g n h).keep (fun b m=>o _ ((s.live g n h).lt m) (yc (s.lI id cs g n b hid h m))) rfl fun _ _=>rfl
  · intro i I q J h u d
    by_cases e:i=id<;>by_cases y:I=id
    · exact absurd (e.trans y.symm) d
    · subst e;rw[iR _ y]at u;exact s.pu _ _ _ _ hid u d
    · subst y;rw[iR _ e]at h;exact s.pu _ _ _ _ h hid d
    · rw[iR _ e]at h;rw[iR _ y]at u;exact s.pu _ _ _ _ h u d
  · intro i q g n b h hg m
    rw[mg]at hg;by_cases e:i=id
    · subst e;exact s.lI _ _ _ _ _ hid hg m
    · rw[iR _ e]at h;exact s.lI _ _ _ _ _ h hg m
  · simp only[mg];exact s.lU
  · intro l g h
    by_cases e:l=3*id+1
    · subst e;rw[cH]at h;exact H g h
    · rw[gb _ _ e]at h;exact s.f1 l g h
  · intro i q h
    by_cases e:i=id
    · subst e;exact s.f2 _ _ hid
    · rw[iR _ e]at h;exact s.f2 _ _ h
  · intro g n h;rw[mg]at h;exact s.f3 g n h
def aL.aEa(s:aL c F σ bm tm a w){g:Nat}(hg:¬F g){cs:List (K×E)}{vs:List Value}{T:TypeId}(B:dh w (MM c.M0 bm tm σ) tm c.env cs vs)(C:∀x,(∃y∈cs,y.1.has x)->F x) :
    aL c (fun x=>F x\/x=g) (aW σ (3*g+1) (.box cs)) (aW bm g w.heap.size) tm a (w.alloc (.cells vs.toArray T)):=by
  have u:Below w.heap.size w (w.alloc (.cells vs.toArray T)):=(dP _ _).alloc (bK _) _;have m:∀x,F x->aW bm g w.heap.size x=bm x:=fun x d=>gb _ _ (fun e=>hg (e▸d));have z:bR w (MM c.M0 bm tm σ) (w.alloc (.cells vs.toArray T)) (MM c.M0 (aW bm g w.heap.size) tm (aW σ (3*g+1) (.box cs))):=by
    refine bR.below u fun p H h=> ?_;rcases h with h|⟨i,q,j,k⟩|⟨x,n,j,k⟩
    · exact .inl h
    · by_cases e:i=g
      · subst e;rw[cH]at k;omega
      · rw[iR _ e]at j;rw[gb _ _ e]at k;exact .inr (.inl ⟨i,q,j,k⟩)
    · rw[mg]at j;exact .inr (.inr ⟨x,n,j,k⟩)
  refine s.turn (fun t=>O7 _ _ _) (fun x d=>⟨m x d,rfl⟩) (fun _ h=>.inl h) (zo u s.hB) z ?_ ?_ ?_ ?_ ?_ ?_ ?_ ?_
  · intro i q h
    by_cases e:i=g
    · subst e;rw[cH]at h;simp at h;subst h
      refine⟨vs,T,?_,B.keep z fun _ _=>rfl,.inl ?_⟩
      · rw[cH];exact vB _ _
      · rw[cH];exact s.hB
    · rw[iR _ e]at h
      exact(s.box i q h).keep z (m i (s.f2 _ _ h)) (LX _ _ _ (s.box i q h).lt) fun _ _=>rfl
  · intro x n h
    rw[mg]at h;exact(s.live x n h).keep (fun b u=>LX _ _ _ ((s.live x n h).lt u)) rfl fun _ _=>rfl
  · intro i A q G h v o
    by_cases e:i=g<;>by_cases f:A=g
    · exact absurd (e.trans f.symm) o
    · subst e;rw[iR _ f]at v;rw[cH,gb _ _ f];have:=(s.box A G v).lt;omega
    · subst f;rw[iR _ e]at h;rw[cH,gb _ _ e];have:=(s.box i q h).lt;omega
    · rw[iR _ e]at h;rw[iR _ f]at v;rw[gb _ _ e,gb _ _ f];exact s.pu _ _ _ _ h v o
  · intro i q x n b h d r
    rw[mg]at d;by_cases e:i=g
    · subst e;rw[cH];have:=(s.live x n d).lt r;omega
    · rw[iR _ e]at h;rw[gb _ _ e];exact s.lI _ _ _ _ _ h d r
  · simp only[mg];exact s.lU
  · intro l x h
    by_cases e:l=3*g+1
    · subst e;rw[cH]at h;exact .inl (C x h)
    · rw[gb _ _ e]at h;exact .inl (s.f1 l x h)
  · intro i q h
    by_cases e:i=g
    · exact .inr e
    · rw[iR _ e]at h;exact .inl (s.f2 _ _ h)
  · intro x n h;rw[mg]at h;exact .inl (s.f3 x n h)
def aL.aEb(s:aL c F σ bm tm a w){g d:Nat}(hg:¬F g)(hb:Below w.heap.size w w')(J:w.heap.size<=d){cs:List (K×E)}{vs:List Value}{T:TypeId}(o:w'.heap[d]? =some (.cells vs.toArray T (0,0)))
    (L:dh w' (fun p=>MM c.M0 bm tm σ p\/p.block=d) tm c.env cs vs) (N:∀x,(∃y∈cs,y.1.has x)->F x) :
    aL c (fun x=>F x\/x=g) (aW σ (3*g+1) (.box cs)) (aW bm g d) tm a w':=by
  have r:∀x,F x->aW bm g d x=bm x:=fun x j=>gb _ _ (fun e=>hg (e▸j));have C:∀p,MM c.M0 (aW bm g d) tm (aW σ (3*g+1) (.box cs)) p->(MM c.M0 bm tm σ p\/p.block=d):=by
    intro p h;rcases h with h|⟨i,q,u,k⟩|⟨x,n,u,k⟩
    · exact .inl (.inl h)
    · by_cases e:i=g
      · subst e;rw[cH]at k;exact .inr k
      · rw[iR _ e]at u;rw[gb _ _ e]at k;exact .inl (.inr (.inl ⟨i,q,u,k⟩))
    · rw[mg]at u;exact .inl (.inr (.inr ⟨x,n,u,k⟩))
  have G:bR w (MM c.M0 bm tm σ) w' (MM c.M0 (aW bm g d) tm (aW σ (3*g+1) (.box cs))):=by
    refine bR.below hb fun p H h=> ?_;rcases C p h with h|h
    · exact h
    · omega
  have B:bR w' (fun p=>MM c.M0 bm tm σ p\/p.block=d) w' (MM c.M0 (aW bm g d) tm (aW σ (3*g+1) (.box cs))):=fun p v H O=>⟨H,fun h=>O (C p h)⟩;refine s.turn (fun t=>O7 _ _ _) (fun x j=>⟨r x j,rfl⟩) (fun _ h=>.inl h) (zo hb s.hB) G ?_ ?_ ?_ ?_ ?_ ?_ ?_ ?_
  · intro i q h
    by_cases e:i=g
    · subst e;rw[cH]at h;simp at h;subst h
      refine⟨vs,T,?_,L.keep B fun _ _=>rfl,.inl ?_⟩
      · rw[cH];exact o
      · rw[cH];exact dV s.hB J
    · rw[iR _ e]at h
      exact(s.box i q h).keep G (r i (s.f2 _ _ h)) (hb.block _ (s.box i q h).lt) fun _ _=>rfl
  · intro x n h
    rw[mg]at h;exact(s.live x n h).keep (fun b f=>hb.block _ ((s.live x n h).lt f)) rfl fun _ _=>rfl
  · intro i I q Q h A z
    by_cases e:i=g<;>by_cases m:I=g
    · exact absurd (e.trans m.symm) z
    · subst e;rw[iR _ m]at A;rw[cH,gb _ _ m];have:=(s.box I Q A).lt;omega
    · subst m;rw[iR _ e]at h;rw[cH,gb _ _ e];have:=(s.box i q h).lt;omega
    · rw[iR _ e]at h;rw[iR _ m]at A;rw[gb _ _ e,gb _ _ m];exact s.pu _ _ _ _ h A z
  · intro i q x n b h j f
    rw[mg]at j;by_cases e:i=g
    · subst e;rw[cH];have:=(s.live x n j).lt f;omega
    · rw[iR _ e]at h;rw[gb _ _ e];exact s.lI _ _ _ _ _ h j f
  · simp only[mg];exact s.lU
  · intro l x h
    by_cases e:l=3*g+1
    · subst e;rw[cH]at h;exact .inl (N x h)
    · rw[gb _ _ e]at h;exact .inl (s.f1 l x h)
  · intro i q h
    by_cases e:i=g
    · exact .inr e
    · rw[iR _ e]at h;exact .inl (s.f2 _ _ h)
  · intro x n h;rw[mg]at h;exact .inl (s.f3 x n h)
end
end
end Go.Proofs.YtoomhbopolalnaaGreatDoor
