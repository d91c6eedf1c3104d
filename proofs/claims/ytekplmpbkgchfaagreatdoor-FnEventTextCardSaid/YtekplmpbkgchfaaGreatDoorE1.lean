/- When a state of expressions tells the truth of a frame and a world; and how single steps keep that. No program in sight. -/
import Derived.Test.YtekplmpbkgchfaaGreatDoorE0
set_option linter.all false
namespace Go.Proofs.YtekplmpbkgchfaaGreatDoor
open Go.RowKit
variable [GC]
def bF{α:Type}(σ:Nat->α)(l:Nat)(s:α):Nat->α:=fun x=>if x=l then s else σ x
def eF{α:Type}(σ:Nat->α)(l:Nat)(s:α):bF σ l s l=s:=by simp [bF]
def iS{α:Type}(σ:Nat->α){l x:Nat}(s:α)(h:x≠l):bF σ l s x=σ x:=by simp [bF,h]
def dS(σ:Nat->ST):List (Nat×ST)->Nat->ST
  | []=>σ
  | (l,s)::r=>dS (bF σ l s) r
def Xa(l:Nat)(s:ST)(q:Sg):Sg.get ((l,s)::q)=bF (Sg.get q) l s:=by
  funext x;simp only [Sg.get,bF];cases e:Nat.beq l x with
  | true=>simp [iW e]
  | false =>
    have:x≠l:=fun h=>by rw [h] at e;simp at e
    simp [this]
def aeH: ∀(wr:List (Nat×ST)) (q:Sg),Sg.get (wr.reverse++q)=dS (Sg.get q) wr
  | [],q=>rfl
  | (l,s)::r,q=>by rw [List.reverse_cons,iG,List.singleton_append,aeH r,Xa];rfl
structure Fr(B:Nat)(X:Option Nat)(w w':World):Prop where
  os:w'.os=w.os
  tape:w'.tape=w.tape
  output:w'.output=w.output
  size:w.heap.size<=w'.heap.size
  block: ∀k,k<B->some k≠X->w'.heap[k]? =w.heap[k]?
def Fr.refl(B:Nat)(X:Option Nat)(w:World):Fr B X w w:=⟨rfl,rfl,rfl,bU _,fun _ _ _=>rfl⟩
def Fr.trans{B:Nat}{X:Option Nat}{a b c:World}(h:Fr B X a b)(k:Fr B X b c):Fr B X a c :=
  ⟨k.os.trans h.os,k.tape.trans h.tape,k.output.trans h.output,dq h.size k.size,fun i hi hx=>(k.block i hi hx).trans (h.block i hi hx)⟩
def yq{B B':Nat}{X:Option Nat}{a b:World}(h:Below B' a b)(hB:B<=B'):Fr B X a b:=⟨h.os,h.tape,h.output,h.size,fun k hk _=>h.block k (by omega)⟩
def WN{B:Nat}{X:Option Nat}{a b:World}{g:Nat}(h:bN a b g)(hg:B<=g\/X=some g):Fr B X a b :=
  ⟨h.os,h.tape,h.output,kW h.size.symm,fun k hk hx=>h.block k (by rintro rfl;rcases hg with hg|hg;omega;exact hx hg.symm)⟩
def Fr.Br{B:Nat}{a b:World}(h:Fr B none a b):Below B a b:=⟨h.os,h.tape,h.output,h.size,fun k hk=>h.block k hk (by simp)⟩
def cK(env:List D)(gs:Gd):Prop:= ∀x∈gs,x.1.den env= .bool x.2
def dZ(env:List D):cK env []:=by simp [cK]
def Mf{env:List D}{g gs:Gd}(h:v8 g gs=true)(hh:cK env gs):cK env g:=by intro x hx;have:=fO.1 h x hx;exact hh x (by simpa using this)
def Ze{env:List D}{gs:Gd}{c:E}{b:Bool}:cK env (gs++[(c,b)])↔cK env gs/\c.den env= .bool b:=by
  unfold cK;constructor
  · intro h;exact ⟨fun x hx=>h x (by simp [hx]),h (c,b) (by simp)⟩
  · rintro ⟨h1,h2⟩ x hx
    rcases jx.1 hx with h|h
    · exact h1 x h
    · simp at h;subst h;exact h2
def Gm(v:Value)(n:Nat)(p:Addr):Prop:= ∃b o s len cap,v= .slice (some ⟨b,o,s⟩) len cap/\p.block=b/\o+len*n<=p.off/\p.off<o+cap*n
def ownIn(v:Value)(n:LV)(p:Addr):Prop:= ∃b o s len cap,v= .slice (some ⟨b,o,s⟩) len cap/\p.block=b/\0<cap/\(n.body=none->o+len*n.n<=p.off/\p.off<o+cap*n.n)
def JB{v:Value}{n:Nat}{p:Addr}(h:Gm v n p): ∃o s len cap,v= .slice (some ⟨p.block,o,s⟩) len cap/\0<cap:=by
  obtain ⟨b,o,s,len,cap,h1,h2,h3,h4⟩:=h;refine ⟨o,s,len,cap,by rw [h2];exact h1,?_⟩;rcases dY 0 cap with h|h
  · exact h
  · have e:cap=0:=by omega
    subst e;omega
def eX(v:Value)(b:Nat):Prop:= ∃o s len cap,v= .slice (some ⟨b,o,s⟩) len cap/\0<cap
def xT(tm:Nat->Value)(g:Nat)(n:LV)(p:Addr):Prop:=ownIn (tm g) n p\/ ∃e gv ms cells u,n.body=some (e,some (gv,ms))/\tm gv= .tuple cells/\u∈cells.toList/\eX u p.block
def mz(tm:Nat->Value)(g:Nat)(n:LV)(b:Nat):Prop:=eX (tm g) b\/ ∃e gv ms cells u,n.body=some (e,some (gv,ms))/\tm gv= .tuple cells/\u∈cells.toList/\eX u b
def Dc{tm:Nat->Value}{g:Nat}{n:LV}{p:Addr}(h:Gm (tm g) n.n p):xT tm g n p:=by obtain ⟨o',s',len',cap',e,hc⟩:=JB h;obtain ⟨b,o,s,len,cap,h1,h2,h3,h4⟩:=h;rw [h1] at e;simp only [gF] at e;exact .inl ⟨b,o,s,len,cap,h1,h2,by omega,fun _=>⟨h3,h4⟩⟩
def Jo{tm:Nat->Value}{g n:Nat}{p:Addr}(h:xT tm g ⟨n,none⟩ p):Gm (tm g) n p:=by
  rcases h with ⟨b,o,s,len,cap,h1,h2,h3,h4⟩|⟨e,gv,ms,cells,u,h,_⟩
  · exact ⟨b,o,s,len,cap,h1,h2,(h4 rfl).1,(h4 rfl).2⟩
  · cases h
def akj{tm:Nat->Value}{g:Nat}{n:LV}{p:Addr}(h:xT tm g n p):mz tm g n p.block:=by
  rcases h with ⟨b,o,s,len,cap,h1,h2,h3,h4⟩|h
  · subst h2;exact .inl ⟨o,s,len,cap,h1,h3⟩
  · exact .inr h
def xd{tm:Nat->Value}{g n b:Nat}(h:mz tm g ⟨n,none⟩ b):eX (tm g) b:=by
  rcases h with h|⟨e,gv,ms,cells,u,h,_⟩
  · exact h
  · cases h
def MM(M0:Addr->Prop)(bm:Nat->Nat)(tm:Nat->Value)(σ:Nat->ST):Addr->Prop :=
  fun p=>M0 p\/(∃id cs,σ (3*id+1)= .box cs/\p.block=bm id)\/(∃g n,σ (3*g+2)= .live n/\xT tm g n p)
def jy:Value->List Value
  | .agg cs=>cs.toList
  | v=>[v]
def mK:Value->List Value
  | .tuple vs=>vs.toList.flatMap jy
  | v=>jy v
def rW(tm:Nat->Value):KK->Value->Prop
  | .d,_=>True
  | .own g,u=>u=tm g
  | .full,u=> ∃a,u= .slice a 0 0
def K.has:K->Nat->Prop
  | .own g,x=>x=g
  | .ag ks,x=>KK.own x∈ks
  | _,_=>False
def cz(w:World)(M:Addr->Prop)(tm:Nat->Value)(env:List D):K->E->Value->Prop
  | .d,e,v=>R w M (e.den env) v
  | .own g,e,v=>R w M (e.den env) v/\v=tm g
  | .full,e,v=>R w M (e.den env) v/\ ∃a,v= .slice a 0 0
  | .ag ks,e,v=>R w M (e.den env) v/\ ∀(j:Nat) (kk:KK) (u:Value),ks[j]? =some kk->(mK v)[j]? =some u->rW tm kk u
def cz.rd{w:World}{M:Addr->Prop}{tm:Nat->Value}{env:List D}{k:K}{e:E}{v:Value}(h:cz w M tm env k e v):R w M (e.den env) v:=by cases k<;>simp only [cz] at h<;>first|exact h|exact h.1
def Kg(g:Nat)(d:D):Prop:= ∀w,mT w-> ∃cs t f,w.heap[g]? =some (.cells cs t f)/\ ∀(w':World) (M:Addr->Prop),Rs w' M d.mQ cs.toList
def WS(env:List D):Option (Gd×E×Nat)->Prop
  | none=>True
  | some (gs,e,n)=>cK env gs->0<=(e.den env).eT/\(e.den env).eT<n
def qi(w:World)(M:Addr->Prop)(bm:Nat->Nat)(tm:Nat->Value)(env:List D):ST->Value->Prop
  | .v gs k e,v=>(cK env gs->cz w M tm env k e v)/\(¬cK env gs->v=undef)
  | .ptr gs id off,v=>(cK env gs->v= .pointer (some ⟨bm id,off,none⟩))/\(¬cK env gs->v=undef)
  | .ro gs e off,v=>(cK env gs-> ∃b o,v= .pointer (some ⟨b,o,none⟩)/\Rw w M ((e.den env).mQ.drop off) b o)/\(¬cK env gs->v=undef)
  | .mp gs g n i off,v=>(cK env gs-> ∃b o len cap,tm g= .slice (some ⟨b,o,none⟩) len cap/\0<=(i.den env).eT/\(i.den env).eT.toNat<len/\v= .pointer (some ⟨b,o+(i.den env).eT.toNat*n+off,none⟩))/\(¬cK env gs->v=undef)
  | .iv gs g gv n i off l,v=>(cK env gs->(∃a L cap,tm g= .slice a L cap/\0<=(i.den env).eT/\(i.den env).eT.toNat<L)/\(∃cells,tm gv= .tuple cells/\cells[(i.den env).eT.toNat*n+off]? =some v)/\R w M (.mem (l.den env).eT.toNat) v)/\(¬cK env gs->v=undef)
  | .ip gs g gv n i off j m o2,v=>(cK env gs->(∃a L cap,tm g= .slice a L cap/\0<=(i.den env).eT/\(i.den env).eT.toNat<L)/\ ∃cells b o len cap,tm gv= .tuple cells/\cells[(i.den env).eT.toNat*n+off]? =some (.slice (some ⟨b,o,none⟩) len cap)/\0<=(j.den env).eT/\(j.den env).eT.toNat<len/\len<=cap/\v= .pointer (some ⟨b,o+(j.den env).eT.toNat*m+o2,none⟩))/\(¬cK env gs->v=undef)
  | .gp gs g x i,v=>(cK env gs->v= .pointer (some ⟨g,(i.den env).eT.toNat,none⟩)/\Kg g (x.den env)/\(i.den env).eT.toNat<(x.den env).mQ.length)/\(¬cK env gs->v=undef)
  | _,_=>True
def cQ(w:World)(M:Addr->Prop)(tm:Nat->Value)(env:List D):List (K×E)->List Value->Prop
  | [],vs=>vs=[]
  | c::r,vs=> ∃v q,vs=v::q/\cz w M tm env c.1 c.2 v/\cQ w M tm env r q
def cP:ST->Nat->Prop
  | .v _ k _,x=>k.has x
  | .ptr _ id _,x=>x=id
  | .mp _ g _ _ _,x=>x=g
  | .iv _ g gv _ _ _ _,x=>x=g\/x=gv
  | .ip _ g gv _ _ _ _ _ _,x=>x=g\/x=gv
  | .live n,x=> ∃e ms,n.body=some (e,some (x,ms))
  | .box cs,x=> ∃c∈cs,c.1.has x
  | _,_=>False
section
variable {w w':World}{M M':Addr->Prop}{bm dD:Nat->Nat}{tm tm':Nat->Value}{env:List D}
def rW.keep{kk:KK}{u:Value}(hm: ∀g,kk= .own g->tm' g=tm g)(h:rW tm kk u):rW tm' kk u:=by
  cases kk with
  | d=>trivial
  | own g=>simp only [rW] at *;rw [hm g rfl];exact h
  | full=>exact h
def cz.keep(hk:bY w M w' M'){k:K}{e:E}{v:Value}(hm: ∀g,k.has g->tm' g=tm g)(h:cz w M tm env k e v):cz w' M' tm' env k e v:=by
  cases k with
  | d=>exact R.keep hk _ _ h
  | own g=>exact ⟨R.keep hk _ _ h.1,by rw [hm g rfl];exact h.2⟩
  | full=>exact ⟨R.keep hk _ _ h.1,h.2⟩
  | ag ks=>exact ⟨R.keep hk _ _ h.1,fun j kk u h1 h2=>(h.2 j kk u h1 h2).keep fun g hg=>hm g (by subst hg;exact kV h1)⟩
def aer(kk:KK):kk.k.kk=kk:=by cases kk<;>rfl
def as1{k:K}{x:Nat}(h:k.kk= .own x):k.has x:=by cases k<;>simp [K.kk] at h;subst h;rfl
def aeq{kk:KK}{x:Nat}(h:kk.k.has x):kk= .own x:=by
  cases kk with
  | own g=>simp only [KK.k,K.has] at h;subst h;rfl
  | _=>exact h.elim
def WT{k:K}{j x:Nat}(h:(k.nth j).has x):k.has x:=by
  cases k with
  | ag ks =>
    simp only [K.nth,List.getD] at h;have:=aeq h;cases hj:ks[j]? with
    | none=>rw [hj] at this;simp at this
    | some kk=>rw [hj] at this;simp at this;subst this;exact kV hj
  | _=>exact h.elim
def WU{ks:List K}{x:Nat}(h:(zm ks).has x): ∃k∈ks,k.has x:=by
  unfold zm at h;cases hc:ks.all (fun k=>decide (k.kk= .d)) with
  | true=>rw [hc] at h;exact h.elim
  | false => rw [hc] at h;obtain ⟨k,hk,hx⟩:=gD.1 (show KK.own x∈ks.map K.kk from h);exact ⟨k,hk,as1 hx⟩
def as2{k:K}{off x:Nat}{v:Option V1}(h:(abO k off v).has x):k.has x:=by
  rcases v with _|t|ts
  · exact h.elim
  · exact WT h
  · obtain ⟨q,hq,hx⟩:=WU h
    obtain ⟨j,_,rfl⟩:=gD.1 hq;exact WT hx
def cz.kk{k:K}{e:E}{v:Value}(h:cz w M tm env k e v):rW tm k.kk v:=by
  cases k with
  | d=>trivial
  | own g=>exact h.2
  | full=>exact h.2
  | ag ks=>trivial
def cz.nth{k:K}{e:E}{v u:Value}{j:Nat}(h:cz w M tm env k e v)(hu:(mK v)[j]? =some u):rW tm (k.nth j).kk u:=by
  cases k with
  | ag ks =>
    simp only [K.nth,aer,List.getD];cases hj:ks[j]? with
    | none=>trivial
    | some kk=>exact h.2 j kk u hj hu
  | _=>trivial
def akV{kk:KK}{e:E}{v:Value}(hr:R w M (e.den env) v)(h:rW tm kk v):cz w M tm env kk.k e v:=by
  cases kk with
  | d=>exact hr
  | own g=>exact ⟨hr,h⟩
  | full=>exact ⟨hr,h⟩
def as3(k:K)(j:Nat): ∃kk:KK,k.nth j=kk.k:=by
  cases k with
  | ag ks=>exact ⟨_,rfl⟩
  | _=>exact ⟨.d,rfl⟩
def akW{k:K}{j:Nat}{e:E}{v:Value}(hr:R w M (e.den env) v)(h:rW tm (k.nth j).kk v):cz w M tm env (k.nth j) e v:=by obtain ⟨kk,hk⟩:=as3 k j;rw [hk,aer] at h;rw [hk];exact akV hr h
def TY{ks:List K}{e:E}{vs:List Value}(hr:R w M (e.den env) (.agg vs.toArray))(h: ∀(j:Nat) (k:K) (u:Value),ks[j]? =some k->vs[j]? =some u->rW tm k.kk u):cz w M tm env (zm ks) e (.agg vs.toArray):=by
  unfold zm;cases ks.all (fun k=>decide (k.kk= .d)) with
  | true=>exact hr
  | false => refine ⟨hr,fun j kk u h1 h2=> ?_⟩;simp only [iI,lJ] at h1;obtain ⟨k,h1,rfl⟩:=h1;exact h j k u h1 (by simpa [mK,jy] using h2)
def qi.keep(hk:bY w M w' M'){st:ST}{v:Value}(hm: ∀g,cP st g->dD g=bm g/\tm' g=tm g)(h:qi w M bm tm env st v):qi w' M' dD tm' env st v:=by
  cases st with
  | un=>trivial
  | v gs k e=>exact ⟨fun hg=>(h.1 hg).keep hk (fun g hkg=>(hm g hkg).2),h.2⟩
  | ptr gs id off=>exact ⟨fun hg=>by rw [(hm id (by simp [cP])).1];exact h.1 hg,h.2⟩
  | ro gs e off => refine ⟨fun hg=> ?_,h.2⟩;obtain ⟨b,o,h1,h2⟩:=h.1 hg;exact ⟨b,o,h1,Rw.keep hk _ _ _ h2⟩
  | box cs=>trivial
  | live n=>trivial
  | gp gs g x i=>exact h
  | mp gs g n i off=>exact ⟨fun hg=>by rw [(hm g (by simp [cP])).2];exact h.1 hg,h.2⟩
  | iv gs g gv n i off l=>exact ⟨fun hg=>by rw [(hm g (.inl rfl)).2,(hm gv (.inr rfl)).2];exact h.1 hg,h.2⟩
  | ip gs g gv n i off j m o2=>exact ⟨fun hg=>by rw [(hm g (.inl rfl)).2,(hm gv (.inr rfl)).2];exact h.1 hg,h.2⟩
def cQ.keep(hk:bY w M w' M'): ∀{cs:List (K×E)} {vs:List Value},(∀g,(∃c∈cs,c.1.has g)->tm' g=tm g)->cQ w M tm env cs vs->cQ w' M' tm' env cs vs
  | [],_,_,h=>h
  | c::r,vs,hm,⟨v,q,e,h1,h2⟩=>⟨v,q,e,h1.keep hk (fun g hg=>hm g ⟨c,by simp,hg⟩),cQ.keep hk (fun g ⟨x,hx,hg⟩=>hm g ⟨x,by simp [hx],hg⟩) h2⟩
def cQ.length: ∀{cs:List (K×E)} {vs:List Value},cQ w M tm env cs vs->vs.length=cs.length
  | [],_,h=>by subst h;rfl
  | c::r,vs,⟨v,q,e,h1,h2⟩=>by subst e;simp [cQ.length h2]
def cQ.get: ∀{cs:List (K×E)} {vs:List Value},cQ w M tm env cs vs-> ∀{i:Nat} {c:K×E},cs[i]? =some c-> ∃v,vs[i]? =some v/\cz w M tm env c.1 c.2 v
  | [],_,_,i,c,hc=>by simp at hc
  | c::r,vs,⟨v,q,e,h1,h2⟩,0,c',hc=>by subst e;simp at hc;subst hc;exact ⟨v,rfl,h1⟩
  | c::r,vs,⟨v,q,e,h1,h2⟩,i+1,c',hc=>by subst e;simp at hc;obtain ⟨u,hu,hr⟩:=cQ.get h2 hc;exact ⟨u,by simpa using hu,hr⟩
def cQ.set: ∀{cs:List (K×E)} {vs:List Value},cQ w M tm env cs vs-> ∀(i:Nat) {c:K×E} {v:Value},cz w M tm env c.1 c.2 v->cQ w M tm env (cs.set i c) (vs.set i v)
  | [],_,h,i,c,v,hc=>by subst h;simp [cQ]
  | c::r,vs,⟨v,q,e,h1,h2⟩,0,c',v',hc=>by subst e;exact ⟨v',q,rfl,hc,h2⟩
  | c::r,vs,⟨v,q,e,h1,h2⟩,i+1,c',v',hc=>by subst e;exact ⟨v,q.set i v',rfl,h1,cQ.set h2 i hc⟩
def cQ.mi: ∀{ds:List (K×E)} {us:List Value},cQ w M tm env ds us-> ∀{cs:List (K×E)} {vs:List Value} (i:Nat),cQ w M tm env cs vs->cQ w M tm env (mi cs i ds) (mi vs i us)
  | [],_,hd,cs,vs,i,h=>by subst hd;exact h
  | d::r,us,⟨u,q,e,h1,h2⟩,cs,vs,i,h=>by subst e;simp only [Go.Proofs.YtekplmpbkgchfaaGreatDoor.mi];exact cQ.mi h2 (i+1) (h.set i h1)
def cQ.drop: ∀{cs:List (K×E)} {vs:List Value},cQ w M tm env cs vs-> ∀n,cQ w M tm env (cs.drop n) (vs.drop n)
  | _,_,h,0=>by simpa using h
  | [],_,h,n+1=>by subst h;simp [cQ]
  | c::r,vs,⟨v,q,e,h1,h2⟩,n+1=>by subst e;simpa using cQ.drop h2 n
def cQ.take: ∀{cs:List (K×E)} {vs:List Value},cQ w M tm env cs vs-> ∀n,cQ w M tm env (cs.take n) (vs.take n)
  | _,_,h,0=>by simp [cQ]
  | [],_,h,n+1=>by subst h;simp [cQ]
  | c::r,vs,⟨v,q,e,h1,h2⟩,n+1=>by subst e;exact ⟨v,q.take n,by simp,h1,cQ.take h2 n⟩
def cQ.rs: ∀{cs:List (K×E)} {vs:List Value},cQ w M tm env cs vs->Rs w M ((cs.map (·.2)).map (·.den env)) vs
  | [],_,h=>h
  | c::r,vs,⟨v,q,e,h1,h2⟩=>⟨v,q,e,h1.rd,cQ.rs h2⟩
end
structure SC where
  w0:World
  B:Nat
  X:Option Nat
  M0:Addr->Prop
  nt:Nat
  env:List D
def GOk(c:SC):Prop:=mT c.w0/\NG<=c.B/\ ∀g,c.X=some g->NG<=g
def sO(c:SC)(w:World)(M:Addr->Prop)(bm:Nat->Nat)(tm:Nat->Value)(id:Nat)(cs:List (K×E)):Prop :=
  ∃vs T,w.heap[bm id]? =some (.cells vs.toArray T (0,0))/\cQ w M tm c.env cs vs/\(c.B<=bm id\/(id=0/\c.X=some (bm id)))
def Py(d:D)(v:Value):Prop:= ∀(w:World) (M:Addr->Prop),R w M d v
def xg(w:World)(v:Value)(n:Nat)(Q:Nat->Nat->D->Value->Prop)(d:D):Prop :=
  ∃a len cap rows,v= .slice a len cap/\d= .sl rows/\len=rows.length/\len<=cap/\cap<=maxLen/\(a=none->cap=0)/\(∀r∈rows,r.length=n) /\
   ∀b o s,a=some ⟨b,o,s⟩->(0<len->s=none)/\ ∀i r,rows[i]? =some r-> ∀j d,r[j]? =some d-> ∃u,w.cell? ⟨b,o+i*n+j,none⟩=some u/\Q i j d u
def xh(B:Nat)(w:World)(v:Value)(n:Nat):Prop :=
  ∀b o s len cap,v= .slice (some ⟨b,o,s⟩) len cap->0<cap->s=none/\B<=b/\ ∃cells T,w.heap[b]? =some (.cells cells T (0,0))/\o+cap*n<=cells.size
def Kj(B:Nat)(w:World)(tm:Nat->Value)(n:Nat):Option (Nat×List Nat)->Nat->Nat->D->Value->Prop
  | none=>fun _ _ d u=>Py d u
  | some (gv,ms)=>fun i j d u=>(ms.getD j 0=0->Py d u)/\(ms.getD j 0≠0->(∃cells,tm gv= .tuple cells/\cells[i*n+j]? =some u)/\xh B w u (ms.getD j 0)/\xg w u (ms.getD j 0) (fun _ _ d u=>Py d u) d)
structure tX(c:SC)(w:World)(tm:Nat->Value)(g:Nat)(n:LV):Prop where
  sp:xh c.B w (tm g) n.n
  bd: ∀e dp,n.body=some (e,dp)->xg w (tm g) n.n (Kj c.B w tm n.n dp) (e.den c.env)
  dp: ∀e gv ms,n.body=some (e,some (gv,ms))-> ∃cells,tm gv= .tuple cells/\(∀u∈cells.toList,∃m,xh c.B w u m) /\
    (∀(k k':Nat) (u u':Value) (b:Nat),cells[k]? =some u->cells[k']? =some u'->k≠k'->eX u b-> ¬eX u' b)/\ ∀u∈cells.toList,∀b,eX u b-> ¬eX (tm g) b
def xh.keep{B:Nat}{w w':World}{v:Value}{n:Nat}(h:xh B w v n)(hw: ∀b,eX v b->w'.heap[b]? =w.heap[b]?):xh B w' v n:=fun b o s len cap he hl=>by obtain ⟨h1,h2,cells,T,h3,h4⟩:=h b o s len cap he hl;exact ⟨h1,h2,cells,T,by rw [hw b ⟨o,s,len,cap,he,hl⟩];exact h3,h4⟩
def xg.keep{w w':World}{v:Value}{n:Nat}{Q Q':Nat->Nat->D->Value->Prop}{d:D}(h:xg w v n Q d)(hw: ∀b,eX v b->w'.heap[b]? =w.heap[b]?)(hQ: ∀i j d u,Q i j d u->Q' i j d u):xg w' v n Q' d:=by obtain ⟨a,len,cap,rows,h1,h2,h3,h4,h5,h6,h7,h8⟩:=h;refine ⟨a,len,cap,rows,h1,h2,h3,h4,h5,h6,h7,fun b o s ha=>⟨(h8 b o s ha).1,fun i r hi j d hj=> ?_⟩⟩;obtain ⟨u,hu,hl⟩:=(h8 b o s ha).2 i r hi j d hj;refine ⟨u,?_,hQ _ _ _ _ hl⟩;have hlt:=(dQ.1 hi).1;rw [<-hu];exact ER (hw b ⟨o,s,len,cap,by rw [h1,ha],by omega⟩)
def Kj.keep{B:Nat}{w w':World}{tm tm':Nat->Value}{n:Nat}{dp:Option (Nat×List Nat)}(hv: ∀gv ms,dp=some (gv,ms)->tm' gv=tm gv)(hw: ∀gv ms cells u b,dp=some (gv,ms)->tm gv= .tuple cells->u∈cells.toList->eX u b->w'.heap[b]? =w.heap[b]?){i j:Nat}{d:D}{u:Value}
    (h:Kj B w tm n dp i j d u):Kj B w' tm' n dp i j d u:=by
  rcases dp with _|⟨gv,ms⟩
  · exact h
  · refine ⟨h.1,fun hm=> ?_⟩
    obtain ⟨⟨cells,h1,h2⟩,h3,h4⟩:=h.2 hm;have hb: ∀b,eX u b->w'.heap[b]? =w.heap[b]? :=fun b=>hw gv ms cells u b rfl h1 (by rw [<-yD] at h2;exact kV h2)
    exact ⟨⟨cells,by rw [hv gv ms rfl];exact h1,h2⟩,h3.keep hb,h4.keep hb fun _ _ _ _ h=>h⟩
structure aS(c:SC)(F:Nat->Prop)(σ:Nat->ST)(bm:Nat->Nat)(tm:Nat->Value)(a:Act)(w:World):Prop where
  fr:Fr c.B c.X c.w0 w
  hB:c.B<=w.heap.size
  m0:(∀p,c.M0 p->p.block<c.B)/\GOk c
  tmps: ∀t,qi w (MM c.M0 bm tm σ) bm tm c.env (σ (3*t)) (a.tmps.getD t undef)
  box: ∀id cs,σ (3*id+1)= .box cs->sO c w (MM c.M0 bm tm σ) bm tm id cs
  live: ∀g n,σ (3*g+2)= .live n->tX c w tm g n
  rH: ∀id id' cs cs',σ (3*id+1)= .box cs->σ (3*id'+1)= .box cs'->id≠id'->bm id≠bm id'
  pg: ∀id cs g n b,σ (3*id+1)= .box cs->σ (3*g+2)= .live n->mz tm g n b->bm id≠b
  rI: ∀g n g' n' b b',σ (3*g+2)= .live n->σ (3*g'+2)= .live n'->g≠g'->mz tm g n b->mz tm g' n' b'->b≠b'
  f1: ∀l g,cP (σ l) g->F g
  f2: ∀id cs,σ (3*id+1)= .box cs->F id
  f3: ∀g n,σ (3*g+2)= .live n->F g
  size:a.tmps.size=c.nt
  defers:a.defers=[]
  x0: ∀g,c.X=some g->bm 0=g/\F 0
section
variable {c:SC}{F F':Nat->Prop}{σ bH:Nat->ST}{bm dD:Nat->Nat}{tm tm':Nat->Value}{a:Act}{w w':World}
def aS.mono(hs:aS c F σ bm tm a w)(h: ∀g,F g->F' g):aS c F' σ bm tm a w :=
  {hs with f1:=fun l g hg=>h g (hs.f1 l g hg),f2:=fun id cs hc=>h id (hs.f2 id cs hc),f3:=fun g n hn=>h g (hs.f3 g n hn),x0:=fun g hg=>⟨(hs.x0 g hg).1,h 0 (hs.x0 g hg).2⟩}
def as5{M0:Addr->Prop}(h1: ∀id,bH (3*id+1)=σ (3*id+1))(h2: ∀g,bH (3*g+2)=σ (3*g+2)):MM M0 bm tm bH=MM M0 bm tm σ:=by funext p;simp only [MM,h1,h2]
def NW(d id:Nat)(s:ST):bF σ (3*d) s (3*id+1)=σ (3*id+1):=iS _ _ (by omega)
def NY(d g:Nat)(s:ST):bF σ (3*d) s (3*g+2)=σ (3*g+2):=iS _ _ (by omega)
def asG{d:Nat}{v:Value}(hd:d<a.tmps.size)(t:Nat):(a.put (some d) v).tmps.getD t undef=if t=d then v else a.tmps.getD t undef:=by
  simp only [Act.put,rC,Et];by_cases h:t=d
  · subst h;simp [hd]
  · simp [h,zY h]
def aS.put(hs:aS c F σ bm tm a w){d:Nat}{st:ST}{v:Value}(hd:d<c.nt)(hr:qi w (MM c.M0 bm tm σ) bm tm c.env st v)(hm: ∀g,cP st g->F g) :
    aS c F (bF σ (3*d) st) bm tm (a.put (some d) v) w:=by
  have hM:MM c.M0 bm tm (bF σ (3*d) st)=MM c.M0 bm tm σ:=as5 (fun id=>NW _ _ _) (fun g=>NY _ _ _);refine ⟨hs.fr,hs.hB,hs.m0,fun t=> ?_,fun id cs h=> ?_,fun g n h=> ?_,?_,?_,?_,fun l g h=> ?_,fun id cs h=> ?_,fun g n h=> ?_,?_,hs.defers,hs.x0⟩
  · rw [hM,asG (by rw [hs.size];exact hd)]
    by_cases e:t=d
    · subst e;rw [eF];simpa using hr
    · rw [iS _ _ (by omega)];simpa [e] using hs.tmps t
  · rw [NW] at h;rw [hM];exact hs.box id cs h
  · rw [NY] at h;exact hs.live g n h
  · simp only [NW];exact hs.rH
  · simp only [NW,NY];exact hs.pg
  · simp only [NY];exact hs.rI
  · by_cases e:l=3*d
    · subst e;rw [eF] at h;exact hm g h
    · rw [iS _ _ e] at h;exact hs.f1 l g h
  · rw [NW] at h;exact hs.f2 id cs h
  · rw [NY] at h;exact hs.f3 g n h
  · simp [Act.put,hs.size]
def aS.qW(hs:aS c F σ bm tm a w){dst:Option Nat}{st:ST}{v:Value}(hd: ∀d,dst=some d->d<c.nt)(hr:qi w (MM c.M0 bm tm σ) bm tm c.env st v)(hm: ∀g,cP st g->F g) :
    aS c F (dS σ (wv dst st)) bm tm (a.put dst v) w:=by
  cases dst with
  | none=>exact hs
  | some d=>exact hs.put (hd d rfl) hr hm
def aS.turn(hs:aS c F σ bm tm a w)(ht: ∀t,bH (3*t)=σ (3*t))(hag: ∀g,F g->dD g=bm g/\tm' g=tm g)(hF: ∀g,F g->F' g)(hfr:Fr c.B c.X w w')
    (hk:bY w (MM c.M0 bm tm σ) w' (MM c.M0 dD tm' bH))
    (gT: ∀id cs,bH (3*id+1)= .box cs->sO c w' (MM c.M0 dD tm' bH) dD tm' id cs)
    (rP: ∀g n,bH (3*g+2)= .live n->tX c w' tm' g n)
    (rH: ∀id id' cs cs',bH (3*id+1)= .box cs->bH (3*id'+1)= .box cs'->id≠id'->dD id≠dD id')
    (pg: ∀id cs g n b,bH (3*id+1)= .box cs->bH (3*g+2)= .live n->mz tm' g n b->dD id≠b)
    (rI: ∀g n g' n' b b',bH (3*g+2)= .live n->bH (3*g'+2)= .live n'->g≠g'->mz tm' g n b->mz tm' g' n' b'->b≠b')
    (f1: ∀l g,cP (bH l) g->F' g) (f2: ∀id cs,bH (3*id+1)= .box cs->F' id) (f3: ∀g n,bH (3*g+2)= .live n->F' g):aS c F' bH dD tm' a w' :=
  ⟨hs.fr.trans hfr,dq hs.hB hfr.size,hs.m0,
   fun t=>by rw [ht];exact (hs.tmps t).keep hk fun g hg=>hag g (hs.f1 _ _ hg),gT,rP,rH,pg,rI,f1,f2,f3,hs.size,hs.defers,fun g hg=>⟨((hag 0 (hs.x0 g hg).2).1).trans (hs.x0 g hg).1,hF 0 (hs.x0 g hg).2⟩⟩
def sO.keep{M M':Addr->Prop}{id:Nat}{cs:List (K×E)}(h:sO c w M bm tm id cs)(hk:bY w M w' M')(hb:dD id=bm id)(hw:w'.heap[bm id]? =w.heap[bm id]?)(hm: ∀g,(∃x∈cs,x.1.has g)->tm' g=tm g):sO c w' M' dD tm' id cs:=by obtain ⟨vs,T,h1,h2,h3⟩:=h;exact ⟨vs,T,by rw [hb,hw];exact h1,h2.keep hk hm,by rw [hb];exact h3⟩
def sO.lt{M:Addr->Prop}{id:Nat}{cs:List (K×E)}(h:sO c w M bm tm id cs):bm id<w.heap.size:=by
  obtain ⟨vs,T,h1,_⟩:=h;rcases dY (bm id) w.heap.size with h|h
  · exact h
  · rw [yC h] at h1;cases h1
def yp{g:Nat}{n:LV}{b:Nat}(ht:tm' g=tm g)(hv: ∀x,cP (.live n) x->tm' x=tm x):mz tm' g n b↔mz tm g n b:=by
  unfold mz;rw [ht];constructor
  · rintro (h|⟨e,gv,ms,cells,u,h1,h2,h3⟩)
    · exact .inl h
    · exact .inr ⟨e,gv,ms,cells,u,h1,by rw [<-hv gv ⟨e,ms,h1⟩];exact h2,h3⟩
  · rintro (h|⟨e,gv,ms,cells,u,h1,h2,h3⟩)
    · exact .inl h
    · exact .inr ⟨e,gv,ms,cells,u,h1,by rw [hv gv ⟨e,ms,h1⟩];exact h2,h3⟩
def tX.keep{g:Nat}{n:LV}(h:tX c w tm g n)(hw: ∀b,mz tm g n b->w'.heap[b]? =w.heap[b]?)(ht:tm' g=tm g)(hv: ∀x,cP (.live n) x->tm' x=tm x):tX c w' tm' g n:=by
  refine ⟨?_,fun e dp he=> ?_,fun e gv ms he=> ?_⟩
  · rw [ht];exact h.sp.keep fun b hb=>hw b (.inl hb)
  · rw [ht]
    refine (h.bd e dp he).keep (fun b hb=>hw b (.inl hb)) fun i j d u hq=>hq.keep (fun gv ms hd=>hv gv ⟨e,ms,by rw [he,hd]⟩) fun gv ms cells u b hd h1 h2 h3=>hw b (.inr ⟨e,gv,ms,cells,u,by rw [he,hd],h1,h2,h3⟩)
  · obtain ⟨cells,h1,h2,h3,h4⟩:=h.dp e gv ms he
    refine ⟨cells,by rw [hv gv ⟨e,ms,he⟩];exact h1,fun u hu=> ?_,h3,by rw [ht];exact h4⟩;obtain ⟨m,hm⟩:=h2 u hu;exact ⟨m,hm.keep fun b hb=>hw b (.inr ⟨e,gv,ms,cells,u,he,h1,hu,hb⟩)⟩
def xh.lt{B n b:Nat}{v:Value}(h:xh B w v n)(hb:eX v b):b<w.heap.size/\B<=b:=by
  obtain ⟨o,s,len,cap,he,hl⟩:=hb;obtain ⟨_,h1,cells,T,h3,_⟩:=h b o s len cap he hl;refine ⟨?_,h1⟩;rcases dY b w.heap.size with h|h
  · exact h
  · rw [yC h] at h3;cases h3
def tX.cU{g b:Nat}{n:LV}(h:tX c w tm g n)(hb:mz tm g n b):b<w.heap.size/\c.B<=b:=by
  rcases hb with hb|⟨e,gv,ms,cells,u,h1,h2,h3,h4⟩
  · exact h.sp.lt hb
  · obtain ⟨cells',q1,q2,_⟩:=h.dp e gv ms h1
    rw [h2] at q1;cases q1;obtain ⟨m,hm⟩:=q2 u h3;exact hm.lt h4
def tX.lt{g b:Nat}{n:LV}(h:tX c w tm g n)(hb:mz tm g n b):b<w.heap.size:=(h.cU hb).1
def aS.grow(hs:aS c F σ bm tm a w)(hb:Below w.heap.size w w'):aS c F σ bm tm a w':=by
  have hk:bY w (MM c.M0 bm tm σ) w' (MM c.M0 bm tm σ):=bY.below hb fun _ _ h=>h;exact hs.turn (fun _=>rfl) (fun _ _=>⟨rfl,rfl⟩) (fun _ h=>h) (yq hb hs.hB) hk
    (fun id cs h=>(hs.box id cs h).keep hk rfl (hb.block _ (hs.box id cs h).lt) fun _ _=>rfl)
    (fun g n h=>(hs.live g n h).keep (fun b hb'=>hb.block _ ((hs.live g n h).lt hb')) rfl fun _ _=>rfl) hs.rH hs.pg hs.rI hs.f1 hs.f2 hs.f3
def UW(id t:Nat)(s:ST):bF σ (3*id+1) s (3*t)=σ (3*t):=iS _ _ (by omega)
def pK(id g:Nat)(s:ST):bF σ (3*id+1) s (3*g+2)=σ (3*g+2):=iS _ _ (by omega)
def jm{id id':Nat}(s:ST)(h:id'≠id):bF σ (3*id+1) s (3*id'+1)=σ (3*id'+1):=iS _ _ (by omega)
def ab1(g t:Nat)(s:ST):bF σ (3*g+2) s (3*t)=σ (3*t):=iS _ _ (by omega)
def Gs(g id:Nat)(s:ST):bF σ (3*g+2) s (3*id+1)=σ (3*id+1):=iS _ _ (by omega)
def zD{g g':Nat}(s:ST)(h:g'≠g):bF σ (3*g+2) s (3*g'+2)=σ (3*g'+2):=iS _ _ (by omega)
def aS.Ul(hs:aS c F σ bm tm a w){id:Nat}{cs cs':List (K×E)}(hid:σ (3*id+1)= .box cs)
    (hfr:Fr c.B c.X w w') (oy: ∀k,k<w.heap.size->k≠bm id->w'.heap[k]? =w.heap[k]?)
    (gT: ∀M',M'=MM c.M0 bm tm σ->bY w (MM c.M0 bm tm σ) w' M'->sO c w' M' bm tm id cs') (hm: ∀g,(∃x∈cs',x.1.has g)->F g) :
    aS c F (bF σ (3*id+1) (.box cs')) bm tm a w':=by
  have hM:MM c.M0 bm tm (bF σ (3*id+1) (.box cs'))=MM c.M0 bm tm σ:=by
    funext p;simp only [MM,pK];apply propext;constructor
    · rintro (h|⟨i,q,h1,h2⟩|h)
      · exact .inl h
      · by_cases e:i=id
        · subst e;exact .inr (.inl ⟨i,cs,hid,h2⟩)
        · rw [jm _ e] at h1;exact .inr (.inl ⟨i,q,h1,h2⟩)
      · exact .inr (.inr h)
    · rintro (h|⟨i,q,h1,h2⟩|h)
      · exact .inl h
      · by_cases e:i=id
        · subst e;exact .inr (.inl ⟨i,cs',eF _ _ _,h2⟩)
        · exact .inr (.inl ⟨i,q,by rw [jm _ e];exact h1,h2⟩)
      · exact .inr (.inr h)
  have hk:bY w (MM c.M0 bm tm σ) w' (MM c.M0 bm tm σ):=fun p v hp hn=>by refine ⟨?_,hn⟩;have hne:p.block≠bm id:=fun e=>hn (.inr (.inl ⟨id,cs,hid,e⟩));rw [<-hp];exact ER (oy _ (gR hp) hne)
  refine hs.turn (fun t=>UW _ _ _) (fun _ _=>⟨rfl,rfl⟩) (fun _ h=>h) hfr (by rw [hM];exact hk) ?_ ?_ ?_ ?_ ?_ ?_ ?_ ?_
  · intro i q h
    rw [hM];by_cases e:i=id
    · subst e;rw [eF] at h;simp at h;subst h;exact gT _ rfl hk
    · rw [jm _ e] at h
      exact (hs.box i q h).keep hk rfl (oy _ (hs.box i q h).lt (hs.rH _ _ _ _ h hid e)) fun _ _=>rfl
  · intro g n h
    rw [pK] at h;exact (hs.live g n h).keep (fun b hb=>oy _ ((hs.live g n h).lt hb) (zY (hs.pg id cs g n b hid h hb))) rfl fun _ _=>rfl
  · intro i i' q q' h h' hne
    by_cases e:i=id<;>by_cases e':i'=id
    · exact absurd (e.trans e'.symm) hne
    · subst e;rw [jm _ e'] at h';exact hs.rH _ _ _ _ hid h' hne
    · subst e';rw [jm _ e] at h;exact hs.rH _ _ _ _ h hid hne
    · rw [jm _ e] at h;rw [jm _ e'] at h';exact hs.rH _ _ _ _ h h' hne
  · intro i q g n b h hg hb
    rw [pK] at hg;by_cases e:i=id
    · subst e;exact hs.pg _ _ _ _ _ hid hg hb
    · rw [jm _ e] at h;exact hs.pg _ _ _ _ _ h hg hb
  · simp only [pK];exact hs.rI
  · intro l g h
    by_cases e:l=3*id+1
    · subst e;rw [eF] at h;exact hm g h
    · rw [iS _ _ e] at h;exact hs.f1 l g h
  · intro i q h
    by_cases e:i=id
    · subst e;exact hs.f2 _ _ hid
    · rw [jm _ e] at h;exact hs.f2 _ _ h
  · intro g n h;rw [pK] at h;exact hs.f3 g n h
def aS.aCm(hs:aS c F σ bm tm a w){g:Nat}(hg: ¬F g){cs:List (K×E)}{vs:List Value}{T:TypeId}(hv:cQ w (MM c.M0 bm tm σ) tm c.env cs vs)(hm: ∀x,(∃y∈cs,y.1.has x)->F x) :
    aS c (fun x=>F x\/x=g) (bF σ (3*g+1) (.box cs)) (bF bm g w.heap.size) tm a (w.alloc (.cells vs.toArray T)):=by
  have hb:Below w.heap.size w (w.alloc (.cells vs.toArray T)):=(dP _ _).alloc (bU _) _;have xE: ∀x,F x->bF bm g w.heap.size x=bm x:=fun x hx=>iS _ _ (fun e=>hg (e▸hx));have hk:bY w (MM c.M0 bm tm σ) (w.alloc (.cells vs.toArray T)) (MM c.M0 (bF bm g w.heap.size) tm (bF σ (3*g+1) (.box cs))):=by
    refine bY.below hb fun p hp h=> ?_;rcases h with h|⟨i,q,h1,h2⟩|⟨x,n,h1,h2⟩
    · exact .inl h
    · by_cases e:i=g
      · subst e;rw [eF] at h2;omega
      · rw [jm _ e] at h1;rw [iS _ _ e] at h2;exact .inr (.inl ⟨i,q,h1,h2⟩)
    · rw [pK] at h1;exact .inr (.inr ⟨x,n,h1,h2⟩)
  refine hs.turn (fun t=>UW _ _ _) (fun x hx=>⟨xE x hx,rfl⟩) (fun _ h=> .inl h) (yq hb hs.hB) hk ?_ ?_ ?_ ?_ ?_ ?_ ?_ ?_
  · intro i q h
    by_cases e:i=g
    · subst e;rw [eF] at h;simp at h;subst h
      refine ⟨vs,T,?_,hv.keep hk fun _ _=>rfl,.inl ?_⟩
      · rw [eF];exact xn _ _
      · rw [eF];exact hs.hB
    · rw [jm _ e] at h
      exact (hs.box i q h).keep hk (xE i (hs.f2 _ _ h)) (Ku _ _ _ (hs.box i q h).lt) fun _ _=>rfl
  · intro x n h
    rw [pK] at h;exact (hs.live x n h).keep (fun b hb=>Ku _ _ _ ((hs.live x n h).lt hb)) rfl fun _ _=>rfl
  · intro i i' q q' h h' hne
    by_cases e:i=g<;>by_cases e':i'=g
    · exact absurd (e.trans e'.symm) hne
    · subst e;rw [jm _ e'] at h';rw [eF,iS _ _ e'];have:=(hs.box i' q' h').lt;omega
    · subst e';rw [jm _ e] at h;rw [eF,iS _ _ e];have:=(hs.box i q h).lt;omega
    · rw [jm _ e] at h;rw [jm _ e'] at h';rw [iS _ _ e,iS _ _ e'];exact hs.rH _ _ _ _ h h' hne
  · intro i q x n b h hx hb'
    rw [pK] at hx;by_cases e:i=g
    · subst e;rw [eF];have:=(hs.live x n hx).lt hb';omega
    · rw [jm _ e] at h;rw [iS _ _ e];exact hs.pg _ _ _ _ _ h hx hb'
  · simp only [pK];exact hs.rI
  · intro l x h
    by_cases e:l=3*g+1
    · subst e;rw [eF] at h;exact .inl (hm x h)
    · rw [iS _ _ e] at h;exact .inl (hs.f1 l x h)
  · intro i q h
    by_cases e:i=g
    · exact .inr e
    · rw [jm _ e] at h;exact .inl (hs.f2 _ _ h)
  · intro x n h;rw [pK] at h;exact .inl (hs.f3 x n h)
def aS.aCn(hs:aS c F σ bm tm a w){g g0:Nat}(hg: ¬F g)(hb:Below w.heap.size w w')(h0:w.heap.size<=g0){cs:List (K×E)}{vs:List Value}{T:TypeId}(hblk:w'.heap[g0]? =some (.cells vs.toArray T (0,0)))
    (hv:cQ w' (fun p=>MM c.M0 bm tm σ p\/p.block=g0) tm c.env cs vs) (hm: ∀x,(∃y∈cs,y.1.has x)->F x) :
    aS c (fun x=>F x\/x=g) (bF σ (3*g+1) (.box cs)) (bF bm g g0) tm a w':=by
  have xE: ∀x,F x->bF bm g g0 x=bm x:=fun x hx=>iS _ _ (fun e=>hg (e▸hx));have hM: ∀p,MM c.M0 (bF bm g g0) tm (bF σ (3*g+1) (.box cs)) p->(MM c.M0 bm tm σ p\/p.block=g0):=by
    intro p h;rcases h with h|⟨i,q,h1,h2⟩|⟨x,n,h1,h2⟩
    · exact .inl (.inl h)
    · by_cases e:i=g
      · subst e;rw [eF] at h2;exact .inr h2
      · rw [jm _ e] at h1;rw [iS _ _ e] at h2;exact .inl (.inr (.inl ⟨i,q,h1,h2⟩))
    · rw [pK] at h1;exact .inl (.inr (.inr ⟨x,n,h1,h2⟩))
  have hk:bY w (MM c.M0 bm tm σ) w' (MM c.M0 (bF bm g g0) tm (bF σ (3*g+1) (.box cs))):=by
    refine bY.below hb fun p hp h=> ?_;rcases hM p h with h|h
    · exact h
    · omega
  have hk':bY w' (fun p=>MM c.M0 bm tm σ p\/p.block=g0) w' (MM c.M0 (bF bm g g0) tm (bF σ (3*g+1) (.box cs))):=fun p v hp hn=>⟨hp,fun h=>hn (hM p h)⟩;refine hs.turn (fun t=>UW _ _ _) (fun x hx=>⟨xE x hx,rfl⟩) (fun _ h=> .inl h) (yq hb hs.hB) hk ?_ ?_ ?_ ?_ ?_ ?_ ?_ ?_
  · intro i q h
    by_cases e:i=g
    · subst e;rw [eF] at h;simp at h;subst h
      refine ⟨vs,T,?_,hv.keep hk' fun _ _=>rfl,.inl ?_⟩
      · rw [eF];exact hblk
      · rw [eF];exact dq hs.hB h0
    · rw [jm _ e] at h
      exact (hs.box i q h).keep hk (xE i (hs.f2 _ _ h)) (hb.block _ (hs.box i q h).lt) fun _ _=>rfl
  · intro x n h
    rw [pK] at h;exact (hs.live x n h).keep (fun b hb'=>hb.block _ ((hs.live x n h).lt hb')) rfl fun _ _=>rfl
  · intro i i' q q' h h' hne
    by_cases e:i=g<;>by_cases e':i'=g
    · exact absurd (e.trans e'.symm) hne
    · subst e;rw [jm _ e'] at h';rw [eF,iS _ _ e'];have:=(hs.box i' q' h').lt;omega
    · subst e';rw [jm _ e] at h;rw [eF,iS _ _ e];have:=(hs.box i q h).lt;omega
    · rw [jm _ e] at h;rw [jm _ e'] at h';rw [iS _ _ e,iS _ _ e'];exact hs.rH _ _ _ _ h h' hne
  · intro i q x n b h hx hb'
    rw [pK] at hx;by_cases e:i=g
    · subst e;rw [eF];have:=(hs.live x n hx).lt hb';omega
    · rw [jm _ e] at h;rw [iS _ _ e];exact hs.pg _ _ _ _ _ h hx hb'
  · simp only [pK];exact hs.rI
  · intro l x h
    by_cases e:l=3*g+1
    · subst e;rw [eF] at h;exact .inl (hm x h)
    · rw [iS _ _ e] at h;exact .inl (hs.f1 l x h)
  · intro i q h
    by_cases e:i=g
    · exact .inr e
    · rw [jm _ e] at h;exact .inl (hs.f2 _ _ h)
  · intro x n h;rw [pK] at h;exact .inl (hs.f3 x n h)
end
end Go.Proofs.YtekplmpbkgchfaaGreatDoor
