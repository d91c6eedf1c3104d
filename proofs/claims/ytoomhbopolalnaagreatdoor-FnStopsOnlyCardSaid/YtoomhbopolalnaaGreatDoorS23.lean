/- For the walks over the reference's operations on hosts: boxes ahead of the copy, the state behind it, calls that give a plain answer. -/
import Derived.Test.YtoomhbopolalnaaGreatDoorS22
set_option linter.all false
set_option maxRecDepth 100000
namespace Go.Proofs.YtoomhbopolalnaaGreatDoor
variable {M:Addr->Prop}{t:ByteArray}{d:D}{f:FuncId}{h:Host}{ds:List D}{vs':List Value}{b:Nat}{N:Nat->Prop}{x:Operand}{v:Value}{w:World}
section
open Go.RowKit Go
variable [GC]
def BR{s:ByteArray}(m:gV h s=true):uS h/\0<=cN h.entries s/\h.log.length<24/\cD h s<h.parts.length:=by
 have a:=m;unfold gV at m;simp only[aY,qH,qK,dr]at m;have O:uS h:=DC.1 m.1.1;have f:0<=cN h.entries s:=by have:=m.1.2;omega
 refine⟨O,f,m.2,?_⟩;obtain⟨i,b,c,_⟩:=vK f;unfold cD;rw[b,O.len];simpa using c
def HX.azJ{w':World}{ve vp vs vl cZ:Value}{rows:List (List D)}(H:HX M N w h ve vp vs vl)(hg:w.grownBy w' vl.ownBlock)(O:OR M (fun x=>N x\/cZ.ownBlock=some x) w' 33 7 rows cZ)(a:cZ.ownBlock=vl.ownBlock\/cZ.ownBlock=some w.heap.size)(r:R w (BM M N) d v):R w' (BM M fun x=>N x\/cZ.ownBlock=some x) d v:=by
 have j:∀x,(N x\/cZ.ownBlock=some x)->N x\/w.heap.size<=x:=fun x k=>k.elim .inl fun e=>by
  rcases a with b|b
  ·exact .inl (H.l.lt x (b▸e)).1
  ·rw[b]at e;have:=jy e;exact .inr (by omega)
 exact R.keep (fun p u c f=>by have i:=gf c;have m:w'.heap[p.block]? =w.heap[p.block]? :=hg.block p.block i fun e=>f (.inr (H.l.lt _ e.symm).1);exact⟨by unfold World.cell? at c ⊢;rw[m];exact c,fun h=>h.elim (fun h=>f (.inl h)) fun h=>(j _ h).elim (fun h=>f (.inr h)) fun h=>by omega⟩) _ _ r
structure SB(L:Nat)(bx:List (Nat×TypeId×Array Value))(M:Addr->Prop)(N:Nat->Prop)(w W:World)(b6:Nat)(g:Host)(ve vp vu vs vl:Value):Prop where
 H:HX M N W g ve vp vs vl
 U:R W (BM M N) (ak g.up) vu
 bx:∀x∈bx,x.1<L/\aA W (w.heap.size+x.1) x.2.1 x.2.2
 q6:aA W b6 29 (aC ve vp vu vs vl)
 bw:Below w.heap.size w W
 nb:∀k,k<L->N (w.heap.size+k)
 n6:N b6
 nw:∀x,N x->w.heap.size<=x
 lo:w.heap.size+L<=b6
 kv:∀x,KV vp vl x->w.heap.size+L<=x/\x≠b6
section
variable {L:Nat}{bx:List (Nat×TypeId×Array Value)}{M:Addr->Prop}{N N':Nat->Prop}{w W W' W'':World}{b6:Nat}{g g':Host}{ve vp vu vs vl oq Er dm vs' cZ:Value}{T0 T1 T2 T3:TypeId}{c0 c1 c2 c3:Array Value}
def SB.b0(S:SB L ((0,T0,c0)::bx) M N w W b6 g ve vp vu vs vl):aA W w.heap.size T0 c0:=(S.bx _ (.head _)).2
def SB.b1(S:SB L ((0,T0,c0)::(1,T1,c1)::bx) M N w W b6 g ve vp vu vs vl):aA W (w.heap.size+1) T1 c1:=(S.bx _ (.tail _ (.head _))).2
def SB.b2(S:SB L ((0,T0,c0)::(1,T1,c1)::(2,T2,c2)::bx) M N w W b6 g ve vp vu vs vl):aA W (w.heap.size+2) T2 c2:=(S.bx _ (.tail _ (.tail _ (.head _)))).2
def SB.b3(S:SB L ((0,T0,c0)::(1,T1,c1)::(2,T2,c2)::(3,T3,c3)::bx) M N w W b6 g ve vp vu vs vl):aA W (w.heap.size+3) T3 c3:=(S.bx _ (.tail _ (.tail _ (.tail _ (.head _))))).2
def SB.below(S:SB L bx M N w W b6 g ve vp vu vs vl)(hb:Below W.heap.size W W'):SB L bx M N w W' b6 g ve vp vu vs vl :=
 {S with
  H:=S.H.below hb
  U:=dH S.U hb fun x hx=>.inl hx
  bx:=fun x hx=>⟨(S.bx x hx).1,(S.bx x hx).2.below hb (S.bx x hx).2.lt⟩
  q6:=S.q6.below hb S.q6.lt
  bw:=bt S.bw hb}
def SB.new(S:SB L bx M N w W b6 g ve vp vu vs vl)(hb:Below W.heap.size W W')(c:∀x,N' x->N x\/W.heap.size<=x)(a:∀x,N x->N' x)(e:∀x,N' x->x<W'.heap.size):SB L bx M N' w W' b6 g ve vp vu vs vl :=
 ⟨S.H.new hb c a e,dH S.U hb c,fun x b=>⟨(S.bx x b).1,(S.bx x b).2.below hb (S.bx x b).2.lt⟩,S.q6.below hb S.q6.lt,bt S.bw hb,fun k f=>a _ (S.nb k f),a _ S.n6,fun x b=>(c x b).elim (S.nw x) fun h=>dV S.bw.size h,S.lo,S.kv⟩
def SB.Mx(S:SB L bx M N w W b6 g ve vp vu vs vl)(o:bU W W' b)(a:w.heap.size<=b):Below w.heap.size w W' :=
 ⟨o.os.trans S.bw.os,o.tape.trans S.bw.tape,o.output.trans S.bw.output,by rw[o.size];exact S.bw.size,fun i c=>(o.block i (by omega)).trans (S.bw.block i c)⟩
def SB.Zc(S:SB L bx M N w W b6 g ve vp vu vs vl)(o:bU W W' b)(c:w.heap.size+L<=b):∀x∈bx,x.1<L/\aA W' (w.heap.size+x.1) x.2.1 x.2.2:=fun x a=>⟨(S.bx x a).1,(o.block _ (by have:=(S.bx x a).1;omega)).trans (S.bx x a).2⟩
def SB.wr(S:SB L bx M N w W b6 g ve vp vu vs vl)(hG:dZ w M)(o:bU W W' b)(hn:N b)(hk:¬KV vp vl b)(hlo:w.heap.size+L<=b)(h6:b≠b6):SB L bx M N w W' b6 g ve vp vu vs vl:=by
 have hg:=hG.2.2;exact {S with
  H:=S.H.one o hn hk (by omega)
  U:=iO S.U o hn
  bx:=S.Zc o hlo
  q6:=(o.block _ (yc h6)).trans S.q6
  bw:=S.Mx o (by omega)}
def SB.part{cap i:Nat}{p:Part}(S:SB L bx M N w W b6 g ve (.slice (some ⟨b,0,none⟩) g.parts.length cap) vu vs vl)(hp:OR M N W' 51 6 ((g.parts.map aB.cells).set i (aB.cells p)) (.slice (some ⟨b,0,none⟩) g.parts.length cap))(o:bU W W' b):SB L bx M N w W' b6 {g with parts:=g.parts.set i p} ve (.slice (some ⟨b,0,none⟩) g.parts.length cap) vu vs vl:=by
 have hk:=S.kv b (.inl rfl);exact {S with
  H:=S.H.part hp o
  U:=iO S.U o (S.H.p.lt b rfl).1
  bx:=S.Zc o hk.1
  q6:=(o.block _ (yc hk.2)).trans S.q6
  bw:=S.Mx o (by omega)}
def SB.box(S:SB L bx M N w W b6 g ve vp vu vs vl)(G:dZ w M)(o:bU W W' b6)(h1:∀x,N' x->N x)(h2:∀x,KV vp vl x->N' x)(c:∀k,k<L->N' (w.heap.size+k))(a:N' b6)(e:g'.parts=g.parts/\g'.log=g.log)(f:R W (BM M N') (ak g'.entries) oq)(u:R W (BM M N') (ak g'.up) dm)(i:R W (BM M N') (ak g'.shut) vs')(q:aA W' b6 29 (aC oq vp dm vs' vl)) :
  SB L bx M N' w W' b6 g' oq vp dm vs' vl:=by
 have b:NG<=b6:=by have:=S.lo;have:=G.2.2;omega
 have H:=(S.H.less h1 h2).one o a (fun j=>(S.kv _ j).2 rfl) b;exact⟨⟨H.gi,H.mb,H.nb,iO f o a,e.1▸H.p,iO i o a,e.2▸H.l,H.pl,H.gp,H.gl⟩,iO u o a,S.Zc o S.lo,q,S.Mx o (by have:=S.lo;omega),c,a,fun x m=>S.nw x (h1 x m),S.lo,S.kv⟩
def SB.grow{row:Option Nat}(S:SB L bx M N w W b6 g ve vp vu vs vl)(G:dZ w M)(hg:W.grownBy W' row)(r:∀x,row=some x->N x/\¬KV vp vl x/\w.heap.size+L<=x/\x≠b6)(f:∀x,N' x->N x\/W.heap.size<=x)(b:∀x,N x->N' x)(j:∀x,N' x->x<W'.heap.size):SB L bx M N' w W' b6 g ve vp vu vs vl:=by
 have c:=S.bw;refine⟨S.H.grow hg (fun x a=>⟨(r x a).1,(r x a).2.1,by have:=(r x a).2.2.1;have:=G.2.2;omega⟩) f b j,?_,fun x a=>⟨(S.bx x a).1,(S.bx x a).2.grown hg fun e=>by have:=(r _ e.symm).2.2.1;have:=(S.bx x a).1;omega⟩,S.q6.grown hg fun e=>(r _ e.symm).2.2.2 rfl,
  ⟨hg.os.trans c.os,hg.tape.trans c.tape,hg.output.trans c.output,dV c.size hg.size,fun i y=>(hg.block i (ek y c.size) fun e=>by have:=(r _ e.symm).2.2.1;omega).trans (c.block i y)⟩,fun k z=>b _ (S.nb k z),b _ S.n6,fun x a=>(f x a).elim (S.nw x) fun h=>dV c.size h,S.lo,S.kv⟩
 exact R.keep (fun p u m q=>by have t:=gf m;have e:W'.heap[p.block]? =W.heap[p.block]? :=hg.block p.block t fun e=>q (.inr (r _ e.symm).1);exact⟨by unfold World.cell? at m ⊢;rw[e];exact m,fun h=>h.elim (fun h=>q (.inl h)) fun h=>(f _ h).elim (fun h=>q (.inr h)) fun h=>by omega⟩) _ _ S.U
def SB.iP{l:List ByteArray}{A:Addr->Prop}{b:World}(S:SB L bx M N w W b6 g ve vp vu vs vl)(h:R b A (ak l) dm):∀u∈(aC ve vp dm vs vl).toList,u.oneCell'=true:=fun u e=>by
 have op:vp.oneCell'=true:=by obtain⟨a,c,rfl,_⟩:=S.H.p.len;rfl
 have ol:vl.oneCell'=true:=by obtain⟨a,c,rfl,_⟩:=S.H.l.len;rfl
 have f:ve.oneCell'=true:=mf (show R W _ (.sl (g.entries.map aB.cells)) ve from S.H.e);have i:vs.oneCell'=true:=mf (show R W _ (.sl (g.shut.map aB.cells)) vs from S.H.s);have j:dm.oneCell'=true:=mf (show R b _ (.sl (l.map aB.cells)) dm from h);simp[aC]at e;rcases e with rfl|rfl|rfl|rfl|rfl<;>assumption
def SB.one(S:SB L bx M N w W b6 g ve vp vu vs vl):∀u∈(aC ve vp vu vs vl).toList,u.oneCell'=true:=S.iP S.U
def SB.ans{k:Nat}(S:SB L bx M N w W b6 g ve vp vu vs vl)(G:dZ w M)(b:k<L)(o:bU W W' (w.heap.size+k)):R W' M (enc g) (.agg (aC ve vp vu vs vl))/\Below w.heap.size w W'/\SB L [] M N w W' b6 g ve vp vu vs vl:=by
 have c:¬KV vp vl (w.heap.size+k):=fun e=>by have:=(S.kv _ e).1;omega
 have f:=G.2.2;have H:=S.H.one o (S.nb k b) c (by omega);have U:=iO S.U o (S.nb k b);have i:=S.lo;exact⟨H.done (Mu U) fun x a q m=>by have:=(S.kv x a).1;have j:x<w.heap.size:=G.1 _ m;omega,S.Mx o (by omega),
  {S with H:=H,U:=U,bx:=fun x a=>(by cases a),q6:=(o.block _ (by omega)).trans S.q6,bw:=S.Mx o (by omega)}⟩
def SB.out{k j:Nat}(S:SB L bx M N w W b6 g ve vp vu vs vl)(G:dZ w M)(a:k<L)(b:j<L)(c:bU W W' (w.heap.size+k))(e:bU W' W'' (w.heap.size+j)):R W'' M (enc g) (.agg (aC ve vp vu vs vl))/\Below w.heap.size w W'':=by obtain⟨f,i,_⟩:=(S.ans G a c).2.2.ans G b e;exact⟨f,i⟩
def SB.logged{e:Event}(S:SB L bx M N w W b6 g ve vp vu vs vl)(G:dZ w M)(hg:W.grownBy W' vl.ownBlock)(O:OR M (fun x=>N x\/cZ.ownBlock=some x) W' 33 7 ((g.log++[e]).map aB.cells) cZ)(b:cZ.ownBlock=vl.ownBlock\/cZ.ownBlock=some W.heap.size)(c:bU W' W'' b6)(q6:aA W'' b6 29 (aC ve vp vu vs cZ)) :
  SB L bx M (fun x=>N x\/cZ.ownBlock=some x) w W'' b6 (qo g e) ve vp vu vs cZ:=by
 have y:=S.q6.lt;have z:=S.lo;have f:=S.bw;have A:=G.2.2;have m:∀x,KV vp cZ x->w.heap.size+L<=x/\x≠b6:=fun x a=>a.elim (fun e=>S.kv x (.inl e)) fun e=>by
  rcases b with j|j
  ·exact S.kv x (.inr (j▸e))
  ·rw[j]at e;have:=jy e;exact⟨by omega,by omega⟩
 have t:∀x,x<w.heap.size+L->some x≠vl.ownBlock:=fun x a e=>by have:=S.kv x (.inr e.symm);omega
 have q:∀x,x<w.heap.size+L->x<W.heap.size->W''.heap[x]? =W.heap[x]? :=fun x a u=>(c.block x (by omega)).trans (hg.block x u (t x a));exact⟨(S.H.aam hg O b).one c (.inl S.n6) (fun p=>(m _ p).2 rfl) (by omega),iO (S.H.azJ hg O b S.U) c (.inl S.n6),fun x a=>⟨(S.bx x a).1,(q _ (by have:=(S.bx x a).1;omega) (S.bx x a).2.lt).trans (S.bx x a).2⟩,q6,
  ⟨c.os.trans (hg.os.trans f.os),c.tape.trans (hg.tape.trans f.tape),c.output.trans (hg.output.trans f.output),by rw[c.size];exact dV f.size hg.size,fun i r=>(q i (by omega) (ek r f.size)).trans (f.block i r)⟩,fun k p=>.inl (S.nb k p),.inl S.n6,
  fun x a=>a.elim (S.nw x) fun e=>by
   rcases b with j|j
   ·have:=(S.kv x (.inr (j▸e))).1;omega
   ·rw[j]at e;have:=jy e;have:=f.size;omega,S.lo,m⟩
def SB.lg(S:SB L bx M N w W b6 g ve vp vu vs vl)(G:dZ w M){e:Event}{us:List Value}(r:Rs W (BM M N) (aB.cells e) us)(H:g.log.length<1048576):∃cZ W' N',(Builtin.append_ #[27,27] 27 #[vl,.slice (some ⟨W.heap.size,0,none⟩) 1 1]).run az (W.alloc (.cells us.toArray 33))=.ok cZ W'/\cZ.oneCell'=true/\aA W' b6 29 (aC ve vp vu vs vl)/\(∀{b t cs},aA W b t cs->some b≠vl.ownBlock->aA W' b t cs)/\bU W' (W'.setCell ⟨b6,0+4,none⟩ cZ) b6 /\
  SB L bx M N' w (W'.setCell ⟨b6,0+4,none⟩ cZ) b6 (qo g e) ve vp vu vs cZ:=by
 obtain⟨Y,k,I,z,y⟩:=vD (P:=az) (e:=33) (z:=.agg #[.int .i64 0,.string ⟨#[]⟩,.string ⟨#[]⟩,.string ⟨#[]⟩,.int .i64 0,.string ⟨#[]⟩,aN]) (size:=7) (bytes:=104) (by kernel_rfl);have m:=gh W us.toArray 33;have f:=MN (Cp e) r;have i:=S.below m;have p:Rs (W.alloc (.cells us.toArray 33)) (BM M N) (aB.cells e) us:=Rs.keep (BM.below (N':=N) m fun x J=>.inl J) _ _ r;obtain⟨cZ,W',q,O,A,B⟩:=or_append (P:=az) (ty:=27) (c:=1) (a:=⟨W.heap.size,0,none⟩) vz k I z y rfl (by decide) i.H.l i.H.nb (r:=aB.cells e) (us:=us) rfl ((Rs.length r).trans rfl) (fun j d U=>p.get U) (fun j u V=>FI (w:=W) (xs:=us) (T:=33) j u V) f (by rw[dq];exact H) (by decide);have O:OR M (fun x=>N x\/cZ.ownBlock=some x) W' 33 7 ((g.log++[e]).map aB.cells) cZ:=by rw[AR];exact O
 have C:=i.q6.grown A fun e=>(i.kv _ (.inr e.symm)).2 rfl;have F:=(bU.refl W' b6).set (0+4) cZ;exact⟨cZ,W',_,q,by obtain⟨a,c,rfl,_⟩:=O.len;rfl,C,fun h X=>(h.below m h.lt).grown A X,F,i.logged G A O B F (C.xK 4 cZ)⟩
def Km{n:Nat}{E:List (Nat×Value)}{o:Oper}{u a b c e f i:Value}(ho:o.op=.buildSlice 27 1 #[(0,x)]:=by rfl)(hx:ev E x=some (.agg #[u,a,b,c,e,f,i]):=by rfl):eQ n az E o w (.slice (some ⟨w.heap.size,0,none⟩) 1 1) (w.alloc (.cells #[u,a,b,c,e,f,i] 33)):=by obtain⟨k,t,j,z,y⟩:=vD (P:=az) (e:=33) (z:=.agg #[.int .i64 0,.string ⟨#[]⟩,.string ⟨#[]⟩,.string ⟨#[]⟩,.int .i64 0,.string ⟨#[]⟩,aN]) (size:=7) (bytes:=104) (by kernel_rfl);exact ama ho hx vz t z j
end
section
variable {n:Nat}{P:Program}{Q:Exit->Act->World->Prop}{E:List (Nat×Value)}{w:World}
def afE(n:Nat)(J:List (Nat×Value)->World->Prop)(Q:Exit->Act->World->Prop):Exit->Act->World->Prop
 |.normal,a,w=>∃E',J E' w/\Env n a E'
 |e,a,w=>Q e a w
def Qu{c:Code}(J:List (Nat×Value)->World->Prop)(h:CW n P c (afE n J Q) E w)(r:∀E' w',J E' w'->NX n (Q .normal) E' w'):CW n P c Q E w:=fun a b=>
 AY (h a b) fun e f w' q=>by
  cases e with
  |normal=>obtain⟨E',i,j⟩:=q;exact r E' w' i f j
  |exit id=>exact q
  |goto l=>exact q
  |ret=>exact q
  |panic k=>exact q
  |outgrown=>exact q
def AG{J:List (Nat×Value)->World->Prop}{E':List (Nat×Value)}(h:J E' w)(b:tf E E'):NX n (afE n J Q .normal) E w:=fun a c=>⟨E',h,c.sub b⟩
end
structure B0(w W:World)(l:List (Nat×TypeId×Array Value)):Prop where
 b:Below w.heap.size w W
 z:W.heap.size=w.heap.size+l.length
 m:∀x∈l,x.1<l.length/\aA W (w.heap.size+x.1) x.2.1 x.2.2
section
variable {n:Nat}{P:Program}{ops:Array Oper}{Q:Exit->Act->World->Prop}{E:List (Nat×Value)}{o:Oper}{rest:List Oper}{d:Nat}{w W:World}{l bx:List (Nat×TypeId×Array Value)}{T:TypeId}{cs:Array Value}
def B0.nil:B0 w w []:=⟨⟨rfl,rfl,rfl,bK _,fun _ _=>rfl⟩,rfl,fun x a=>(by cases a)⟩
def B0.al(B:B0 w W l)(cs:Array Value)(T:TypeId):B0 w (W.alloc (.cells cs T)) (l++[(l.length,T,cs)]):=by
 refine⟨bt B.b (gh W cs T),by rw[eB,B.z,jI];rfl,fun x a=> ?_⟩;rw[jI];rcases iV.1 a with a|a
 ·exact⟨ek (B.m x a).1 (Nat.le_add_right _ _),(B.m x a).2.alloc _⟩
 ·simp only[fw,vf,yg]at a;subst a;refine⟨QZ _,?_⟩;have:=aA.new W T cs;rw[B.z]at this;exact this
def CU(B:B0 w W l)(z:(P.info? T).bind (·.zero)=some (.agg cs))(h:∀W',B0 w W' (l++[(l.length,T,cs)])->WL n P ops Q rest ((d,PH (w.heap.size+l.length))::E) W')(ho:o.op=.alloc T:=by rfl)(hg:o.guard=none:=by rfl)(hd:o.dst=some d:=by rfl)(a:d<n:=by decide):WL n P ops Q (o::rest) E W:=by have:=h _ (B.al cs T);rw[<-B.z]at this;exact fq hg hd (eV ho z) a this
def CV(B:B0 w W l)(h:∀W',B0 w W' (l++[(l.length,T,cs)])->WL n P ops Q rest ((d,PH (w.heap.size+l.length))::E) W')(ho:o.op=.box T x:=by rfl)(hx:ev E x=some (.agg cs):=by rfl)(hg:o.guard=none:=by rfl)(hd:o.dst=some d:=by rfl)(a:d<n:=by decide):WL n P ops Q (o::rest) E W:=by have:=h _ (B.al cs T);rw[<-B.z]at this;exact fq hg hd (uJ (ho:=ho) (hx:=hx)) a this
def B0.q0(B:B0 w W ((0,T,cs)::bx)):aA W w.heap.size T cs:=(B.m _ (.head _)).2
end
section
variable {L:Nat}{bx:List (Nat×TypeId×Array Value)}{M:Addr->Prop}{N:Nat->Prop}{w W:World}{b6:Nat}{g h:Host}{ve vp vu vs vl v:Value}
def SB.ask{b:Bool}(S:SB L bx M N w W b6 g ve vp vu vs vl)(F:aG az f none ds (.bool b) [])(r:Rs W (BM M N) ds vs'):Calls az f vs'.toArray W fun e W'=>e=.returned (.bool b)/\SB L bx M N w W' b6 g ve vp vu vs vl :=
 (aG.calls F S.H.cF r).mono fun e W' ⟨v,a,c,i⟩=>by obtain rfl:=c;exact⟨a,S.below i⟩
def SB.kp(S:SB L bx M N w W b6 g ve vp vu vs vl)(h:R w M d v):R W (BM M N) d v:=xy h S.bw S.nw
end
def abW{W W':World}{K N':Nat->Prop}(h:R W (BM M N) d v)(f:dD K W W')(e:∀x,K x->N x)(i:∀x,N' x->N x\/W.heap.size<=x):R W' (BM M N') d v :=
  R.keep (fun p u c a=>by have b:=gf c;have j:W'.heap[p.block]? =W.heap[p.block]? :=f.block p.block b fun k=>a (.inr (e _ k));exact⟨by unfold World.cell? at c ⊢;rw[j];exact c,fun h=>h.elim (fun h=>a (.inl h)) fun h=>(i _ h).elim (fun h=>a (.inr h)) fun h=>by omega⟩) _ _ h
structure SU(L:Nat)(bx:List (Nat×TypeId×Array Value))(M:Addr->Prop)(N:Nat->Prop)(w W:World)(b6:Nat)(g:Host)(ve vp vu vs vl:Value):Prop where
  H:HX M N W g ve vp vs vl
  U:OR M N W 9 1 (g.up.map aB.cells) vu
  bx:∀x∈bx,x.1<L/\aA W (w.heap.size+x.1) x.2.1 x.2.2
  q6:aA W b6 29 (aC ve vp vu vs vl)
  bw:Below w.heap.size w W
  nb:∀k,k<L->N (w.heap.size+k)
  n6:N b6
  nw:∀x,N x->w.heap.size<=x
  lo:w.heap.size+L<=b6
  kv:∀x,KV vp vl x->w.heap.size+L<=x/\x≠b6
  ua:∀x,vu.ownBlock=some x->¬KV vp vl x/\w.heap.size+L<=x/\x≠b6
section
variable {L:Nat}{bx:List (Nat×TypeId×Array Value)}{M:Addr->Prop}{N N':Nat->Prop}{w W W' W'':World}{b6:Nat}{g g':Host}{ve vp vu vs vl dm:Value}{s:ByteArray}
def SU.sb(S:SU L bx M N w W b6 g ve vp vu vs vl)(G:dZ w M):SB L bx M (fun x=>N x/\vu.ownBlock≠some x) w W b6 g ve vp vu vs vl :=
  ⟨S.H.less (fun x a=>a.1) fun x a=>⟨a.elim (fun e=>(S.H.p.lt x e).1) fun e=>(S.H.l.lt x e).1,fun e=>(S.ua x e).1 a⟩,
   S.U.GY (fun x a=>a.1) fun x a=>⟨fun q=>q.2 a,fun o m=>by have:=(S.ua x a).2.1;have c:x<w.heap.size:=G.1 _ m;omega⟩,
   S.bx,S.q6,S.bw,fun k b=>⟨S.nb k b,fun e=>by have:=(S.ua _ e).2.1;omega⟩,⟨S.n6,fun e=>(S.ua _ e).2.2 rfl⟩,fun x a=>S.nw x a.1,S.lo,S.kv⟩
def SU.below(S:SU L bx M N w W b6 g ve vp vu vs vl)(hb:Below W.heap.size W W'):SU L bx M N w W' b6 g ve vp vu vs vl :=
  {S with
   H:=S.H.below hb
   U:=S.U.below hb (fun x hx=>.inl hx) fun x hx=>hx
   bx:=fun x hx=>⟨(S.bx x hx).1,(S.bx x hx).2.below hb (S.bx x hx).2.lt⟩
   q6:=S.q6.below hb S.q6.lt
   bw:=bt S.bw hb}
def abZ(H:HX M N W g ve vp vs vl):∀x,KV vp vl x->N x/\x<W.heap.size:=fun x a=>a.elim (fun e=>H.p.lt x e) fun e=>H.l.lt x e
def azw{L:Nat}(f:dD (KV vp vl) W W')(hb:Below w.heap.size w W)(k:∀x,KV vp vl x->w.heap.size+L<=x/\x≠b6):Below w.heap.size w W' :=
  ⟨f.os.trans hb.os,f.tape.trans hb.tape,f.output.trans hb.output,dV hb.size f.size,fun i a=>(f.block i (ek a hb.size) fun e=>by have:=(k i e).1;omega).trans (hb.block i a)⟩
def SB.fr(S:SB L bx M N w W b6 g ve vp vu vs vl)(H:HX M N W' g' ve vp vs vl)(f:dD (KV vp vl) W W')(hu:g'.up=g.up):SB L bx M N w W' b6 g' ve vp vu vs vl :=
  {S with
   H:=H
   U:=hu▸abW S.U f (fun x hx=>(abZ S.H x hx).1) fun x hx=>.inl hx
   bx:=fun x hx=>⟨(S.bx x hx).1,(f.block _ (S.bx x hx).2.lt fun e=>by have:=(S.kv _ e).1;have:=(S.bx x hx).1;omega).trans (S.bx x hx).2⟩
   q6:=(f.block _ S.q6.lt fun e=>(S.kv _ e).2 rfl).trans S.q6
   bw:=azw f S.bw S.kv}
def SU.amz(S:SU L bx M N w W b6 g ve vp vu vs vl)(u:∀x,dm.ownBlock=some x->¬KV vp vl x/\NG<=x/\(vu.ownBlock=some x\/W.heap.size<=x))(f:dD (fun x=>KV vp vl x\/vu.ownBlock=some x) W W')(b:bU W' W'' b6)(h:R W (BM M N) d v):R W'' (BM M fun x=>N x\/dm.ownBlock=some x) d v :=
  iO (abW h f (fun x a=>a.elim (fun e=>(abZ S.H x e).1) fun e=>(S.U.lt x e).1) fun x a=>a.elim .inl fun e=>(u x e).2.2.imp (fun h=>(S.U.lt x h).1) id) b (.inl S.n6)
def SU.n6k(S:SU L bx M N w W b6 g ve vp vu vs vl):¬(KV vp vl b6\/vu.ownBlock=some b6):=fun y=>y.elim (fun e=>(S.kv _ e).2 rfl) fun e=>(S.ua _ e).2.2 rfl
def SU.aFw(S:SU L bx M N w W b6 g ve vp vu vs vl)(G:dZ w M)(H:HX M (fun x=>N x\/dm.ownBlock=some x) W' g' ve vp vs vl)(U:OR M (fun x=>N x\/dm.ownBlock=some x) W' 9 1 (g'.up.map aB.cells) dm)(j:∀x,dm.ownBlock=some x->¬KV vp vl x/\NG<=x/\(vu.ownBlock=some x\/W.heap.size<=x))(f:dD (fun x=>KV vp vl x\/vu.ownBlock=some x) W W')(b:bU W' W'' b6)(q6:aA W'' b6 29 (aC ve vp dm vs vl)) :
    SU L bx M (fun x=>N x\/dm.ownBlock=some x) w W'' b6 g' ve vp dm vs vl:=by
  have r:=G.2.2;have B:=S.lo;have C:=S.q6.lt;have m:=S.bw.size;have t:∀y,(KV vp vl y\/vu.ownBlock=some y)->w.heap.size+L<=y:=fun y z=>z.elim (fun e=>(S.kv y e).1) fun e=>(S.ua y e).2.1;have u:∀x,dm.ownBlock=some x->¬KV vp vl x/\w.heap.size+L<=x/\x≠b6:=fun x a=>by
    rcases (j x a).2.2 with h|h
    · exact S.ua x h
    · exact⟨(j x a).1,by omega,by omega⟩
  have p:∀x,x<w.heap.size+L->x<W.heap.size->W''.heap[x]? =W.heap[x]? :=fun x a A=>(b.block x (by omega)).trans (f.block x A fun e=>by have:=t x e;omega);exact⟨H.one b (.inl S.n6) (fun c=>(S.kv _ c).2 rfl) (by omega),U.one b (.inl S.n6) fun e=>(u _ e).2.2 rfl,fun x a=>⟨(S.bx x a).1,(p _ (by have:=(S.bx x a).1;omega) (S.bx x a).2.lt).trans (S.bx x a).2⟩,q6,
    ⟨b.os.trans (f.os.trans S.bw.os),b.tape.trans (f.tape.trans S.bw.tape),b.output.trans (f.output.trans S.bw.output),by rw[b.size];exact dV m f.size,fun i q=>(p i (by omega) (ek q m)).trans (S.bw.block i q)⟩,
    fun k c=>.inl (S.nb k c),.inl S.n6,fun x a=>a.elim (S.nw x) fun e=>by have:=(u x e).2.1;omega,S.lo,S.kv,u⟩
def SU.kp(S:SU L bx M N w W b6 g ve vp vu vs vl)(h:R w M d v):R W (BM M N) d v:=xy h S.bw S.nw
def SU.cF(S:SU L bx M N w W b6 g ve vp vu vs vl):dZ W (BM M N):=S.H.cF
def SU.ask{b:Bool}(S:SU L bx M N w W b6 g ve vp vu vs vl)(F:aG az f none ds (.bool b) [])(r:Rs W (BM M N) ds vs'):Calls az f vs'.toArray W fun e W'=>e=.returned (.bool b)/\SU L bx M N w W' b6 g ve vp vu vs vl/\Below W.heap.size W W' :=
  (aG.calls F S.H.cF r).mono fun e W' ⟨v,c,i,a⟩=>by obtain rfl:=i;exact⟨c,S.below a,a⟩
def SU.awu{s:ByteArray}{b:Bool}(S:SU L bx M N w W b6 g ve vp vu vs vl)(G:dZ w M)(c:s.size<=maxLen)(F:aG az f none [ak g.up,.str s] (.bool b) []):Calls az f #[vu,.string s] W fun e W'=>e=.returned (.bool b)/\SU L bx M N w W' b6 g ve vp vu vs vl/\Below W.heap.size W W' :=
  (aG.calls F (S.sb G).H.cF (vs:=[vu,.string s]) ⟨_,_,rfl,(S.sb G).U,_,[],rfl,⟨rfl,c⟩,rfl⟩).mono fun e W' ⟨v,i,j,a⟩=>by obtain rfl:=j;exact⟨i,S.below a,a⟩
end
section
variable {bx:List (Nat×TypeId×Array Value)}{M:Addr->Prop}{w W:World}{h:Host}{v:Value}
def at7(B:B0 w W bx)(I:dZ w M)(hv:R w M (enc h) v)
    (hC:∀M',dZ W M'->R W M' (enc h) v->Calls az f #[v] W fun e w'=>∃N ve vp vu vs vl,e=.returned (.agg (aC ve vp vu vs vl))/\HX M' N w' h ve vp vs vl/\OR M' N w' 9 1 (h.up.map aB.cells) vu/\(∀x,vu.ownBlock=some x->¬KV vp vl x)/\(∀x,N x->W.heap.size<=x)/\Below W.heap.size W w') :
    Calls az f #[v] W fun e j=>∃ve vp vu vs vl,e=.returned (.agg (aC ve vp vu vs vl))/\(∀u∈(aC ve vp vu vs vl).toList,u.oneCell'=true) /\
      ∀t,aA t j.heap.size 29 (aC ve vp vu vs vl)->bU (j.alloc (.cells #[.slice none 0 0,.slice none 0 0,.slice none 0 0,.slice none 0 0,.slice none 0 0] 29)) t j.heap.size->∃N,SU bx.length bx M N w t j.heap.size h ve vp vu vs vl:=by
  obtain⟨i,b,y⟩:=B;obtain⟨B,J⟩:∃B:Nat->Prop,B=fun x=>w.heap.size<=x/\x<w.heap.size+bx.length:=⟨_,rfl⟩;have z:∀x,B x->w.heap.size<=x:=fun x b=>by rw[J]at b;exact b.1
  have A:∀x,B x->x<W.heap.size:=fun x b=>by rw[J]at b;omega
  have O:dZ W (BM M B):=⟨fun q S=>S.elim (fun S=>ek (I.1 q S) i.size) (A _),I.2.1.keep fun k hk=>i.block k (ek hk I.2.2),dV I.2.2 i.size⟩;refine(hC _ O (xy hv i z)).mono ?_;rintro _ j ⟨V,ve,vp,vu,vs,vl,rfl,H,U,X,r,m⟩;have Y:∀x,KV vp vl x->W.heap.size<=x:=fun x b=>r x (b.elim (fun e=>(H.p.lt x e).1) fun e=>(H.l.lt x e).1);have C:∀x,vu.ownBlock=some x->W.heap.size<=x:=fun x b=>r x (U.lt x b).1;have H:=H.shift fun x b=>ek (A x b) m.size;have U:=U.shift;have p:=m.size;have p:=i.size;have Z:∀x,KV vp vl x->x<j.heap.size:=fun x b=>b.elim (fun e=>(H.p.lt x e).2) fun e=>(H.l.lt x e).2;refine⟨ve,vp,vu,vs,vl,rfl,fun u p=> ?_,fun t A F=> ?_⟩
  · have G:ve.oneCell'=true:=mf (show R j _ (.sl (h.entries.map aB.cells)) ve from H.e)
    have G:vs.oneCell'=true:=mf (show R j _ (.sl (h.shut.map aB.cells)) vs from H.s);have op:vp.oneCell'=true:=by obtain⟨a,c,rfl,_⟩:=H.p.len;rfl
    have ol:vl.oneCell'=true:=by obtain⟨a,c,rfl,_⟩:=H.l.len;rfl
    have G:vu.oneCell'=true:=by obtain⟨a,c,rfl,_⟩:=U.len;rfl
    simp[aC]at p;rcases p with rfl|rfl|rfl|rfl|rfl<;>assumption
  have p:=Mt F;have G:t.heap.size=j.heap.size+1:=by rw[F.size,eB]
  have G:∀x,((V x\/B x)\/x=j.heap.size)->(V x\/B x)\/j.heap.size<=x:=fun x b=>b.imp id fun e=>by omega
  refine⟨fun x=>(V x\/B x)\/x=j.heap.size,H.new p G (fun x b=>.inl b) fun x b=> ?_,U.below p G fun x b=>.inl b,fun x b=>⟨(y x b).1,?_⟩,A,bt (bt i m) p,fun k hk=>.inl (.inr (by rw[J];exact⟨by omega,by omega⟩)),.inr rfl,fun x b=> ?_,by omega,fun x b=>⟨by have:=Y x b;omega,by have:=Z x b;omega⟩,fun x b=>⟨X x b,by have:=C x b;omega,by have:=(U.lt x b).2;omega⟩⟩
  · rcases b with b|b
    · have:=H.nb x b;omega
    · omega
  · have q:=(y x b).2
    have q2:=q.below m q.lt;exact q2.below p q2.lt
  · rcases b with (b|b)|b
    · have:=r x b;omega
    · exact z x b
    · omega
def aua(B:B0 w W bx)(G:dZ w M)(k:R w M (enc h) v)(a:ny h) :
    Calls az 20 #[v] W fun e b=>∃ve vp vu vs vl,e=.returned (.agg (aC ve vp vu vs vl))/\(∀u∈(aC ve vp vu vs vl).toList,u.oneCell'=true) /\
      ∀c,aA c b.heap.size 29 (aC ve vp vu vs vl)->bU (b.alloc (.cells #[.slice none 0 0,.slice none 0 0,.slice none 0 0,.slice none 0 0,.slice none 0 0] 29)) c b.heap.size->∃N,SU bx.length bx M N w c b.heap.size h ve vp vu vs vl :=
  at7 B G k fun m f i=>aKq f i a.el a.ef (Mb a.ul (by decide)) a.sl a.pl (fun p j=>⟨(a.pc p j).1,dV (a.pc p j).2 (by decide)⟩) a.ll a.lr
def XM(B:B0 w W bx)(G:dZ w M)(i:R w M (enc h) v)(j:ny h) :
    Calls az 20 #[v] W fun e c=>∃ve vp vu vs vl,e=.returned (.agg (aC ve vp vu vs vl))/\(∀u∈(aC ve vp vu vs vl).toList,u.oneCell'=true) /\
      ∀f,aA f c.heap.size 29 (aC ve vp vu vs vl)->bU (c.alloc (.cells #[.slice none 0 0,.slice none 0 0,.slice none 0 0,.slice none 0 0,.slice none 0 0] 29)) f c.heap.size->∃N,SB bx.length bx M N w f c.heap.size h ve vp vu vs vl :=
  (aua B G i j).mono fun e c ⟨ve,vp,vu,vs,vl,k,m,p⟩=>⟨ve,vp,vu,vs,vl,k,m,fun f a b=>(p f a b).imp' _ fun N S=>S.sb G⟩
end
set_option maxHeartbeats 4000000 in
def aKg{s:ByteArray}(G:dZ w M)(X:R w M (enc h) v)(O:s.size<=maxLen)(m:ny h) :
  Calls az 7 #[v,.string s] w fun e w'=>∃r,e=.returned r/\R w' M (.aU [enc (ku h s),.bool (nj h s)]) r/\Below w.heap.size w w':=by
 obtain⟨ae,ap,Y,q,al,rfl,a,b,Z,has,c⟩:=Gl X;refine oz (E:=[(0,.agg (aC ae ap Y q al)),(1,.string s)]) Tryz.func7 rfl Tryz.ntmps7 (by simp) (by simp) ?_;refine aO ?_;refine CV B0.nil fun _ B=> ?_;refine CU B oM fun a B=> ?_;refine ah bO ?_;refine bq ?_;refine bA (E':=[(1,.string s),(2,PH w.heap.size),(4,PH (w.heap.size+1))]) ?_;refine aO ?_;refine ah (bG cX B.q0 bI) ?_;refine dE (XM B G X m) ?_;rintro _ i ⟨ve,vp,vu,vs,vl,rfl,one,mk⟩;refine⟨_,rfl,?_⟩;refine ah (eV rfl oM) ?_;refine bW rfl (cs:=aC ve vp vu vs vl) rfl (xG i) one bI fun a b t=> ?_;obtain⟨N,S⟩:=mk a b t;have U:SB 2 [(0,29,aC ae ap Y q al),(1,29,#[aN,aN,aN,aN,aN])] M N w a i.heap.size h ve vp vu vs vl:=S;clear mk one b t S B;refine bq ?_;refine bA (E':=[(1,.string s),(2,PH w.heap.size),(4,PH (w.heap.size+1)),(6,PH i.heap.size)]) ?_;refine CW.seq (aO ?_);refine ah (bG cX U.b0 bI) ?_;refine ah aI ?_;refine dE (U.ask (MI h s m) ⟨_,_,rfl,U.kp X,_,[],rfl,⟨rfl,O⟩,rfl⟩) ?_;rintro _ a ⟨rfl,f⟩;refine⟨_,rfl,?_⟩;clear U;have no:∀(W:World),nj h s=false->R W M (enc h) (.agg (aC ve vp vu vs vl))->R W M (.aU [enc (ku h s),.bool (nj h s)]) (.tuple #[.agg (aC ve vp vu vs vl),.bool false]):=fun W u k=>by
  have q:ku h s=h:=by unfold ku;simp[u]
  rw[q,u];exact⟨_,rfl,_,_,rfl,k,_,_,rfl,rfl,rfl⟩
 refine ah rp ?_;refine ah aI ?_;rcases V:gV h s with _|_
 ·refine fL (b:=true) ?_;refine fL (b:=true) ?_;refine fL (b:=true) ?_;refine fL (b:=true) ?_;refine fL (b:=true) ?_;refine ah (ru rfl rfl rfl) ?_;refine bq (eG (aO ?_));refine ah (bG cX f.q6 bI) ?_;refine bW rfl (cs:=aC ve vp vu vs vl) rfl f.b1 f.one bI fun t z y=> ?_;refine ah bO ?_;obtain⟨k,b,_⟩:=f.ans G (by decide) y;exact bq (CW.ret (NX.ret (rL rfl rfl rfl z cX rfl bI ⟨_,rfl,no _ (by unfold nj;rw[V];rfl) k,b⟩)))
 refine iL (b:=false) (br qi) ?_;refine iL (b:=false) (bB fz (v:=Y) ((f.b0.cell 2).trans rfl)) ?_;refine iL (b:=false) aI ?_;refine CX (b:=false) (f.ask (nE h.up s) ⟨_,_,rfl,f.kp Z,_,[],rfl,⟨rfl,O⟩,rfl⟩) ?_;rintro _ c ⟨rfl,a⟩;refine⟨_,rfl,?_⟩;clear f;refine iL (b:=false) rp ?_;refine ah (sD rfl rfl rfl) ?_;rcases A:hasB h.up s with _|_
 ·refine bq (eG (aO ?_));refine ah (bG cX a.q6 bI) ?_;refine bW rfl (cs:=aC ve vp vu vs vl) rfl a.b1 a.one bI fun t z y=> ?_;refine ah bO ?_;obtain⟨k,b,_⟩:=a.ans G (by decide) y;exact bq (CW.ret (NX.ret (rL rfl rfl rfl z cX rfl bI ⟨_,rfl,no _ (by unfold nj;rw[V,A];rfl) k,b⟩)))
 refine bq (CW.no (CW.skip (aM ?_)));have u:nj h s=true:=by unfold nj;rw[V,A];rfl
 obtain⟨j,c,f,A⟩:=BR V;have C:=KG j;have c:(lL h.entries s).length<=1048576:=by
  unfold lL;split
  ·split
   ·exact dV (Kg _ _) m.el
   ·simp
  ·simp
 have f:=JA (tA j) (fun x r=>(C x r).2) (jc (lL h.entries s) s);refine bA (E':=[(1,.string s),(4,PH (w.heap.size+1)),(6,PH i.heap.size)]) ?_;refine aO ?_;refine ah (bG cX a.q6 bI) ?_;refine ah aI ?_;refine dE (auc a.H a.U (Mb (fO _) A) C c (fun j F p H=>by have:=B6 (f j F p H);unfold DR at this;omega) O (Mb m.ul (by decide))) ?_;rintro _ c ⟨dm,rfl,H,f,j⟩;refine⟨_,rfl,?_⟩;have c:=a.fr (g':={kD h s with up:=h.up}) ⟨H.gi,H.mb,H.nb,H.e,H.p,H.s,H.l,H.pl,H.gp,H.gl⟩ j rfl;refine bW rfl (cs:=aC ve vp dm vs vl) rfl c.q6 (c.iP f) bI fun A p F=> ?_;have A:=c.box (N':=N) (g':=kD h s) G F (fun _ h=>h) (fun x r=>(abZ c.H x r).1) c.nb c.n6 ⟨rfl,rfl⟩ c.H.e f c.H.s p;clear a c H f j p F;refine bq ?_;refine bA (E':=[(1,.string s),(4,PH (w.heap.size+1)),(6,PH i.heap.size)]) ?_;refine aO ?_;refine ah (br tk) ?_;refine ah (bB vz (v:=vl) ((A.q6.cell 4).trans rfl)) ?_;refine ah aI ?_;refine ah (kI (vs:=[(0,.int .i64 2),(1,.string s)]) (R7 2 s)) ?_;obtain⟨cZ,f,N',I,a,c,_,_,J⟩:=A.lg G (e:=jj 2 s) (Tj (by decide) O) m.ll;refine ah Km ?_;refine ah (rn rfl rfl rfl I) ?_;refine ah (br tk) ?_;refine qG (pM rfl rfl rfl (by kernel_rfl) a ((c.cell 4).trans rfl) (c.frozen 4)) ?_;generalize f.setCell ⟨i.heap.size,0+4,none⟩ cZ=a at J ⊢;refine bq ?_;refine bA (E':=[(4,PH (w.heap.size+1)),(6,PH i.heap.size)]) ?_;refine aO ?_;refine ah (bG cX J.q6 bI) ?_;refine bW rfl (cs:=aC ve vp _ vs cZ) rfl J.b1 J.one bI fun t z y=> ?_;refine ah bO ?_;obtain⟨k,b,_⟩:=J.ans G (by decide) y;refine bq (CW.ret (rL rfl rfl rfl z cX rfl bI ⟨_,rfl,?_,b⟩));have q:ku h s=qo (kD h s) (jj 2 s):=by unfold ku;rw[aD u]
 rw[q,u];exact⟨_,rfl,_,_,rfl,k,_,_,rfl,rfl,rfl⟩
def ag4(h:Host)(s:ByteArray)(a:ny h):aG az 7 none [enc h,.str s] (.aU [enc (ku h s),.bool (nj h s)]) [] :=
 CL (by kernel_rfl) fun w M vs G b=>by obtain⟨v,_,rfl,c,f,_,rfl,⟨rfl,e⟩,rfl⟩:=b;exact aKg G c e a
def alJ{l:List Entry}(r:cG l=true):∀x∈wy l,0<=cN l x/\(cN l x).toNat<l.length:=fun x b=>by unfold wy at b;rw[aD r]at b;obtain⟨i,c,rfl⟩:=fN.1 b;have a:i<l.length:=DS (k:=l.length) c;rw[aie r a];exact⟨by omega,by simpa using a⟩
structure avx(h g:Host)(k:Nat):Prop where
 e:g.entries=h.entries
 l:g.log=h.log
 s:g.shut=h.shut
 n:g.parts.length=h.parts.length
 u:g.up.length<=h.up.length+k
 p:∀p∈g.parts,dw p=true
def acP{h:Host}(H:uS h)(all:List ByteArray):∀k,k<=(wy h.entries).length->avx h (sE h all k) k
 |0,_=>⟨rfl,rfl,rfl,rfl,bK _,tA H⟩
 |k+1,c=>by
  have ih:=acP H all k (by omega);unfold sE;simp only;split
  ·refine⟨ih.e,ih.l,ih.s,?_,?_,?_⟩
   ·simp only[Ch,vc];exact ih.n
   ·simp only[Ch,jI,List.length_singleton];have:=ih.u;omega
   ·intro p b;simp only[Ch]at b;rcases sY b with a|a
    ·exact ih.p p a
    ·rw[a];refine Vz (ih.p _ (gF ?_)) _;unfold cD;rw[ih.e,ih.n,H.len];exact(alJ H.rz _ (gF (by omega))).2
  ·exact⟨ih.e,ih.l,ih.s,ih.n,by have:=ih.u;omega,ih.p⟩
set_option maxHeartbeats 4000000 in
def aKf{s:ByteArray}(G:dZ w M)(hv:R w M (enc h) v)(hs:s.size<=maxLen)(hh:ny h) :
  Calls az 106 #[v,.string s] w fun e w'=>∃r,e=.returned r/\R w' M (.aU [enc (Af h s),.bool (wE h s)]) r/\Below w.heap.size w w':=by
 obtain⟨ae,ap,U,F,al,rfl,q,a,c,has,b⟩:=Gl hv;refine oz (E:=[(0,.agg (aC ae ap U F al)),(1,.string s)]) Tryz.func106 rfl Tryz.ntmps106 (by simp) (by simp) ?_;refine aO ?_;refine CV B0.nil fun _ B=> ?_;refine CU B oM fun a B=> ?_;refine ah bO ?_;refine bq ?_;refine bA (E':=[(1,.string s),(2,PH w.heap.size),(4,PH (w.heap.size+1))]) ?_;refine aO ?_;refine ah (bG cX B.q0 bI) ?_;refine dE (aua B G hv hh) ?_;rintro _ C ⟨ve,vp,vu,vs,vl,rfl,one,mk⟩;refine⟨_,rfl,?_⟩;refine ah (eV rfl oM) ?_;refine bW rfl (cs:=aC ve vp vu vs vl) rfl (xG C) one bI fun f j a=> ?_;obtain⟨N,S⟩:=mk f j a;have b:SU 2 [(0,29,aC ae ap U F al),(1,29,#[aN,aN,aN,aN,aN])] M N w f C.heap.size h ve vp vu vs vl:=S;clear mk one j a S B;refine bq ?_;refine bA (E':=[(1,.string s),(2,PH w.heap.size),(4,PH (w.heap.size+1)),(6,PH C.heap.size)]) ?_;refine CW.seq (aO ?_);refine ah (bG cX (b.sb G).b0 bI) ?_;refine ah aI ?_;refine dE (b.ask (MI h s hh) ⟨_,_,rfl,b.kp hv,_,[],rfl,⟨rfl,hs⟩,rfl⟩) ?_;rintro _ f ⟨rfl,a,_⟩;refine⟨_,rfl,?_⟩;clear b;have no:∀(W:World),wE h s=false->R W M (enc h) (.agg (aC ve vp vu vs vl))->R W M (.aU [enc (Af h s),.bool (wE h s)]) (.tuple #[.agg (aC ve vp vu vs vl),.bool false]):=fun W ho Z=>by
  have hd:Af h s=h:=by unfold Af;simp[ho]
  rw[hd,ho];exact⟨_,rfl,_,_,rfl,Z,_,_,rfl,rfl,rfl⟩
 refine ah rp ?_;refine ah aI ?_;rcases hm:gV h s with _|_
 ·refine fL (b:=true) ?_;refine fL (b:=true) ?_;refine fL (b:=true) ?_;refine fL (b:=true) ?_;refine ah (ru rfl rfl rfl) ?_;have b:=a.sb G;refine bq (eG (aO ?_));refine ah (bG cX b.q6 bI) ?_;refine bW rfl (cs:=aC ve vp vu vs vl) rfl b.b1 b.one bI fun wa z4 H=> ?_;refine ah bO ?_;obtain⟨Z,u,_⟩:=b.ans G (by decide) H;exact bq (CW.ret (NX.ret (rL rfl rfl rfl z4 cX rfl bI ⟨_,rfl,no _ (by unfold wE;rw[hm];rfl) Z,u⟩)))
 refine iL (b:=false) (br qi) ?_;refine iL (b:=false) (bB fz (v:=U) (((a.sb G).b0.cell 2).trans rfl)) ?_;refine iL (b:=false) aI ?_;refine CX (b:=false) (a.ask (nE h.up s) ⟨_,_,rfl,a.kp c,_,[],rfl,⟨rfl,hs⟩,rfl⟩) ?_;rintro _ c ⟨rfl,b,_⟩;refine⟨_,rfl,?_⟩;clear a;refine ah (sD rfl rfl rfl) ?_;rcases V:hasB h.up s with _|_
 rotate_left
 ·have a:=b.sb G;refine bq (eG (aO ?_));refine ah (bG cX a.q6 bI) ?_;refine bW rfl (cs:=aC ve vp vu vs vl) rfl a.b1 a.one bI fun wa z4 H=> ?_;refine ah bO ?_;obtain⟨Z,u,_⟩:=a.ans G (by decide) H;exact bq (CW.ret (NX.ret (rL rfl rfl rfl z4 cX rfl bI ⟨_,rfl,no _ (by unfold wE;rw[hm,V];rfl) Z,u⟩)))
 refine bq (CW.no (CW.skip (aM ?_)));obtain⟨Y,a,c,j⟩:=BR hm;have a:(pO h.entries s).length<=1048576:=by
  unfold pO;split
  ·split
   ·exact dV (Kg _ _) hh.el
   ·simp
  ·simp
 refine bA (E':=[(1,.string s),(2,PH w.heap.size),(4,PH (w.heap.size+1)),(6,PH C.heap.size)]) ?_;refine aO ?_;refine ah (br rY) ?_;refine ah (bB pj (v:=ae) (((b.sb G).b0.cell 0).trans rfl)) ?_;refine ah aI ?_;refine dE (aG.calls (aG.fZ (axA h.entries s)) b.cF (vs:=[ae,.string s]) ⟨_,_,rfl,b.kp q,_,[],rfl,⟨rfl,hs⟩,rfl⟩) ?_;rintro _ r ⟨p,rfl,f,c⟩;refine⟨_,rfl,?_⟩;refine ah aI ?_;refine dE (aG.calls (aG.fZ (FF (pO h.entries s) s a)) (b.below c).cF (vs:=[p,.string s]) ⟨_,_,rfl,f,_,[],rfl,⟨rfl,hs⟩,rfl⟩) ?_;rintro _ w7 ⟨r,rfl,a,p⟩;refine⟨_,rfl,?_⟩;refine ah bO ?_;refine bq ?_;obtain⟨all,A⟩:∃all,FA h s=all:=⟨_,rfl⟩;have a:R w7 (BM M N) (ak all) r:=by rw[<-A];exact a
 have S:=b.below (bt c p);clear b c p f;obtain⟨r,t,c,b,_⟩:=mQ (mI (n:=1) (fun _=>rfl) all) a;rw[dq]at c b;unfold maxLen at b;subst c;refine bA (E':=[(1,.string s),(2,PH w.heap.size),(4,PH (w.heap.size+1)),(6,PH C.heap.size),(7,.slice r all.length t)]) ?_;refine CW.seq (aO ?_);refine ah aI ?_;refine ah (Aa rfl rfl rfl rfl fz rfl) ?_;refine ah aI ?_;refine bq ?_;refine bA (E':=[(1,.string s),(2,PH w.heap.size),(4,PH (w.heap.size+1)),(6,PH C.heap.size),(7,.slice r all.length t),(31,.slice r all.length t),(32,.int .i64 (all.length:Int)),(33,.int .i64 ((0:Nat):Int))]) ?_;refine CW.block (CW.loop (fun m E' wr=>∃(k:Nat),m+k=all.length/\E'=[(1,.string s),(2,PH w.heap.size),(4,PH (w.heap.size+1)),(6,PH C.heap.size),(7,.slice r all.length t),(31,.slice r all.length t),(32,.int .i64 (all.length:Int)),(33,.int .i64 (k:Int))] /\
  (∀i,i<k->hasB h.shut (nth all i)=false)/\SU 2 [(0,29,aC ae ap U F al),(1,29,#[aN,aN,aN,aN,aN])] M N w wr C.heap.size h ve vp vu vs vl/\R wr (BM M N) (ak all) (.slice r all.length t)) all.length ⟨0,rfl,rfl,fun i j=>absurd j (by omega),S,a⟩ ?_)
 clear S a;rintro m E' wr ⟨k,hmk,rfl,b,S,a⟩;refine aO ?_;rcases ue m with I|I
 rotate_left
 ·obtain⟨m',rfl⟩:∃m',m=m'+1:=⟨m-1,by omega⟩;have X:k<all.length:=by omega
  refine ah (iB (b:=true) (hb:=by simp[bg];omega)) ?_;refine bq (CW.seq (eG (CW.skip (aM ?_))));obtain⟨ub,uo,uc,J,c,z⟩:=OZ a X;obtain⟨x,f⟩:∃x,nth all k=x:=⟨_,rfl⟩;rw[f]at c z;simp only[fA,wW]at J;obtain⟨rfl,rfl⟩:=J;refine CW.seq (CW.block ?_);refine aO ?_;refine ah (oO X zE) ?_;refine ah (bB iy (v:=.string x) c) ?_;refine ah bO ?_;refine bq (aO ?_);refine ah (br Ds) ?_;refine ah (bB fz (v:=F) (((S.sb G).b0.cell 3).trans rfl)) ?_;refine ah aI ?_;refine dE (S.ask (nE h.shut x) ⟨_,_,rfl,S.kp has,_,[],rfl,⟨rfl,z⟩,rfl⟩) ?_;rintro _ w8 ⟨rfl,O,p⟩;refine⟨_,rfl,?_⟩;refine bq ?_;rcases hxb:hasB h.shut x with _|_
  ·refine CW.no (CW.skip (sU (aM (CW.region ?_))));refine ah (iA (r:=((k+1:Nat):Int)) (hb:=by rw[bF];omega)) ?_;refine ah aI ?_;exact WL.nil (NX.ag m' ⟨k+1,by omega,rfl,fun i j=>by
    rcases dO i k with h1|h1
    ·exact b i h1
    ·obtain rfl:i=k:=by omega
     rw[f];exact hxb,O,dH (N':=N) a p fun x f=>.inl f⟩)
  ·have hno:wE h s=false:=by
    have:((FA h s).all fun x=> !hasB h.shut x)=false:=by rw[A,List.all_eq_false];exact⟨x,by rw[<-f];exact gF X,by simp[hxb]⟩
    unfold wE;rw[this];simp
   have B8:=O.sb G;refine eG (aO ?_);refine ah (bG cX O.q6 bI) ?_;refine bW rfl (cs:=aC ve vp vu vs vl) rfl B8.b1 B8.one bI fun wa z4 H=> ?_;refine ah bO ?_;obtain⟨Z,u,_⟩:=B8.ans G (by decide) H;exact bq (CW.ret (wP (NX.ret (NX.ret (wP (NX.ret (rL rfl rfl rfl z4 cX rfl bI ⟨_,rfl,no _ hno Z,u⟩)))))))
 subst I;obtain rfl:k=all.length:=by omega
 have ho:wE h s=true:=by
  have:((FA h s).all fun x=> !hasB h.shut x)=true:=by rw[A,fM];intro x f;obtain⟨i,j,rfl⟩:=L0.1 f;have:=b i j;rw[nth,List.getD,bX j]at this;simpa using this
  unfold wE;rw[this,hm,V];rfl
 refine ah (iB (b:=false) (hb:=by simp[bg])) ?_;refine bq (CW.seq (CW.no (CW.exit (rM (rM (CO (aM ?_)))))));clear b hmk no;refine CW.seq (aO ?_);refine ah (br rY) ?_;refine ah (bB pj (v:=ae) (((S.sb G).b0.cell 0).trans rfl)) ?_;refine dE (aG.calls (aG.fZ (axE h.entries)) S.cF (vs:=[ae]) ⟨_,[],rfl,S.kp q,rfl⟩) ?_;rintro _ w8 ⟨b,rfl,q,p⟩;refine⟨_,rfl,?_⟩;have O:=S.below p;have a:=dH (N':=N) a p fun x f=>.inl f;clear S p;obtain⟨b,j⟩:∃b,wy h.entries=b:=⟨_,rfl⟩;rw[j]at q;have V:b.length<=6:=by rw[<-j];unfold wy;rw[aD Y.rz,Ou];have h1:=alH h.entries;have V:=(qt Y.rz).1;omega
 obtain⟨H,oc,V,_⟩:=mQ (mI (n:=1) (fun _=>rfl) b) q;rw[dq]at V;subst V;refine ah (Aa rfl rfl rfl rfl fz rfl) ?_;refine ah aI ?_;refine bq ?_;refine bA (E':=[(1,.string s),(4,PH (w.heap.size+1)),(6,PH C.heap.size),(7,.slice r all.length t),(45,.slice H b.length oc),(46,.int .i64 (b.length:Int)),(47,.int .i64 ((0:Nat):Int))]) ?_;refine CW.block (CW.loop (fun m E' wr=>∃(k:Nat) (N:Nat->Prop) (vu:Value),m+k=b.length/\E'=[(1,.string s),(4,PH (w.heap.size+1)),(6,PH C.heap.size),(7,.slice r all.length t),(45,.slice H b.length oc),(46,.int .i64 (b.length:Int)),(47,.int .i64 (k:Int))] /\
  SU 2 [(0,29,aC ae ap U F al),(1,29,#[aN,aN,aN,aN,aN])] M N w wr C.heap.size (sE h all k) ve vp vu vs vl/\R wr (BM M N) (ak all) (.slice r all.length t)/\R wr (BM M N) (ak b) (.slice H b.length oc)) b.length ⟨0,_,_,rfl,rfl,O,a,q⟩ ?_)
 clear O q a;rintro m E' w7 ⟨k,N,vu,hmk,rfl,S,a,q⟩;have rk:=acP Y all k (by rw[j];omega);refine aO ?_;rcases ue m with I|I
 rotate_left
 ·obtain⟨m',rfl⟩:∃m',m=m'+1:=⟨m-1,by omega⟩;have X:k<b.length:=by omega
  refine ah (iB (b:=true) (hb:=by simp[bg];omega)) ?_;refine bq (CW.seq (eG (CW.skip (aM ?_))));obtain⟨ub,uo,uc,J,c,z⟩:=OZ q X;obtain⟨x,f⟩:∃x,nth b k=x:=⟨_,rfl⟩;rw[f]at c z;simp only[fA,wW]at J;obtain⟨rfl,rfl⟩:=J;refine CW.seq (CW.block ?_);refine aO ?_;refine ah (oO X zE) ?_;refine ah (bB iy (v:=.string x) c) ?_;refine ah bO ?_;refine bq (aO ?_);refine ah aI ?_;refine ah aI ?_;refine dE (S.ask (nE all x) ⟨_,_,rfl,a,_,[],rfl,⟨rfl,z⟩,rfl⟩) ?_;rintro _ w8 ⟨rfl,O,p⟩;refine⟨_,rfl,?_⟩;have U:=dH (N':=N) a p fun x f=>.inl f;have V:=dH (N':=N) q p fun x f=>.inl f;clear S a q c p;refine ah aI ?_;have F:sE h all (k+1)=if hasB all x&& !hasB (sE h all k).up x then Ch (sE h all k) x else sE h all k:=by rw[<-f, <-j];rfl
  rcases J:hasB all x with _|_
  ·refine fL (b:=false) ?_;refine fL (b:=false) ?_;refine fL (b:=false) ?_;refine fL (b:=false) ?_;refine fL (b:=false) ?_;refine ah (sD rfl rfl rfl) ?_;refine bq (CW.no (CW.skip ?_));refine sU (aM (CW.region ?_));refine ah (iA (r:=((k+1:Nat):Int)) (hb:=by rw[bF];omega)) ?_;refine ah aI ?_;exact WL.nil (NX.ag m' ⟨k+1,_,vu,by omega,rfl,by rw[F,J];exact O,U,V⟩)
  refine iL (b:=true) (br qi) ?_;refine iL (b:=true) (bB fz (v:=vu) ((O.q6.cell 2).trans rfl)) ?_;refine iL (b:=true) aI ?_;refine CX (b:=true) (O.awu G z (nE (sE h all k).up x)) ?_;rintro _ w9 ⟨rfl,t,c⟩;refine⟨_,rfl,?_⟩;have p:=dH (N':=N) U c fun x f=>.inl f;have r:=dH (N':=N) V c fun x f=>.inl f;clear O U V c;refine iL (b:=true) rp ?_;refine ah (ru rfl rfl rfl) ?_;rcases O:hasB (sE h all k).up x with _|_
  rotate_left
  ·refine bq (CW.no (CW.skip ?_));refine sU (aM (CW.region ?_));refine ah (iA (r:=((k+1:Nat):Int)) (hb:=by rw[bF];omega)) ?_;refine ah aI ?_;exact WL.nil (NX.ag m' ⟨k+1,_,vu,by omega,rfl,by rw[F,J,O];exact t,p,r⟩)
  refine WL.nil (aM (eG ?_));have c:=alJ Y.rz x (by rw[j, <-f];exact gF X);have f:cD (sE h all k) x<(sE h all k).parts.length:=by unfold cD;rw[rk.e,rk.n,Y.len];exact c.2
  have U:=B6 (rk.p _ (gF f));refine CW.region ?_;refine ah (bG cX t.q6 bI) ?_;refine ah aI ?_;refine dE (aKr t.H t.U (fun y V=>⟨(t.ua y V).1,by have:=(t.ua y V).2.1;have:=G.2.2;omega⟩) (by rw[rk.e];exact c.1) f (by have:=U.1;omega) (by have:=U.2;omega) z (by have:=rk.u;have:=hh.ul;omega)) ?_;rintro _ U ⟨dm,rfl,z,f,X,c⟩;refine⟨_,rfl,?_⟩;refine bW rfl (cs:=aC ve vp dm vs vl) rfl ((c.block _ t.q6.lt t.n6k).trans t.q6) ((t.sb G).iP f.read) bI fun U V Y=> ?_;have U:=t.aFw G z f X c Y V;have f:=t.amz X c Y p;have p:=t.amz X c Y r;refine WL.nil ?_;refine sU (aM (CW.region ?_));refine ah (iA (r:=((k+1:Nat):Int)) (hb:=by rw[bF];omega)) ?_;refine ah aI ?_;exact WL.nil (NX.ag m' ⟨k+1,_,dm,by omega,rfl,by rw[F,J,O];exact U,f,p⟩)
 subst I;obtain rfl:k=b.length:=by omega
 refine ah (iB (b:=false) (hb:=by simp[bg])) ?_;refine bq (CW.seq (CW.no (CW.exit (rM (rM (CO (aM ?_)))))));have c:=S.sb G;clear S q a;rw[<-j, <-A]at *;refine aO ?_;refine ah (br tk) ?_;refine ah (bB vz (v:=vl) ((c.q6.cell 4).trans rfl)) ?_;refine ah aI ?_;refine ah (kI (vs:=[(0,.int .i64 1),(1,.string s)]) (R7 1 s)) ?_;obtain⟨cZ,w9,N',a,b,f,_,_,t⟩:=c.lg G (e:=jj 1 s) (Tj (by decide) hs) (by rw[rk.l];omega);refine ah Km ?_;refine ah (rn rfl rfl rfl a) ?_;refine ah (br tk) ?_;refine qG (pM rfl rfl rfl (by kernel_rfl) b ((f.cell 4).trans rfl) (f.frozen 4)) ?_;generalize w9.setCell ⟨C.heap.size,0+4,none⟩ cZ=a at t ⊢;refine bq ?_;refine bA (E':=[(4,PH (w.heap.size+1)),(6,PH C.heap.size)]) ?_;refine aO ?_;refine ah (bG cX t.q6 bI) ?_;refine bW rfl (cs:=aC ve vp _ vs cZ) rfl t.b1 t.one bI fun wa z4 H=> ?_;refine ah bO ?_;obtain⟨Z,u,_⟩:=t.ans G (by decide) H;refine bq (CW.ret (rL rfl rfl rfl z4 cX rfl bI ⟨_,rfl,?_,u⟩));have hd:Af h s=qo (sE h (FA h s) (wy h.entries).length) (jj 1 s):=by unfold Af;rw[aD ho]
 rw[hd,ho];exact⟨_,rfl,_,_,rfl,Z,_,_,rfl,rfl,rfl⟩
def axF(h:Host)(s:ByteArray)(a:ny h):aG az 106 none [enc h,.str s] (.aU [enc (Af h s),.bool (wE h s)]) [] :=
 CL (by kernel_rfl) fun w M vs G b=>by obtain⟨v,_,rfl,c,f,_,rfl,⟨rfl,e⟩,rfl⟩:=b;exact aKf G c e a
def vo(arg:Array Value):List (Nat×TypeId×Array Value):=[(0,29,arg),(1,29,#[aN,aN,aN,aN,aN]),(2,110,cQ)]
abbrev SH(M:Addr->Prop)(N:Nat->Prop)(w W:World)(b6:Nat)(g:Host)(arg:Array Value)(ve vp vu vs vl:Value):Prop:=SB 3 (vo arg) M N w W b6 g ve vp vu vs vl
def Ti:vI az 24=some 5:=by kernel_rfl
def aaj:mC az 42 1=some 1:=by kernel_rfl
def gW:Array Value:=#[.string ⟨#[]⟩,.bool false,.bool false,aN,.int .i64 0,aN]
def aDV(l:List ByteArray):(dX l).1.core.cells=[]/\(dX l).1.ai.length<=3:=by
 unfold dX;split
 ·exact⟨rfl,fO _⟩
 ·split
  ·exact⟨rfl,fO _⟩
  ·exact ET _ _
def ak5(l:List ByteArray):DR (dX l).1:=by obtain⟨a,b⟩:=aDV l;exact⟨by rw[a];exact fO _,b⟩
def ay5{s:ByteArray}(h:s≠t):gz .eql s t=false:=by simp only[gz,YY];exact fun e=>h (toList_inj e)
def aD6{s:ByteArray}(h:s≠t):gz .neq s t=true:=by have:=ay5 h;simp only[gz]at this ⊢;rw[this];rfl
def agG(m:ByteArray):um az 31 [(0,.string m)]=some #[.string m,.string ⟨#[]⟩,.int .i64 0,.string ⟨#[]⟩]:=by kernel_rfl
def ahc{m:ByteArray}(a:m.size<=maxLen):R w M (enc (bL m)) (.agg #[.string m,.string ⟨#[]⟩,.int .i64 0,.string ⟨#[]⟩]):=by
 have e:(⟨#[]⟩:ByteArray).size<=maxLen:=by decide
 have i:IntKind.i64.min<=(0:Int)/\(0:Int)<=IntKind.i64.max:=by decide
 exact⟨_,rfl,_,_,rfl,⟨rfl,a⟩,_,_,rfl,⟨rfl,e⟩,_,_,rfl,⟨rfl,i⟩,_,_,rfl,⟨rfl,e⟩,rfl⟩
def Vr{r:gK}(h:R w M (enc r) v):v=.agg (eY r):=by
 obtain⟨cs,rfl,v0,r0,e,⟨rfl,a⟩,v1,r1,rfl,⟨rfl,b⟩,c,r2,rfl,⟨rfl,f⟩,i,r3,rfl,⟨rfl,j⟩,v4,r4,rfl,⟨rfl,k⟩,rfl⟩:=h;have:cs=eY r:=by rw[<-iT,e];rfl
 rw[this]
def DV{p:Part}{r:gK}(h:R w M (.aU [enc p,enc r]) v):∃cs:Array Value,v=.tuple #[.agg cs,.agg (eY r)]/\cs.size=6/\(∀u∈cs.toList,u.oneCell'=true)/\R w M (enc p) (.agg cs):=by obtain⟨t,rfl,k,r0,e,a,m,r1,rfl,c,rfl⟩:=h;obtain rfl:=Vr c;obtain⟨S,f,rfl,i,j,_⟩:=DW a;refine⟨_,by rw[show t=#[_,_]from by rw[<-iT,e]],rfl,?_,a⟩;intro u b;obtain⟨q,x,c1,rfl,_⟩:=(show R w M (.sl (p.core.cells.map aB.cells)) S from i);obtain⟨y,z,c2,rfl,_⟩:=(show R w M (.sl (p.ai.map aB.cells)) f from j);simp at b;rcases b with rfl|rfl|rfl|rfl|rfl|rfl<;>rfl
def OH(r:gK):∀u∈(eY r).toList,u.oneCell'=true:=by intro u a;simp[eY]at a;rcases a with rfl|rfl|rfl|rfl|rfl<;>rfl
def awM(v:Int):um az 110 [(1,.int .i64 v)]=some #[.int .i64 0,.int .i64 v,.string ⟨#[]⟩,.int .i64 0,.int .i64 0]:=by kernel_rfl
def Mw(k:Int):um az 110 [(0,.int .i64 k)]=some #[.int .i64 k,.int .i64 0,.string ⟨#[]⟩,.int .i64 0,.int .i64 0]:=by kernel_rfl
def Ac{k v:Int}(a:IntKind.i64.min<=k/\k<=IntKind.i64.max)(b:IntKind.i64.min<=v/\v<=IntKind.i64.max):R w M (enc (rep k v 0 0)) (.agg #[.int .i64 k,.int .i64 v,.string ⟨#[]⟩,.int .i64 0,.int .i64 0]):=by
 have e:(⟨#[]⟩:ByteArray).size<=maxLen:=by decide
 have i:IntKind.i64.min<=(0:Int)/\(0:Int)<=IntKind.i64.max:=by decide
 exact⟨_,rfl,_,_,rfl,⟨rfl,a⟩,_,_,rfl,⟨rfl,b⟩,_,_,rfl,⟨rfl,e⟩,_,_,rfl,⟨rfl,i⟩,_,_,rfl,⟨rfl,i⟩,rfl⟩
set_option maxHeartbeats 4000000 in
def aKe{s:ByteArray}(hG:dZ w M)(hv:R w M (enc h) v)(hs:s.size<=maxLen)(hh:ny h) :
  Calls az 108 #[v,.string s] w fun e w'=>∃r,e=.returned r/\R w' M (.aU [enc (uy h s).1,enc (uy h s).2]) r/\Below w.heap.size w w':=by
 obtain⟨ae,ap,au,H,al,rfl,pE,hap,tu,has,hal⟩:=Gl hv;refine oz (E:=[(0,.agg (aC ae ap au H al)),(1,.string s)]) Tryz.func108 rfl Tryz.ntmps108 (by simp) (by simp) ?_;refine aO ?_;refine CV B0.nil fun _ B=> ?_;refine CU B oM fun _ B=> ?_;refine CU B mW fun w1 B=> ?_;refine bq ?_;refine bA (E':=[(1,.string s),(2,PH w.heap.size),(4,PH (w.heap.size+1)),(5,PH (w.heap.size+2))]) ?_;refine aO ?_;refine ah (bG cX B.q0 bI) ?_;refine dE (XM B hG hv hh) ?_;rintro _ t ⟨ve,vp,vu,vs,vl,rfl,one,mk⟩;refine⟨_,rfl,?_⟩;refine ah (eV rfl oM) ?_;refine bW rfl (cs:=aC ve vp vu vs vl) rfl (xG t) one bI fun w3 q6 ma=> ?_;obtain⟨N,S⟩:=mk w3 q6 ma;have S3:SB 3 (vo (aC ae ap au H al)) M N w w3 t.heap.size h ve vp vu vs vl:=S;clear mk one q6 ma S B;refine bq ?_;refine bA (E':=[(1,.string s),(2,PH w.heap.size),(4,PH (w.heap.size+1)),(5,PH (w.heap.size+2)),(6,PH t.heap.size)]) ?_;refine CW.seq (aO ?_);refine ah (bG cX S3.b0 bI) ?_;refine ah aI ?_;refine dE (S3.ask (MI h s hh) ⟨_,_,rfl,S3.kp hv,_,[],rfl,⟨rfl,hs⟩,rfl⟩) ?_;rintro _ w4 ⟨rfl,S4⟩;refine⟨_,rfl,?_⟩;clear S3;refine ah rp ?_;refine bq ?_;rcases X:gV h s with _|_
 ·refine eG ?_;refine aO ?_;refine ah (bG cX S4.q6 bI) ?_;refine ah (kI (vs:=[(0,.int .i64 7)]) (Mw 7)) ?_;refine bW rfl (cs:=aC ve vp vu vs vl) rfl S4.b1 S4.one bI fun wa z4 oa=> ?_;have z5:=(oa.block (w.heap.size+2) (by omega)).trans S4.b2;refine bW rfl (cs:=#[.int .i64 7,.int .i64 0,.string ⟨#[]⟩,.int .i64 0,.int .i64 0]) rfl z5 (by decide) cw fun wb y5 ob=> ?_;have y4:=(ob.block (w.heap.size+1) (by omega)).trans z4;obtain⟨hr,fE⟩:=S4.out hG (by decide) (by decide) oa ob;have hd:uy h s=(h,rep 7 0 0 0):=by unfold uy;rw[aD X]
  refine WL.nil (aM (CW.ret (NX.ret (zp rfl rfl rfl y4 y5 cX gC rfl rfl bI cw ⟨_,rfl,?_,fE⟩))));rw[hd];exact⟨_,rfl,_,_,rfl,hr,_,_,rfl,Ac (by decide) (by decide),rfl⟩
 refine CW.no (CW.skip (aM ?_));refine CW.seq (aO ?_);refine ah (br Ds) ?_;refine ah (bB fz (v:=H) ((S4.b0.cell 3).trans rfl)) ?_;refine ah aI ?_;refine dE (S4.ask (nE h.shut s) ⟨_,_,rfl,S4.kp has,_,[],rfl,⟨rfl,hs⟩,rfl⟩) ?_;rintro _ w5 ⟨rfl,S5⟩;refine⟨_,rfl,?_⟩;clear S4;refine ah rp ?_;refine bq ?_;rcases hsh:hasB h.shut s with _|_
 ·refine eG ?_;refine aO ?_;refine ah (bG cX S5.q6 bI) ?_;refine ah (kI (vs:=[(0,.int .i64 6)]) (Mw 6)) ?_;refine bW rfl (cs:=aC ve vp vu vs vl) rfl S5.b1 S5.one bI fun wa z4 oa=> ?_;have z5:=(oa.block (w.heap.size+2) (by omega)).trans S5.b2;refine bW rfl (cs:=#[.int .i64 6,.int .i64 0,.string ⟨#[]⟩,.int .i64 0,.int .i64 0]) rfl z5 (by decide) cw fun wb y5 ob=> ?_;have y4:=(ob.block (w.heap.size+1) (by omega)).trans z4;obtain⟨hr,fE⟩:=S5.out hG (by decide) (by decide) oa ob;have hd:uy h s=(h,rep 6 0 0 0):=by unfold uy;rw[aw (by rw[X];decide),aD hsh]
  refine WL.nil (aM (CW.ret (NX.ret (zp rfl rfl rfl y4 y5 cX gC rfl rfl bI cw ⟨_,rfl,?_,fE⟩))));rw[hd];exact⟨_,rfl,_,_,rfl,hr,_,_,rfl,Ac (by decide) (by decide),rfl⟩
 refine CW.no (CW.skip (aM ?_));refine bA (E':=[(1,.string s),(2,PH w.heap.size),(4,PH (w.heap.size+1)),(5,PH (w.heap.size+2)),(6,PH t.heap.size)]) ?_;have hO:uS h:=DC.1 (by unfold gV at X;simp only[aY]at X;exact X.1.1);have Bu:h.log.length<24:=by unfold gV at X;simp only[aY,dr]at X;exact X.2
 have hfs:0<=cN h.entries s:=by unfold gV at X;simp only[aY,qH,qK]at X;have:=X.1.2;omega
 have uA:cN h.entries s=((cD h s:Nat):Int):=(IA hfs).symm;have hi:cD h s<h.parts.length:=by obtain⟨i,h1,h2,_⟩:=vK hfs;unfold cD;rw[h1,hO.len];simpa using h2
 have vR:=B6 (tA hO _ (gF hi));obtain⟨i,hid⟩:∃i,cD h s=i:=⟨_,rfl⟩;rw[hid]at uA hi vR;obtain⟨p,xu⟩:∃p,nth h.parts i=p:=⟨_,rfl⟩;rw[xu]at vR;refine aO ?_;refine ah (br rY) ?_;refine ah (bB pj (v:=ae) ((S5.b0.cell 0).trans rfl)) ?_;refine ah aI ?_;refine dE (aG.calls (qM h.entries s) S5.H.cF (vs:=[ae,.string s]) ⟨_,_,rfl,S5.kp pE,_,[],rfl,⟨rfl,hs⟩,rfl⟩) ?_;rintro _ w6 ⟨_,rfl,hfi,oG⟩;obtain⟨rfl, -⟩:=hfi;rw[uA];refine⟨_,rfl,?_⟩;have S6:=S5.below oG;clear S5 oG;refine ah bO ?_;refine bq ?_;refine bA (E':=[(1,.string s),(2,PH w.heap.size),(4,PH (w.heap.size+1)),(5,PH (w.heap.size+2)),(6,PH t.heap.size),(7,.int .i64 ((i:Nat):Int))]) ?_;obtain⟨aa,ac,Dk,_,Gm⟩:=mQ (mI (n:=6) (fun _=>rfl) h.parts) hap;rw[dq]at Dk;subst Dk;obtain⟨pb,po,us,rfl,jO,lW,C⟩:=Gm i _ (get_map h.parts hi);rw[xu]at lW;have nO:R w M (enc p) (.agg us.toArray):=⟨_,rfl,lW⟩;have zN:∀(j:Nat) (u:Value),us[j]? =some u->w6.cell? ((⟨pb,po+i*6,none⟩:Addr).add j)=some u:=fun j u hu=>by rw[tY];have hc:=C j u hu;rw[S6.bw.cell (gf hc)];exact hc
 have Gv:(bL jo).text.size<4294967281:=show cL.size<4294967281 by decide
 refine aO ?_;refine ah (br rZ) ?_;refine ah (bB qf (v:=.slice (some ⟨pb,po,none⟩) h.parts.length ac) ((S6.b0.cell 1).trans rfl)) ?_;refine ah aI ?_;refine ah (oO hi FR) ?_;refine ah (Ab (cs:=us) rfl rfl dF rfl (by rw[jO];exact l8) zN) ?_;refine ah (kI (vs:=[(0,.string jo)]) (agG jo)) ?_;refine dE (aG.calls (Ja p (bL jo) (by have:=vR.1;omega) (by have:=vR.2;omega) Gv) S6.H.cF (vs:=[.agg us.toArray,.agg #[.string jo,.string ⟨#[]⟩,.int .i64 0,.string ⟨#[]⟩]]) ⟨_,_,rfl,S6.kp nO,_,[],rfl,ahc (by decide),rfl⟩) ?_;rintro _ A ⟨vq,rfl,hq,jm⟩;obtain⟨qs,rfl,uB,hq1,vS⟩:=DV hq;refine⟨_,rfl,?_⟩;have S7:=S6.below jm;clear S6 jm zN hq;obtain⟨q,BC⟩:∃q,fX p (bL jo)=q:=⟨_,rfl⟩;rw[BC]at vS;rw[BC];refine ah aI ?_;refine ah eA ?_;refine ah eA ?_;refine ah (eV rfl Gz) ?_;refine ah (eV rfl mW) ?_;have s8:aA ((A.alloc (.cells gW 51)).alloc (.cells cQ 110)) A.heap.size 51 gW:=(aA.new A _ _).alloc _;have s9:aA ((A.alloc (.cells gW 51)).alloc (.cells cQ 110)) (A.heap.size+1) 110 cQ:=by have:=aA.new (A.alloc (.cells gW 51)) 110 cQ;rw[eB]at this;exact this
 have I:Below A.heap.size A ((A.alloc (.cells gW 51)).alloc (.cells cQ 110)):=bt (gh _ _ _) (gh _ _ _);change WL _ _ _ _ _ _ ((A.alloc (.cells gW 51)).alloc (.cells cQ 110));simp only[eB];generalize (A.alloc (.cells gW 51)).alloc (.cells cQ 110)=w8 at s8 s9 I ⊢;refine bW rfl (cs:=qs) rfl s8 (hC:=(by rw[uB];rfl)) hq1 (by rw[uB];exact l8) fun w9 t8 J=> ?_;have t9:=(J.block (A.heap.size+1) (by omega)).trans s9;refine bW rfl (cs:=eY q.2) rfl t9 (OH _) cw fun xW u9 U=> ?_;have u8:aA xW A.heap.size 51 qs:=(U.block _ (by omega)).trans t8;have Y:Below A.heap.size A xW:=⟨U.os.trans (J.os.trans I.os),U.tape.trans (J.tape.trans I.tape),U.output.trans (J.output.trans I.output),by rw[U.size,J.size];exact I.size,fun i hi=>((U.block i (by omega)).trans (J.block i (by omega))).trans (I.block i hi)⟩;obtain⟨z,Z⟩:∃z:Nat->Prop,z=fun x=>N x\/x=A.heap.size:=⟨_,rfl⟩;have n8:z A.heap.size:=by rw[Z];exact .inr rfl
 have Nj:∀x,z x->N x\/A.heap.size<=x:=fun x f=>by rw[Z]at f;exact f.imp id fun e=>by omega
 have l10:=u8.lt;have V:=S7.new (N':=z) Y Nj (fun x f=>by rw[Z];exact .inl f) fun x f=>by
  rw[Z]at f;rcases f with f|f
  ·have:=S7.H.nb x f;have:=Y.size;omega
  ·omega
 have aBj:=R.keep (BM.below (N':=z) Y Nj) _ _ vS;have TP:w.heap.size+3<=A.heap.size/\A.heap.size≠t.heap.size/\¬KV vp vl A.heap.size:=⟨by have:=S7.q6.lt;have:=S7.lo;omega,by have:=S7.q6.lt;omega,fun hk=>hk.elim (fun e=>by have:=(S7.H.p.lt _ e).2;omega) fun e=>by have:=(S7.H.l.lt _ e).2;omega⟩;clear S7 vS I Y s8 s9 t8 t9 J U;obtain⟨g8,ajr⟩:∃g8,A.heap.size=g8:=⟨_,rfl⟩;rw[ajr]at u8 u9 TP n8 l10;rw[ajr];refine bq ?_;refine aO ?_;refine ah bO ?_;refine bq ?_;have hqo:DR q.1:=by rw[<-BC];exact B6 (MK (xu▸tA hO _ (gF hi)) _).1
 refine CW.seq (Qu (fun E' W=>∃(pp:Part) (vv:Int) (cs:Array Value),E'=[(1,.string s),(4,PH (w.heap.size+1)),(5,PH (w.heap.size+2)),(6,PH t.heap.size),(7,.int .i64 ((i:Nat):Int)),(8,PH g8),(10,.int .i64 vv)]/\pp=(if q.2.code=0 then q.1 else(dX (nth h.entries i).recipe).1)/\vv=(if q.2.code=0 then 1 else 0) /\
  SH M z w W t.heap.size h (aC ae (.slice (some ⟨pb,po,none⟩) h.parts.length ac) au H al) ve vp vu vs vl/\aA W g8 51 cs/\cs.size=6/\(∀u∈cs.toList,u.oneCell'=true)/\R W (BM M z) (enc pp) (.agg cs)/\DR pp) ?_ ?_)
 ·refine aO ?_;refine ah (br FY) ?_;refine ah (bB kS (v:=.int .i64 q.2.code) ((u9.cell 0).trans rfl)) ?_;by_cases hc0:q.2.code=0
  ·refine ah (iB (b:=false) (hb:=by simp[bg,hc0])) ?_;refine WL.nil (aM (CW.no (CW.skip ?_)));exact AG ⟨q.1,1,qs,rfl,by rw[aD hc0],by rw[aD hc0],V,u8,uB,hq1,aBj,hqo⟩ ⟨rfl,rfl,rfl,rfl,rfl,rfl,rfl,trivial⟩
  ·refine ah (iB (b:=true) (hb:=by simp[bg,hc0])) ?_;refine WL.nil (aM (eG ?_));obtain⟨ea,ec,MT,_,aaW⟩:=mQ (mI (n:=5) (fun _=>rfl) h.entries) pE;rw[dq]at MT;have hie:i<h.entries.length:=by rw[<-hO.len];exact hi
   obtain⟨eb,eo,es,rfl,hes,⟨c0,_,hcc,⟨rfl,_⟩,c1,_,rfl,NP,_⟩,aaV⟩:=aaW i _ (get_map h.entries hie);subst MT;have hrec:xW.cell? ⟨eb,eo+i*5+1,none⟩=some c1:=by have hc:=aaV 1 c1 (by rw[hcc];rfl);rw[V.bw.cell (gf hc)];exact hc
   refine aO ?_;refine ah (br rY) ?_;refine ah (bB pj (v:=.slice (some ⟨eb,eo,none⟩) h.entries.length ec) ((V.b0.cell 0).trans rfl)) ?_;refine ah aI ?_;refine ah (oO hie Ti) ?_;refine ah (br aaj) ?_;refine ah (bB fz (v:=c1) hrec) ?_;refine dE (aG.calls (aG.fZ (Sy (nth h.entries i).recipe)) V.H.cF (vs:=[c1]) ⟨_,[],rfl,xy (show R w M (ak (nth h.entries i).recipe) c1 from NP) V.bw V.nw,rfl⟩) ?_;rintro _ EQ ⟨vm,rfl,hmk,ai3⟩;obtain⟨ms,rfl,hms,lK,iZ⟩:=DV hmk;refine⟨_,rfl,?_⟩;refine ah aI ?_;refine ah eA ?_;refine ah eA ?_;refine bW rfl (cs:=ms) rfl (u8.below ai3 u8.lt) (hC:=(by rw[hms,uB])) lK (by rw[hms];exact l8) fun w12 y8 alz=> ?_;have S12:=(V.below ai3).wr hG alz n8 TP.2.2 TP.1 TP.2.1;have aA2:=iO iZ alz n8;refine WL.nil (aM (CW.region ?_));refine ah bO ?_;refine WL.nil ?_;exact AG ⟨_,0,ms,rfl,by rw[aw hc0],by rw[aw hc0],S12,y8,hms,lK,aA2,ak5 _⟩ ⟨rfl,rfl,rfl,rfl,rfl,rfl,rfl,trivial⟩
 rintro E' W ⟨pp,vv,cs,rfl,tC,hvv,S,u8,hcs,hc1,ql,hok⟩;have ko:(h.parts.map (aB.cells (α:=Part))).length=h.parts.length:=dq _;obtain⟨b,cap,_,uD,_⟩:=S.H.p.row (get_map h.parts hi);rw[ko]at uD;subst uD;have hbk:=S.kv b (.inl rfl);have Dw:=(S.H.p.lt b rfl).1;refine aM ?_;refine CW.seq (CW.any (fun W=>aA W t.heap.size 29 (aC ve (.slice (some ⟨b,0,none⟩) h.parts.length cap) vu vs vl)/\aA W g8 51 cs) 6 mo fun wa hwd hbd=>⟨⟨S.q6.below hbd S.q6.lt,u8.below hbd u8.lt⟩,?_⟩);have Sa:=S.below hbd;have a8:=u8.below hbd u8.lt;have ajb:=R.keep (BM.below (N':=z) hbd fun x f=>.inl f) _ _ ql;clear S u8 ql hbd;refine aX 0 rfl (fun W hW=>br rZ) ⟨Sa.q6,a8⟩ ?_;refine aX 1 rfl (fun W hW=>bB qf (v:=.slice (some ⟨b,0,none⟩) h.parts.length cap) ((hW.1.cell 1).trans rfl)) ⟨Sa.q6,a8⟩ ?_;refine aX 2 rfl (fun W hW=>aI) ⟨Sa.q6,a8⟩ ?_;refine aX 3 rfl (fun W hW=>bG dF hW.2 (by rw[hcs];exact l8)) ⟨Sa.q6,a8⟩ ?_;refine p9 4 rfl (aG.calls (SD pp dR (by have:=hok.1;omega) (by have:=hok.2;omega)) Sa.H.cF (vs:=[.agg cs,.string dR]) ⟨_,_,rfl,ajb,_,[],rfl,⟨rfl,by decide⟩,rfl⟩) ?_;rintro _ wb ⟨vq,rfl,hq,qU⟩;obtain⟨ds,rfl,hds,hone,Bq⟩:=Vi hq;have Sb:=Sa.below qU;have b8:=a8.below qU a8.lt;clear Sa a8 qU;refine⟨_,rfl,fun _=>⟨Sb.q6,b8⟩,?_⟩;refine gI 5 rfl (yS rfl rfl rfl hi FU) (fun _=>⟨Sb.q6,b8⟩) ?_;refine XT 6 rfl (by kernel_rfl) rfl rfl rfl rfl rfl rfl Sb.H.p (by rw[ko];exact hi) rfl hds hone Bq l8 fun F mV BW=> ?_;refine ij (by kernel_rfl) (aM ?_);have Sc:SH M z w F t.heap.size {h with parts:=h.parts.set i (mZ pp dR)} (aC ae (.slice (some ⟨pb,po,none⟩) h.parts.length ac) au H al) ve (.slice (some ⟨b,0,none⟩) h.parts.length cap) vu vs vl :=
  Sb.part mV BW
 clear Sb b8 hq mV BW Bq ajb;refine bA (E':=[(1,.string s),(4,PH (w.heap.size+1)),(5,PH (w.heap.size+2)),(6,PH t.heap.size),(10,.int .i64 vv)]) ?_;obtain⟨ti,aK,hz,hsz,hby⟩:=vD (P:=az) (e:=9) (z:=.string ⟨#[]⟩) (size:=1) (bytes:=16) (by kernel_rfl);have hgd:({h with parts:=h.parts.set i (mZ pp dR)}:Host).shut=h.shut:=rfl;obtain⟨g,hgg⟩:∃g:Host,{h with parts:=h.parts.set i (mZ pp dR)}=g:=⟨_,rfl⟩;rw[hgg]at Sc hgd;obtain⟨sa,sc,y9,aLI,_⟩:=mQ (mI (n:=1) (fun _=>rfl) h.shut) (show R F (BM M z) (.sl (h.shut.map aB.cells)) vs from hgd▸Sc.H.s);rw[dq]at y9;subst y9;have hsl:=hh.sl;refine aO ?_;refine ah (acF rfl fz aK hsz hz rfl) ?_;refine ah bO ?_;have JL:=gh F #[] 9;have hzz:(F.alloc (.cells #[] 9)).heap.size=F.heap.size+1:=eB _ _;have ow:(F.alloc (.cells #[] 9)).ownsRow 0 9 1 (.slice (some ⟨F.heap.size,0,none⟩) 0 0) 0 []:=⟨rfl,.inr ⟨F.heap.size,0,#[],rfl,fO _,vB F _,bK _,fO _,rfl,rfl⟩⟩;have Sd:=Sc.new (N':=fun x=>z x\/x=F.heap.size) JL (fun x f=>f.imp id fun e=>by omega) (fun x f=>.inl f) fun x f=>by
  rcases f with f|f
  ·have:=Sc.H.nb x f;omega
  ·omega
 have hcl:=Sc.q6.lt;have aLh:=Sc.lo;have Od:OR M (fun x=>z x\/x=F.heap.size) (F.alloc (.cells #[] 9)) 9 1 (((h.shut.take 0).filter fun x=> !decide (x=s)).map aB.cells) (.slice (some ⟨F.heap.size,0,none⟩) 0 0):=⟨fun r hr=>by simp at hr,[],ow,fun x f=>by cases f;exact .inr rfl,fun i j r d hi=>by simp at hi⟩;have ad:∀x,(Value.slice (some ⟨F.heap.size,0,none⟩) 0 0).ownBlock=some x->¬KV (.slice (some ⟨b,0,none⟩) h.parts.length cap) vl x/\w.heap.size+3<=x/\x≠t.heap.size:=fun x f=>by have e:F.heap.size=x:=jy f;subst e;exact⟨fun hk=>hk.elim (fun e=>by have:=(Sc.H.p.lt _ e).2;omega) fun e=>by have:=(Sc.H.l.lt _ e).2;omega,by omega,by omega⟩
 clear Sc;generalize F.alloc (.cells #[] 9)=wd at JL hzz ow Sd Od ⊢;refine bq ?_;refine CW.seq (aO ?_);refine ah (br Ds) ?_;refine ah (bB fz (v:=.slice sa h.shut.length sc) ((Sd.q6.cell 3).trans rfl)) ?_;refine ah (Aa rfl rfl rfl rfl fz rfl) ?_;refine ah aI ?_;refine bq ?_;refine bA (E':=[(1,.string s),(4,PH (w.heap.size+1)),(5,PH (w.heap.size+2)),(6,PH t.heap.size),(10,.int .i64 vv),(11,.slice (some ⟨F.heap.size,0,none⟩) 0 0),(64,.slice sa h.shut.length sc),(65,.int .i64 (h.shut.length:Int)),(66,.int .i64 ((0:Nat):Int))]) ?_;refine CW.block (CW.loop (fun m E' wr=>∃(k:Nat) (N:Nat->Prop) (v:Value),m+k=h.shut.length/\E'=[(1,.string s),(4,PH (w.heap.size+1)),(5,PH (w.heap.size+2)),(6,PH t.heap.size),(10,.int .i64 vv),(11,v),(64,.slice sa h.shut.length sc),(65,.int .i64 (h.shut.length:Int)),(66,.int .i64 (k:Int))] /\
  SH M N w wr t.heap.size g (aC ae (.slice (some ⟨pb,po,none⟩) h.parts.length ac) au H al) ve (.slice (some ⟨b,0,none⟩) h.parts.length cap) vu (.slice sa h.shut.length sc) vl/\OR M N wr 9 1 (((h.shut.take k).filter fun x=> !decide (x=s)).map aB.cells) v /\
  (∀x,v.ownBlock=some x->¬KV (.slice (some ⟨b,0,none⟩) h.parts.length cap) vl x/\w.heap.size+3<=x/\x≠t.heap.size)) h.shut.length ⟨0,_,_,rfl,rfl,Sd,Od,ad⟩ ?_)
 clear Sd Od ad ow;rintro m E' wr ⟨k,N,v,hmk,rfl,S,O,av⟩;refine aO ?_;rcases ue m with hm0|hm0
 rotate_left
 ·obtain⟨m',rfl⟩:∃m',m=m'+1:=⟨m-1,by omega⟩;have hk:k<h.shut.length:=by omega
  refine ah (iB (b:=true) (hb:=by simp[bg];omega)) ?_;refine WL.nil (aM (CW.seq (eG (CW.skip (aM ?_)))));obtain⟨ub,uo,uc,uC,C,hxs⟩:=OZ (show R wr (BM M N) (ak h.shut) (.slice sa h.shut.length sc)from hgd▸S.H.s) hk;obtain⟨x,f⟩:∃x,nth h.shut k=x:=⟨_,rfl⟩;rw[f]at C hxs;simp only[fA,wW]at uC;obtain⟨rfl,rfl⟩:=uC;have htk:(h.shut.take (k+1)).filter (fun x=> !decide (x=s))=(h.shut.take k).filter (fun x=> !decide (x=s))++(if x=s then []else [x]):=by rw[VK hk,f,List.filter_append];by_cases e:x=s<;>simp[e]
  refine CW.seq (CW.block ?_);refine aO ?_;refine ah (oO hk zE) ?_;refine ah (bB iy (v:=.string x) C) ?_;refine ah bO ?_;refine bq ?_;refine aO ?_;refine ah aI ?_;refine ah aI ?_;refine ah (aE8 rfl rfl rfl) ?_;refine bq ?_;by_cases Uu:x=s
  ·have hc:gz .neq x s=false:=by simp[gz,Uu]
   rw[hc];refine CW.no (CW.skip ?_);rw[aD Uu,qJ]at htk;refine sU (aM (CW.region ?_));refine ah (iA (r:=((k+1:Nat):Int)) (hb:=by rw[bF];omega)) ?_;refine ah aI ?_;exact WL.nil (NX.ag m' ⟨k+1,_,v,by omega,rfl,S,by rw[htk];exact O,av⟩)
  ·have hc:gz .neq x s=true:=aD6 Uu;rw[hc];rw[aw Uu]at htk;refine eG (CW.region ?_);refine ah aI ?_;refine ah aI ?_;refine ah (Vk rfl rfl rfl fz aK hsz hz rfl) ?_;have fY:=gh wr #[.string x] 9;have hnew:∀(j:Nat) (u:Value),[Value.string x][j]? =some u->(wr.alloc (.cells #[.string x] 9)).cell? ((⟨wr.heap.size,0,none⟩:Addr).add j)=some u:=fun j u hu=>FI (w:=wr) (xs:=[.string x]) (T:=9) j u hu;generalize wr.alloc (.cells #[.string x] 9)=we at fY hnew ⊢;have Se:=S.below fY;have Oe:=O.below fY (N':=N) (fun x f=>.inl f) fun x f=>f;have hfl:((h.shut.take k).filter fun x=> !decide (x=s)).length<=h.shut.length:=dV (Yy _ _) (by rw[mO];omega);obtain⟨v',wf,az3,TA,hgf,ajP⟩:=or_append (P:=az) (ty:=26) (c:=1) (a:=⟨wr.heap.size,0,none⟩) fz aK hz hsz hby rfl (by decide) Oe Se.H.nb (r:=[.str x]) (us:=[.string x]) rfl rfl (fun j d hj=>by
    match j,hj with
    |0,hj=>cases hj;exact⟨_,rfl,rfl,hxs⟩
    |j+1,hj=>simp at hj) hnew (by intro u hu;simp at hu;subst hu;rfl) (by rw[dq];omega) (by decide)
   refine ah (rn rfl rfl rfl az3) ?_;refine ah bO ?_;have TA:OR M (fun y=>N y\/v'.ownBlock=some y) wf 9 1 (((h.shut.take (k+1)).filter fun x=> !decide (x=s)).map aB.cells) v':=by rw[htk,AR];exact TA
   have l6e:=Se.q6.lt;have loe:=Se.lo;have Sf:=Se.grow (N':=fun y=>N y\/v'.ownBlock=some y) hG hgf (fun y G=>⟨(Oe.lt y G).1,av y G⟩) (fun y G=>G.elim .inl fun e=>by
     rcases ajP with e2|e2
     ·rw[e2]at e;exact .inl (Oe.lt y e).1
     ·rw[e2]at e;have:=jy e;exact .inr (by omega)) (fun y G=>.inl G) fun y G=>G.elim (fun G=>ek (Se.H.nb y G) hgf.size) fun G=>(TA.lt y G).2
   have af:∀y,v'.ownBlock=some y->¬KV (.slice (some ⟨b,0,none⟩) h.parts.length cap) vl y/\w.heap.size+3<=y/\y≠t.heap.size:=fun y G=>by
    rcases ajP with e2|e2
    ·exact av y (e2▸G)
    ·rw[e2]at G;have e3:=jy G;exact⟨fun hk=>hk.elim (fun e=>by have:=(Se.H.p.lt _ e).2;omega) fun e=>by have:=(Se.H.l.lt _ e).2;omega,by omega,by omega⟩
   refine WL.nil ?_;refine sU (aM (CW.region ?_));refine ah (iA (r:=((k+1:Nat):Int)) (hb:=by rw[bF];omega)) ?_;refine ah aI ?_;exact WL.nil (NX.ag m' ⟨k+1,_,v',by omega,rfl,Sf,TA,af⟩)
 subst hm0;obtain rfl:k=h.shut.length:=by omega
 refine ah (iB (b:=false) (hb:=by simp[bg])) ?_;refine WL.nil (aM (CW.seq (CW.no (CW.exit (rM (rM (CO (aM ?_))))))));have htk:h.shut.take h.shut.length=h.shut:=wU;rw[htk]at O;have ov:v.oneCell'=true:=by obtain⟨a,c,rfl,_⟩:=O.len;rfl
 refine bA (E':=[(1,.string s),(4,PH (w.heap.size+1)),(5,PH (w.heap.size+2)),(6,PH t.heap.size),(10,.int .i64 vv),(11,v)]) ?_;refine aO ?_;refine ah aI ?_;refine ah (br Ds) ?_;refine qG (pM rfl rfl rfl (by kernel_rfl) ov ((S.q6.cell 3).trans rfl) (S.q6.frozen 3)) ?_;have z6:aA (wr.setCell ⟨t.heap.size,0+3,none⟩ v) t.heap.size 29 (aC ve (.slice (some ⟨b,0,none⟩) h.parts.length cap) vu v vl):=S.q6.xK 3 v;have wu:bU wr (wr.setCell ⟨t.heap.size,0+3,none⟩ v) t.heap.size:=(bU.refl wr t.heap.size).set (0+3) v;generalize wr.setCell ⟨t.heap.size,0+3,none⟩ v=wg at z6 wu ⊢;have n6:N t.heap.size/\v.ownBlock≠some t.heap.size:=⟨S.n6,fun e=>(av _ e).2.2 rfl⟩;have nkv:∀x,KV (.slice (some ⟨b,0,none⟩) h.parts.length cap) vl x->N x/\v.ownBlock≠some x:=fun x f=>⟨f.elim (fun e=>(S.H.p.lt x e).1) fun e=>(S.H.l.lt x e).1,fun e=>(av x e).1 f⟩;have Sg:SH M (fun x=>N x/\v.ownBlock≠some x) w wg t.heap.size {g with shut:=h.shut.filter fun x=> !decide (x=s)} (aC ae (.slice (some ⟨pb,po,none⟩) h.parts.length ac) au H al) ve (.slice (some ⟨b,0,none⟩) h.parts.length cap) vu v vl :=
  S.box hG wu (fun x f=>f.1) nkv (fun k hk=>⟨S.nb k hk,fun e=>by have:=(av _ e).2.1;omega⟩) n6 ⟨rfl,rfl⟩ (R.less S.H.e fun q hq=>hq.imp id CY) (R.less S.U fun q hq=>hq.imp id CY)
   (O.GY (fun x f=>f.1) fun x f=>⟨fun hq=>hq.2 f,fun o X=>by have:=(av x f).2.1;have h2:x<w.heap.size:=hG.1 _ X;omega⟩) z6
 clear S O z6 wu;refine bq ?_;refine bA (E':=[(1,.string s),(4,PH (w.heap.size+1)),(5,PH (w.heap.size+2)),(6,PH t.heap.size),(10,.int .i64 vv)]) ?_;obtain⟨N2,iI⟩:∃N2:Nat->Prop,N2=fun x=>N x/\v.ownBlock≠some x:=⟨_,rfl⟩;rw[<-iI]at Sg;have hgl:g.log=h.log:=by rw[<-hgg]
 obtain⟨g',aa4⟩:∃g':Host,{g with shut:=h.shut.filter fun x=> !decide (x=s)}=g':=⟨_,rfl⟩;rw[aa4]at Sg;have aAF:g'.log=h.log:=by rw[<-aa4];exact hgl
 refine aO ?_;refine ah (br tk) ?_;refine ah (bB vz (v:=vl) ((Sg.q6.cell 4).trans rfl)) ?_;refine ah aI ?_;refine ah (kI (vs:=[(0,.int .i64 4),(1,.string s)]) (R7 4 s)) ?_;obtain⟨cZ,wj,N3,Ns,yO,x6,_,_,Sk⟩:=Sg.lg hG (e:=jj 4 s) (Tj (by decide) hs) (by rw[aAF];omega);refine ah Km ?_;refine ah (rn rfl rfl rfl Ns) ?_;refine ah (br tk) ?_;refine qG (pM rfl rfl rfl (by kernel_rfl) yO ((x6.cell 4).trans rfl) (x6.frozen 4)) ?_;generalize wj.setCell ⟨t.heap.size,0+4,none⟩ cZ=wk at Sk ⊢;clear Sg x6;refine bq ?_;refine bA (E':=[(4,PH (w.heap.size+1)),(5,PH (w.heap.size+2)),(6,PH t.heap.size),(10,.int .i64 vv)]) ?_;refine aO ?_;refine ah (bG cX Sk.q6 bI) ?_;refine ah aI ?_;refine ah (kI (vs:=[(1,.int .i64 vv)]) (awM vv)) ?_;refine bW rfl (cs:=aC ve (.slice (some ⟨b,0,none⟩) h.parts.length cap) vu v cZ) rfl Sk.b1 Sk.one bI fun wl z4 oa=> ?_;have z5:=(oa.block (w.heap.size+2) (by omega)).trans Sk.b2;refine bW rfl (cs:=#[.int .i64 0,.int .i64 vv,.string ⟨#[]⟩,.int .i64 0,.int .i64 0]) rfl z5 (by intro u hu;simp at hu;rcases hu with rfl|rfl|rfl|rfl|rfl<;>rfl) cw fun wm y5 ob=> ?_;have y4:=(ob.block (w.heap.size+1) (by omega)).trans z4;obtain⟨hr,fE⟩:=Sk.out hG (by decide) (by decide) oa ob;have hd:uy h s=(qo g' (jj 4 s),rep 0 vv 0 0):=by unfold uy;rw[aw (by rw[X];decide),aw (by rw[hsh];decide), <-aa4, <-hgg,tC,hvv];simp only[hid,xu,BC]
 refine WL.nil (aM (CW.ret (zp rfl rfl rfl y4 y5 cX gC rfl rfl bI cw ⟨_,rfl,?_,fE⟩)));rw[hd];exact⟨_,rfl,_,_,rfl,hr,_,_,rfl,Ac (by decide) (by rw[hvv];split<;>decide),rfl⟩
def axp(h:Host)(s:ByteArray)(a:ny h):aG az 108 none [enc h,.str s] (.aU [enc (uy h s).1,enc (uy h s).2]) [] :=
 CL (by kernel_rfl) fun w M vs G b=>by obtain⟨v,_,rfl,c,f,_,rfl,⟨rfl,e⟩,rfl⟩:=b;exact aKe G c e a
end
end Go.Proofs.YtoomhbopolalnaaGreatDoor
