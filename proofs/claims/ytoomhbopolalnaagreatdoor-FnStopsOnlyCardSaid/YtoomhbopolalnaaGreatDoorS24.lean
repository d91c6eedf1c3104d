/- Walk: a part of a host is called (the reference's l7Call). -/
import Derived.Test.YtoomhbopolalnaaGreatDoorS23
set_option linter.all false
set_option maxRecDepth 100000
namespace Go.Proofs.YtoomhbopolalnaaGreatDoor
variable {M:Addr->Prop}{a:Array Value}{b:Bool}{x:Call}{e j:Nat}{N:Nat->Prop}{q:Part×gK}{v:Value}{W W' w:World}
section
open Go.RowKit Go
variable [GC]
def nH(x:Call):Array Value:=#[.string x.method,.string x.key,.int .i64 x.val,.string x.text]
def uq(arg:Array Value)(x:Call):List (Nat×TypeId×Array Value):=[(0,29,arg),(1,31,nH x),(2,29,#[aN,aN,aN,aN,aN]),(3,110,cQ)]
structure NB(L:Nat)(N:Nat->Prop)(w W:World)(b6:Nat)(vp vl:Value)(g:Nat)(T:TypeId)(cs:Array Value):Prop where
 n:N g
 b:aA W g T cs
 lo:w.heap.size+L<=g
 ne:g≠b6
 kv:¬KV vp vl g
section
variable {L:Nat}{bx:List (Nat×TypeId×Array Value)}{M:Addr->Prop}{N N':Nat->Prop}{w W W':World}{b6 g':Nat}{g:Host}{ve vp vu vs vl dm:Value}{T:TypeId}{cs cs':Array Value}{r:gK}{v:Value}
def NB.below(A:NB L N w W b6 vp vl g' T cs)(hb:Below W.heap.size W W')(h:∀x,N x->N' x):NB L N' w W' b6 vp vl g' T cs:={A with n:=h _ A.n,b:=A.b.below hb A.b.lt}
def NB.DT{b:Nat}(A:NB L N w W b6 vp vl g' T cs)(o:bU W W' b)(h:g'≠b):NB L N w W' b6 vp vl g' T cs:={A with b:=(o.block _ h).trans A.b}
def SB.alloc(S:SB L bx M N w W b6 g ve vp vu vs vl)(cs:Array Value)(T:TypeId):SB L bx M (fun x=>N x\/x=W.heap.size) w (W.alloc (.cells cs T)) b6 g ve vp vu vs vl/\NB L (fun x=>N x\/x=W.heap.size) w (W.alloc (.cells cs T)) b6 vp vl W.heap.size T cs:=by
 have b:=gh W cs T;have z:=eB W (.cells cs T);have l:=S.q6.lt;have c:=S.lo;exact⟨S.new b (fun x h=>h.imp id fun e=>by omega) (fun x h=>.inl h) fun x h=>by
   rcases h with h|h
   ·have:=S.H.nb x h;omega
   ·omega,
  .inr rfl,aA.new W T cs,by omega,by omega,fun a=>a.elim (fun e=>by have:=(S.H.p.lt _ e).2;omega) fun e=>by have:=(S.H.l.lt _ e).2;omega⟩
def SB.ES(S:SB L bx M N w W b6 g ve vp vu vs vl)(h:dZ w M)(A:NB L N w W b6 vp vl g' T cs)(o:bU W W' g'):SB L bx M N w W' b6 g ve vp vu vs vl:=S.wr h o A.n A.kv A.lo A.ne
def NB.put(A:NB L N w W b6 vp vl g' T cs)(h:aA W' g' T cs'):NB L N w W' b6 vp vl g' T cs':={A with b:=h}
def SB.fell{a:World}{e:Host}(S:SB L bx M N w W b6 g ve vp vu vs vl)(G:dZ w M)(H:HX M N W' e ve vp vs vl)(U:R W' (BM M N) (ak e.up) dm)(f:dD (KV vp vl) W W')(b:bU W' a b6)(q:aA a b6 29 (aC ve vp dm vs vl)):SB L bx M N w a b6 e ve vp dm vs vl:=by
 have y:=S.lo;have t:=G.2.2;have h:=S.bw;have l:∀x,x<w.heap.size+L->x<W.heap.size->a.heap[x]? =W.heap[x]? :=fun x c u=>(b.block x (by omega)).trans (f.block x u fun j=>by have:=(S.kv x j).1;omega);exact⟨H.one b S.n6 (fun j=>(S.kv _ j).2 rfl) (by omega),iO U b S.n6,fun x c=>⟨(S.bx x c).1,(l _ (by have:=(S.bx x c).1;omega) (S.bx x c).2.lt).trans (S.bx x c).2⟩,q,
  ⟨b.os.trans (f.os.trans h.os),b.tape.trans (f.tape.trans h.tape),b.output.trans (f.output.trans h.output),by rw[b.size];exact dV h.size f.size,fun i p=>(l i (by omega) (ek p h.size)).trans (h.block i p)⟩,
  S.nb,S.n6,S.nw,S.lo,S.kv⟩
def NB.fell{a:World}(A:NB L N w W b6 vp vl g' T cs)(f:dD (KV vp vl) W W')(b:bU W' a b6):NB L N w a b6 vp vl g' T cs:={A with b:=((b.block _ A.ne).trans (f.block _ A.b.lt A.kv)).trans A.b}
def DZ{a:Addr->Prop}(h:R W a (enc r) v)(W':World)(M':Addr->Prop):R W' M' (enc r) v:=by obtain⟨cs,rfl,v0,r0,e,⟨rfl,b⟩,v1,r1,rfl,⟨rfl,c⟩,p,r2,rfl,⟨rfl,f⟩,q,r3,rfl,⟨rfl,j⟩,v4,r4,rfl,⟨rfl,l⟩,rfl⟩:=h;exact⟨cs,rfl,_,_,e,⟨rfl,b⟩,_,_,rfl,⟨rfl,c⟩,_,_,rfl,⟨rfl,f⟩,_,_,rfl,⟨rfl,j⟩,_,_,rfl,⟨rfl,l⟩,rfl⟩
end
def Vg{p:Part}{r:gK}(h:R w M (.aU [enc p,enc r]) v):R w M (enc r) (.agg (eY r)):=by obtain⟨t,rfl,a,r0,e,c,f,r1,rfl,b,rfl⟩:=h;obtain rfl:=Vr b;exact b
def awK(s:ByteArray)(x:Call):um az 33 [(0,.int .i64 3),(1,.string s),(2,.agg (nH x))]=some #[.int .i64 3,.string s,.string x.method,.string x.key,.int .i64 x.val,.string x.text,aN]:=by kernel_rfl
def azj{M':Addr->Prop}{s:ByteArray}(a:s.size<=maxLen)(hx:R w M (enc x) (.agg (nH x))):Rs W M' (aB.cells (⟨3,s,x,[]⟩:Event)) [.int .i64 3,.string s,.string x.method,.string x.key,.int .i64 x.val,.string x.text,aN]:=by
 obtain⟨cs, -,v0,r0,p,⟨rfl,c⟩,v1,r1,rfl,⟨rfl,e⟩,q,r2,rfl,⟨rfl,f⟩,t,r3,rfl,⟨rfl,j⟩,rfl⟩:=hx;have l:IntKind.i64.min<=(3:Int)/\(3:Int)<=IntKind.i64.max:=by decide
 exact⟨_,_,rfl,⟨rfl,l⟩,_,_,rfl,⟨rfl,a⟩,_,_,rfl,⟨rfl,c⟩,_,_,rfl,⟨rfl,e⟩,_,_,rfl,⟨rfl,f⟩,_,_,rfl,⟨rfl,j⟩,_,_,rfl,⟨none,0,0,rfl,rfl,bK _,fO _,fun _=>rfl,fun b o s h=>by cases h⟩,rfl⟩
noncomputable def eC:Array Oper:=G5 Tryz.f107 7
def tH(l:List Nat):Array Bool:=((List.range 14).map fun i=>l.any (Nat.beq i)).toArray
def sK(w:World)(arg:Array Value)(x:Call)(p d:Nat)(us:List Value):World->Prop:=fun W=>(aA W w.heap.size 29 arg/\∀j u,us[j]? =some u->W.cell? ((⟨p,d,none⟩:Addr).add j)=some u)/\aA W (w.heap.size+1) 31 (nH x)
structure QO(M:Addr->Prop)(N:Nat->Prop)(W:World)(q:Part×gK)(qs:Array Value):Prop where
 s:qs.size=6
 o:∀u∈qs.toList,u.oneCell'=true
 r:R W (BM M N) (enc q.1) (.agg qs)
 v:∀(W':World) (M':Addr->Prop),R W' M' (enc q.2) (.agg (eY q.2))
def QO.below{N':Nat->Prop}(h:QO M N W q a)(hb:Below W.heap.size W W')(b:∀x,N' x->N x\/W.heap.size<=x):QO M N' W' q a:={h with r:=dH h.r hb b}
def QO.one{g:Nat}(h:QO M N W q a)(o:bU W W' g)(b:N g):QO M N W' q a:={h with r:=iO h.r o b}
set_option maxHeartbeats 4000000 in
def aFj{h:Host}{p:Part}{s:ByteArray}{ae I f al ve vp vu vs vl:Value}{l q n z i b6:Nat}{us:List Value}{Q:Exit->Act->World->Prop}(U:∀c a t v w,Q (.panic c) (Act.put a t v) w->Q (.panic c) a w)(hG:dZ w M)(nO:R w M (enc p) (.agg us.toArray))(jO:us.length=6)(zN:∀(j:Nat) (u:Value),us[j]? =some u->w.cell? ((⟨l,q+i*6,none⟩:Addr).add j)=some u)
  (hx:R w M (enc x) (.agg (nH x))) (J3:x.text.size<4294967281) (hc:p.core.cells.length<=4294967296) (hl:p.ai.length<=4294967296) (hin:i<n)
  (fin:∀(N:Nat->Prop) (W:World) (C:Array Value) (G H:Nat),SB 4 (uq (aC ae (.slice (some ⟨l,q,none⟩) n z) I f al) x) M N w W b6 h ve vp vu vs vl->QO M N W (fX p x) C->NB 4 N w W b6 vp vl G 51 C->NB 4 N w W b6 vp vl H 110 (eY (fX p x).2)->G≠H->NX 78 (Q .normal) [(1,.string s),(5,PH (w.heap.size+1)),(6,PH (w.heap.size+2)),(7,PH (w.heap.size+3)),(9,PH b6),(10,.int .i64 ((i:Nat):Int)),(11,PH G),(12,PH H)] W)
  (N:Nat->Prop) (W:World) (S:SB 4 (uq (aC ae (.slice (some ⟨l,q,none⟩) n z) I f al) x) M N w W b6 h ve vp vu vs vl) :
  AU 78 az eC Q (sK w (aC ae (.slice (some ⟨l,q,none⟩) n z) I f al) x l (q+i*6) us) 13 14 (Array.replicate 14 false) [(1,.string s),(3,PH w.heap.size),(5,PH (w.heap.size+1)),(6,PH (w.heap.size+2)),(7,PH (w.heap.size+3)),(9,PH b6),(10,.int .i64 ((i:Nat):Int))] W:=by
 have b:∀(N:Nat->Prop) (W:World),SB 4 (uq (aC ae (.slice (some ⟨l,q,none⟩) n z) I f al) x) M N w W b6 h ve vp vu vs vl->(sK w (aC ae (.slice (some ⟨l,q,none⟩) n z) I f al) x l (q+i*6) us) W:=fun N W S=>⟨⟨S.b0,fun j u y=>by have hc:=zN j u y;rw[S.bw.cell (gf hc)];exact hc⟩,S.b1⟩
 have acZ:∀(N:Nat->Prop) (W:World) (C:Array Value) (G:Nat) (H:Nat),SB 4 (uq (aC ae (.slice (some ⟨l,q,none⟩) n z) I f al) x) M N w W b6 h ve vp vu vs vl->QO M N W (fX p x) C->NB 4 N w W b6 vp vl G 51 gW->NB 4 N w W b6 vp vl H 110 cQ->G≠H->AU 78 az eC Q (sK w (aC ae (.slice (some ⟨l,q,none⟩) n z) I f al) x l (q+i*6) us) 13 2 (tH [0,1,2,3,4,5,6,7,8,9,10,11]) [(1,.string s),(5,PH (w.heap.size+1)),(6,PH (w.heap.size+2)),(7,PH (w.heap.size+3)),(9,PH b6),(10,.int .i64 ((i:Nat):Int)),(45,.agg C),(46,.agg (eY (fX p x).2)),(11,PH G),(12,PH H)] W:=by intro N W C G H S O A B hne;refine iK (o:=opAt eC 12) 12 (by kernel_rfl) (hg:=(by kernel_rfl)) (hd:=(by kernel_rfl)) (T:=51) (x:=.tmp 11) (y:=.tmp 45) (C:=gW) (hop:=(by kernel_rfl)) rfl A.b (hC:=(by rw[O.s];rfl)) O.o (by rw[O.s];exact l8) (fun _ o _=>b _ _ (S.ES hG A o)) fun J F y=> ?_;have S:=S.ES hG A y;have B:=B.DT y (yc hne);have O:=O.one y A.n;have A:=A.put F;refine iK (o:=opAt eC 13) 13 (by kernel_rfl) (hg:=(by kernel_rfl)) (hd:=(by kernel_rfl)) (T:=110) (x:=.tmp 12) (y:=.tmp 46) (C:=cQ) (hop:=(by kernel_rfl)) rfl B.b (OH _) cw (fun _ _ h=>absurd rfl h) fun F J y=> ?_;refine ij (by kernel_rfl) ?_;exact fun z V=>fin N F C G H (S.ES hG B y) (O.one y B.n) (A.DT y hne) (B.put J) hne z (V.sub ⟨rfl,rfl,rfl,rfl,rfl,rfl,rfl,rfl,trivial⟩)
 have amR:∀(N:Nat->Prop) (W:World) (C:Array Value) (G:Nat),SB 4 (uq (aC ae (.slice (some ⟨l,q,none⟩) n z) I f al) x) M N w W b6 h ve vp vu vs vl->QO M N W (fX p x) C->NB 4 N w W b6 vp vl G 51 gW->AU 78 az eC Q (sK w (aC ae (.slice (some ⟨l,q,none⟩) n z) I f al) x l (q+i*6) us) 13 3 (tH [0,1,2,3,4,5,6,7,8,9,10]) [(1,.string s),(5,PH (w.heap.size+1)),(6,PH (w.heap.size+2)),(7,PH (w.heap.size+3)),(9,PH b6),(10,.int .i64 ((i:Nat):Int)),(45,.agg C),(46,.agg (eY (fX p x).2)),(11,PH G)] W:=by
  intro N W C G S O A;refine CH (show Region.ready .any eC (tH [0,1,2,3,4,5,6,7,8,9,10])=[11] by kernel_rfl) ?_
  ·have y:=gh W cQ 110;have hz:=eB W (.cells cQ 110);obtain⟨F,X⟩:=S.alloc cQ 110;have O:=O.below (N':=fun x=>N x\/x=W.heap.size) y fun x hx=>hx.imp id fun e=>by omega
   have ha:=A.b.lt;have A:=A.below (N':=fun x=>N x\/x=W.heap.size) y fun x hx=>.inl hx;refine nW (o:=opAt eC 11) (d:=12) (w':=W.alloc (.cells cQ 110)) (eV (z:=.agg cQ) (by kernel_rfl) mW) (b _ _ F) ?_;exact ju (acZ _ _ _ _ _ F O A X (by omega))
 have amQ:∀(N:Nat->Prop) (W:World) (C:Array Value) (H:Nat),SB 4 (uq (aC ae (.slice (some ⟨l,q,none⟩) n z) I f al) x) M N w W b6 h ve vp vu vs vl->QO M N W (fX p x) C->NB 4 N w W b6 vp vl H 110 cQ->AU 78 az eC Q (sK w (aC ae (.slice (some ⟨l,q,none⟩) n z) I f al) x l (q+i*6) us) 13 3 (tH [0,1,2,3,4,5,6,7,8,9,11]) [(1,.string s),(5,PH (w.heap.size+1)),(6,PH (w.heap.size+2)),(7,PH (w.heap.size+3)),(9,PH b6),(10,.int .i64 ((i:Nat):Int)),(45,.agg C),(46,.agg (eY (fX p x).2)),(12,PH H)] W:=by
  intro N W C H S O B;refine CH (show Region.ready .any eC (tH [0,1,2,3,4,5,6,7,8,9,11])=[10] by kernel_rfl) ?_
  ·have y:=gh W gW 51;have hz:=eB W (.cells gW 51);obtain⟨F,X⟩:=S.alloc gW 51;have O:=O.below (N':=fun x=>N x\/x=W.heap.size) y fun x hx=>hx.imp id fun e=>by omega
   have jB:=B.b.lt;have B:=B.below (N':=fun x=>N x\/x=W.heap.size) y fun x hx=>.inl hx;refine nW (o:=opAt eC 10) (d:=11) (w':=W.alloc (.cells gW 51)) (eV (z:=.agg gW) (by kernel_rfl) Gz) (b _ _ F) ?_;exact ju (acZ _ _ _ _ _ F O X B (by omega))
 have aFP:∀(N:Nat->Prop) (W:World) (C:Array Value),SB 4 (uq (aC ae (.slice (some ⟨l,q,none⟩) n z) I f al) x) M N w W b6 h ve vp vu vs vl->QO M N W (fX p x) C->AU 78 az eC Q (sK w (aC ae (.slice (some ⟨l,q,none⟩) n z) I f al) x l (q+i*6) us) 13 4 (tH [0,1,2,3,4,5,6,7,8,9]) [(1,.string s),(5,PH (w.heap.size+1)),(6,PH (w.heap.size+2)),(7,PH (w.heap.size+3)),(9,PH b6),(10,.int .i64 ((i:Nat):Int)),(45,.agg C),(46,.agg (eY (fX p x).2))] W:=by
  intro N W C S O;refine CI (show Region.ready .any eC (tH [0,1,2,3,4,5,6,7,8,9])=[10,11] by kernel_rfl) ?_ ?_
  ·have y:=gh W gW 51;have hz:=eB W (.cells gW 51);obtain⟨F,X⟩:=S.alloc gW 51;have O:=O.below (N':=fun x=>N x\/x=W.heap.size) y fun x hx=>hx.imp id fun e=>by omega
   refine nW (o:=opAt eC 10) (d:=11) (w':=W.alloc (.cells gW 51)) (eV (z:=.agg gW) (by kernel_rfl) Gz) (b _ _ F) ?_;exact ju (amR _ _ _ _ F O X)
  ·have y:=gh W cQ 110;have hz:=eB W (.cells cQ 110);obtain⟨F,X⟩:=S.alloc cQ 110;have O:=O.below (N':=fun x=>N x\/x=W.heap.size) y fun x hx=>hx.imp id fun e=>by omega
   refine nW (o:=opAt eC 11) (d:=12) (w':=W.alloc (.cells cQ 110)) (eV (z:=.agg cQ) (by kernel_rfl) mW) (b _ _ F) ?_;exact ju (amQ _ _ _ _ F O X)
 have amP:∀(N:Nat->Prop) (W:World) (G:Nat) (H:Nat),SB 4 (uq (aC ae (.slice (some ⟨l,q,none⟩) n z) I f al) x) M N w W b6 h ve vp vu vs vl->NB 4 N w W b6 vp vl G 51 gW->NB 4 N w W b6 vp vl H 110 cQ->G≠H->AU 78 az eC Q (sK w (aC ae (.slice (some ⟨l,q,none⟩) n z) I f al) x l (q+i*6) us) 13 6 (tH [0,1,2,3,4,5,10,11]) [(1,.string s),(5,PH (w.heap.size+1)),(6,PH (w.heap.size+2)),(7,PH (w.heap.size+3)),(9,PH b6),(10,.int .i64 ((i:Nat):Int)),(42,.agg us.toArray),(43,.agg (nH x)),(11,PH G),(12,PH H)] W:=by
  intro N W G H S A B hne;refine CH (show Region.ready .any eC (tH [0,1,2,3,4,5,10,11])=[6] by kernel_rfl) ?_
  ·refine xX (o:=opAt eC 6) (d:=44) (pL (cl:=zC (opAt eC 6)) (args:=#[.agg us.toArray,.agg (nH x)]) (by kernel_rfl) (by kernel_rfl) (by kernel_rfl) rfl) (aG.calls (Ja p x hc hl J3) S.H.cF (vs:=[.agg us.toArray,.agg (nH x)]) ⟨_,_,rfl,S.kp nO,_,[],rfl,S.kp hx,rfl⟩) ?_;rintro _ W' ⟨vq,rfl,hq,y⟩;obtain⟨C,rfl,V,Y,Z⟩:=DV hq;have S:=S.below y;have A:=A.below y fun x hx=>hx;have B:=B.below y fun x hx=>hx;refine⟨_,rfl,b _ _ S,?_⟩;refine iE (o:=opAt eC 7) (d:=37) 7 U (fun W J=>aI (x:=.tmp 44) (ho:=(by kernel_rfl))) (b _ _ S) ?_;refine iE (o:=opAt eC 8) (d:=45) 8 U (fun W J=>eA (x:=.tmp 37) (i:=0) (ho:=(by kernel_rfl))) (b _ _ S) ?_;refine iE (o:=opAt eC 9) (d:=46) 9 U (fun W J=>eA (x:=.tmp 37) (i:=1) (ho:=(by kernel_rfl))) (b _ _ S) ?_;exact ju (acZ _ _ _ _ _ S ⟨V,Y,Z,DZ (Vg hq)⟩ A B hne)
 have aFM:∀(N:Nat->Prop) (W:World) (G:Nat),SB 4 (uq (aC ae (.slice (some ⟨l,q,none⟩) n z) I f al) x) M N w W b6 h ve vp vu vs vl->NB 4 N w W b6 vp vl G 51 gW->AU 78 az eC Q (sK w (aC ae (.slice (some ⟨l,q,none⟩) n z) I f al) x l (q+i*6) us) 13 7 (tH [0,1,2,3,4,5,10]) [(1,.string s),(5,PH (w.heap.size+1)),(6,PH (w.heap.size+2)),(7,PH (w.heap.size+3)),(9,PH b6),(10,.int .i64 ((i:Nat):Int)),(42,.agg us.toArray),(43,.agg (nH x)),(11,PH G)] W:=by
  intro N W G S A;refine CI (show Region.ready .any eC (tH [0,1,2,3,4,5,10])=[6,11] by kernel_rfl) ?_ ?_
  ·refine xX (o:=opAt eC 6) (d:=44) (pL (cl:=zC (opAt eC 6)) (args:=#[.agg us.toArray,.agg (nH x)]) (by kernel_rfl) (by kernel_rfl) (by kernel_rfl) rfl) (aG.calls (Ja p x hc hl J3) S.H.cF (vs:=[.agg us.toArray,.agg (nH x)]) ⟨_,_,rfl,S.kp nO,_,[],rfl,S.kp hx,rfl⟩) ?_;rintro _ W' ⟨vq,rfl,hq,y⟩;obtain⟨C,rfl,V,Y,Z⟩:=DV hq;have S:=S.below y;have A:=A.below y fun x hx=>hx;refine⟨_,rfl,b _ _ S,?_⟩;refine iE (o:=opAt eC 7) (d:=37) 7 U (fun W J=>aI (x:=.tmp 44) (ho:=(by kernel_rfl))) (b _ _ S) ?_;refine iE (o:=opAt eC 8) (d:=45) 8 U (fun W J=>eA (x:=.tmp 37) (i:=0) (ho:=(by kernel_rfl))) (b _ _ S) ?_;refine iE (o:=opAt eC 9) (d:=46) 9 U (fun W J=>eA (x:=.tmp 37) (i:=1) (ho:=(by kernel_rfl))) (b _ _ S) ?_;exact ju (amR _ _ _ _ S ⟨V,Y,Z,DZ (Vg hq)⟩ A)
  ·have y:=gh W cQ 110;have hz:=eB W (.cells cQ 110);obtain⟨F,X⟩:=S.alloc cQ 110;have ha:=A.b.lt;have A:=A.below (N':=fun x=>N x\/x=W.heap.size) y fun x hx=>.inl hx;refine nW (o:=opAt eC 11) (d:=12) (w':=W.alloc (.cells cQ 110)) (eV (z:=.agg cQ) (by kernel_rfl) mW) (b _ _ F) ?_;exact ju (amP _ _ _ _ F A X (by omega))
 have aFL:∀(N:Nat->Prop) (W:World) (H:Nat),SB 4 (uq (aC ae (.slice (some ⟨l,q,none⟩) n z) I f al) x) M N w W b6 h ve vp vu vs vl->NB 4 N w W b6 vp vl H 110 cQ->AU 78 az eC Q (sK w (aC ae (.slice (some ⟨l,q,none⟩) n z) I f al) x l (q+i*6) us) 13 7 (tH [0,1,2,3,4,5,11]) [(1,.string s),(5,PH (w.heap.size+1)),(6,PH (w.heap.size+2)),(7,PH (w.heap.size+3)),(9,PH b6),(10,.int .i64 ((i:Nat):Int)),(42,.agg us.toArray),(43,.agg (nH x)),(12,PH H)] W:=by
  intro N W H S B;refine CI (show Region.ready .any eC (tH [0,1,2,3,4,5,11])=[6,10] by kernel_rfl) ?_ ?_
  ·refine xX (o:=opAt eC 6) (d:=44) (pL (cl:=zC (opAt eC 6)) (args:=#[.agg us.toArray,.agg (nH x)]) (by kernel_rfl) (by kernel_rfl) (by kernel_rfl) rfl) (aG.calls (Ja p x hc hl J3) S.H.cF (vs:=[.agg us.toArray,.agg (nH x)]) ⟨_,_,rfl,S.kp nO,_,[],rfl,S.kp hx,rfl⟩) ?_;rintro _ W' ⟨vq,rfl,hq,y⟩;obtain⟨C,rfl,V,Y,Z⟩:=DV hq;have S:=S.below y;have B:=B.below y fun x hx=>hx;refine⟨_,rfl,b _ _ S,?_⟩;refine iE (o:=opAt eC 7) (d:=37) 7 U (fun W J=>aI (x:=.tmp 44) (ho:=(by kernel_rfl))) (b _ _ S) ?_;refine iE (o:=opAt eC 8) (d:=45) 8 U (fun W J=>eA (x:=.tmp 37) (i:=0) (ho:=(by kernel_rfl))) (b _ _ S) ?_;refine iE (o:=opAt eC 9) (d:=46) 9 U (fun W J=>eA (x:=.tmp 37) (i:=1) (ho:=(by kernel_rfl))) (b _ _ S) ?_;exact ju (amQ _ _ _ _ S ⟨V,Y,Z,DZ (Vg hq)⟩ B)
  ·have y:=gh W gW 51;have hz:=eB W (.cells gW 51);obtain⟨F,X⟩:=S.alloc gW 51;have jB:=B.b.lt;have B:=B.below (N':=fun x=>N x\/x=W.heap.size) y fun x hx=>.inl hx;refine nW (o:=opAt eC 10) (d:=11) (w':=W.alloc (.cells gW 51)) (eV (z:=.agg gW) (by kernel_rfl) Gz) (b _ _ F) ?_;exact ju (amP _ _ _ _ F X B (by omega))
 have aFK:∀(N:Nat->Prop) (W:World),SB 4 (uq (aC ae (.slice (some ⟨l,q,none⟩) n z) I f al) x) M N w W b6 h ve vp vu vs vl->AU 78 az eC Q (sK w (aC ae (.slice (some ⟨l,q,none⟩) n z) I f al) x l (q+i*6) us) 13 8 (tH [0,1,2,3,4,5]) [(1,.string s),(5,PH (w.heap.size+1)),(6,PH (w.heap.size+2)),(7,PH (w.heap.size+3)),(9,PH b6),(10,.int .i64 ((i:Nat):Int)),(42,.agg us.toArray),(43,.agg (nH x))] W:=by
  intro N W S;refine aun (show Region.ready .any eC (tH [0,1,2,3,4,5])=[6,10,11] by kernel_rfl) ?_ ?_ ?_
  ·refine xX (o:=opAt eC 6) (d:=44) (pL (cl:=zC (opAt eC 6)) (args:=#[.agg us.toArray,.agg (nH x)]) (by kernel_rfl) (by kernel_rfl) (by kernel_rfl) rfl) (aG.calls (Ja p x hc hl J3) S.H.cF (vs:=[.agg us.toArray,.agg (nH x)]) ⟨_,_,rfl,S.kp nO,_,[],rfl,S.kp hx,rfl⟩) ?_;rintro _ W' ⟨vq,rfl,hq,y⟩;obtain⟨C,rfl,V,Y,Z⟩:=DV hq;have S:=S.below y;refine⟨_,rfl,b _ _ S,?_⟩;refine iE (o:=opAt eC 7) (d:=37) 7 U (fun W J=>aI (x:=.tmp 44) (ho:=(by kernel_rfl))) (b _ _ S) ?_;refine iE (o:=opAt eC 8) (d:=45) 8 U (fun W J=>eA (x:=.tmp 37) (i:=0) (ho:=(by kernel_rfl))) (b _ _ S) ?_;refine iE (o:=opAt eC 9) (d:=46) 9 U (fun W J=>eA (x:=.tmp 37) (i:=1) (ho:=(by kernel_rfl))) (b _ _ S) ?_;exact ju (aFP _ _ _ S ⟨V,Y,Z,DZ (Vg hq)⟩)
  ·have y:=gh W gW 51;have hz:=eB W (.cells gW 51);obtain⟨F,X⟩:=S.alloc gW 51;refine nW (o:=opAt eC 10) (d:=11) (w':=W.alloc (.cells gW 51)) (eV (z:=.agg gW) (by kernel_rfl) Gz) (b _ _ F) ?_;exact ju (aFM _ _ _ F X)
  ·have y:=gh W cQ 110;have hz:=eB W (.cells cQ 110);obtain⟨F,X⟩:=S.alloc cQ 110;refine nW (o:=opAt eC 11) (d:=12) (w':=W.alloc (.cells cQ 110)) (eV (z:=.agg cQ) (by kernel_rfl) mW) (b _ _ F) ?_;exact ju (aFL _ _ _ F X)
 refine iE (o:=opAt eC 0) (d:=38) 0 U (fun W J=>br (k:=1) (x:=.tmp 3) (ho:=(by kernel_rfl)) rZ) (b _ _ S) ?_;refine iE (o:=opAt eC 1) (d:=39) 1 U (fun W J=>bB (x:=.tmp 38) (ho:=(by kernel_rfl)) qf (v:=.slice (some ⟨l,q,none⟩) n z) ((J.1.1.cell 1).trans rfl)) (b _ _ S) ?_;refine iE (o:=opAt eC 2) (d:=40) 2 U (fun W J=>aI (x:=.tmp 10) (ho:=(by kernel_rfl))) (b _ _ S) ?_;refine iE (o:=opAt eC 3) (d:=41) 3 U (fun W J=>oO (x:=.tmp 39) (y:=.tmp 40) (ho:=(by kernel_rfl)) hin FR) (b _ _ S) ?_;refine iE (o:=opAt eC 4) (d:=42) 4 U (fun W J=>Ab (x:=.tmp 41) (cs:=us) (by kernel_rfl) rfl dF rfl (by rw[jO];exact l8) J.1.2) (b _ _ S) ?_;refine iE (o:=opAt eC 5) (d:=43) 5 U (fun W J=>bG (x:=.tmp 5) (ho:=(by kernel_rfl)) uf J.2 uE) (b _ _ S) ?_;exact ju (aFK _ _ S)
set_option maxHeartbeats 4000000 in
def aKp{h:Host}{s:ByteArray}(Z:dZ w M)(hv:R w M (enc h) v)(hs:s.size<=maxLen)(hx:R w M (enc x) (.agg (nH x)))(J3:x.text.size<4294967281)(hh:ny h) :
  Calls az 107 #[v,.string s,.agg (nH x)] w fun e w'=>∃r,e=.returned r/\R w' M (.aU [enc (ox h s x).1,enc (ox h s x).2.1,.bool (ox h s x).2.2]) r/\Below w.heap.size w w':=by
 obtain⟨ae,ap,au,V,al,rfl,U,X,p,has,c⟩:=Gl hv;refine oz (E:=[(0,.agg (aC ae ap au V al)),(1,.string s),(2,.agg (nH x))]) Tryz.func107 rfl Tryz.ntmps107 (by simp) (by simp) ?_;refine aO ?_;refine CV B0.nil fun _ B=> ?_;refine CV B fun _ B=> ?_;refine CU B oM fun _ B=> ?_;refine CU B mW fun c B=> ?_;refine ah bO ?_;refine bq ?_;refine bA (E':=[(1,.string s),(3,PH w.heap.size),(5,PH (w.heap.size+1)),(6,PH (w.heap.size+2)),(7,PH (w.heap.size+3))]) ?_;refine aO ?_;refine ah (bG cX B.q0 bI) ?_;refine dE (XM B Z hv hh) ?_;rintro _ l ⟨ve,vp,vu,vs,vl,rfl,one,mk⟩;refine⟨_,rfl,?_⟩;refine ah (eV rfl oM) ?_;refine bW rfl (cs:=aC ve vp vu vs vl) rfl (xG l) one bI fun z C c=> ?_;obtain⟨N,S⟩:=mk z C c;have j:SB 4 (uq (aC ae ap au V al) x) M N w z l.heap.size h ve vp vu vs vl:=S;clear mk one C c S B;refine bq ?_;refine bA (E':=[(1,.string s),(3,PH w.heap.size),(5,PH (w.heap.size+1)),(6,PH (w.heap.size+2)),(7,PH (w.heap.size+3)),(9,PH l.heap.size)]) ?_;refine CW.seq (aO ?_);refine ah (bG cX j.b0 bI) ?_;refine ah aI ?_;refine dE (j.ask (MI h s hh) ⟨_,_,rfl,j.kp hv,_,[],rfl,⟨rfl,hs⟩,rfl⟩) ?_;rintro _ z ⟨rfl,c⟩;refine⟨_,rfl,?_⟩;clear j;refine ah rp ?_;refine ah aI ?_;rcases J:gV h s with _|_
 ·refine fL (b:=true) ?_;refine fL (b:=true) ?_;refine fL (b:=true) ?_;refine ah (ru rfl rfl rfl) ?_;refine WL.nil (aM (eG ?_));refine aO ?_;refine ah (bG cX c.q6 bI) ?_;refine ah (kI (vs:=[(0,.int .i64 7)]) (Mw 7)) ?_;refine bW rfl (cs:=aC ve vp vu vs vl) rfl c.b2 c.one bI fun z z4 H=> ?_;have z5:=(H.block (w.heap.size+3) (by omega)).trans c.b3;refine bW rfl (cs:=#[.int .i64 7,.int .i64 0,.string ⟨#[]⟩,.int .i64 0,.int .i64 0]) rfl z5 (by decide) cw fun C y5 I=> ?_;refine ah bO ?_;have y4:=(I.block (w.heap.size+2) (by omega)).trans z4;obtain⟨hr,F⟩:=c.out Z (by decide) (by decide) H I;have hd:ox h s x=(h,rep 7 0 0 0,false):=by unfold ox;rw[aD (.inl J)]
  refine WL.nil (aM (CW.ret (NX.ret (rK rfl rfl y4 y5 cX gC bI cw ⟨_,rfl,?_,F⟩))));rw[hd];exact⟨_,rfl,_,_,rfl,hr,_,_,rfl,Ac (by decide) (by decide),_,_,rfl,rfl,rfl⟩
 refine iL (b:=false) (bG uf c.b1 uE) ?_;refine CX (b:=false) (c.ask (Sx x) ⟨_,[],rfl,c.kp hx,rfl⟩) ?_;rintro _ G ⟨rfl,j⟩;refine⟨_,rfl,?_⟩;clear c;refine iL (b:=false) rp ?_;refine ah (sD rfl rfl rfl) ?_;refine bq ?_;rcases TJ:gy x with _|_
 ·refine eG ?_;refine aO ?_;refine ah (bG cX j.q6 bI) ?_;refine ah (kI (vs:=[(0,.int .i64 7)]) (Mw 7)) ?_;refine bW rfl (cs:=aC ve vp vu vs vl) rfl j.b2 j.one bI fun z z4 H=> ?_;have z5:=(H.block (w.heap.size+3) (by omega)).trans j.b3;refine bW rfl (cs:=#[.int .i64 7,.int .i64 0,.string ⟨#[]⟩,.int .i64 0,.int .i64 0]) rfl z5 (by decide) cw fun C y5 I=> ?_;refine ah bO ?_;have y4:=(I.block (w.heap.size+2) (by omega)).trans z4;obtain⟨hr,F⟩:=j.out Z (by decide) (by decide) H I;have hd:ox h s x=(h,rep 7 0 0 0,false):=by unfold ox;rw[aD (.inr TJ)]
  refine WL.nil (aM (CW.ret (NX.ret (rK rfl rfl y4 y5 cX gC bI cw ⟨_,rfl,?_,F⟩))));rw[hd];exact⟨_,rfl,_,_,rfl,hr,_,_,rfl,Ac (by decide) (by decide),_,_,rfl,rfl,rfl⟩
 refine CW.no (CW.skip (aM ?_));refine bA (E':=[(1,.string s),(3,PH w.heap.size),(5,PH (w.heap.size+1)),(6,PH (w.heap.size+2)),(7,PH (w.heap.size+3)),(9,PH l.heap.size)]) ?_;refine CW.seq (aO ?_);refine ah (br qi) ?_;refine ah (bB fz (v:=au) ((j.b0.cell 2).trans rfl)) ?_;refine ah aI ?_;refine dE (j.ask (nE h.up s) ⟨_,_,rfl,j.kp p,_,[],rfl,⟨rfl,hs⟩,rfl⟩) ?_;rintro _ p ⟨rfl,c⟩;refine⟨_,rfl,?_⟩;clear j;refine ah rp ?_;refine bq ?_;rcases nR:hasB h.up s with _|_
 ·refine eG ?_;refine aO ?_;refine ah (bG cX c.q6 bI) ?_;refine ah (kI (vs:=[(0,.int .i64 2)]) (Mw 2)) ?_;refine bW rfl (cs:=aC ve vp vu vs vl) rfl c.b2 c.one bI fun z z4 H=> ?_;have z5:=(H.block (w.heap.size+3) (by omega)).trans c.b3;refine bW rfl (cs:=#[.int .i64 2,.int .i64 0,.string ⟨#[]⟩,.int .i64 0,.int .i64 0]) rfl z5 (by decide) cw fun C y5 I=> ?_;refine ah bO ?_;have y4:=(I.block (w.heap.size+2) (by omega)).trans z4;obtain⟨hr,F⟩:=c.out Z (by decide) (by decide) H I;have hd:ox h s x=(h,rep 2 0 0 0,false):=by unfold ox;rw[aw (by rw[J,TJ];simp),aD nR]
  refine WL.nil (aM (CW.ret (NX.ret (rK rfl rfl y4 y5 cX gC bI cw ⟨_,rfl,?_,F⟩))));rw[hd];exact⟨_,rfl,_,_,rfl,hr,_,_,rfl,Ac (by decide) (by decide),_,_,rfl,rfl,rfl⟩
 refine CW.no (CW.skip (aM ?_));refine bA (E':=[(1,.string s),(3,PH w.heap.size),(5,PH (w.heap.size+1)),(6,PH (w.heap.size+2)),(7,PH (w.heap.size+3)),(9,PH l.heap.size)]) ?_;have hO:uS h:=DC.1 (by unfold gV at J;simp only[aY]at J;exact J.1.1);have j:h.log.length<24:=by unfold gV at J;simp only[aY,dr]at J;exact J.2
 have C:0<=cN h.entries s:=by unfold gV at J;simp only[aY,qH,qK]at J;have:=J.1.2;omega
 have j:cN h.entries s=((cD h s:Nat):Int):=(IA C).symm;have hi:cD h s<h.parts.length:=by obtain⟨i,h1,h2,_⟩:=vK C;unfold cD;rw[h1,hO.len];simpa using h2
 have z:=tA hO _ (gF hi);have G:=B6 z;obtain⟨i,hid⟩:∃i,cD h s=i:=⟨_,rfl⟩;rw[hid]at j hi G z;obtain⟨p,xu⟩:∃p,nth h.parts i=p:=⟨_,rfl⟩;rw[xu]at G z;refine aO ?_;refine ah (br rY) ?_;refine ah (bB pj (v:=ae) ((c.b0.cell 0).trans rfl)) ?_;refine ah aI ?_;refine dE (aG.calls (qM h.entries s) c.H.cF (vs:=[ae,.string s]) ⟨_,_,rfl,c.kp U,_,[],rfl,⟨rfl,hs⟩,rfl⟩) ?_;rintro _ w7 ⟨_,rfl,Y,U⟩;obtain⟨rfl, -⟩:=Y;rw[j];refine⟨_,rfl,?_⟩;have Y:=c.below U;clear c U;refine ah bO ?_;refine bq ?_;refine bA (E':=[(1,.string s),(3,PH w.heap.size),(5,PH (w.heap.size+1)),(6,PH (w.heap.size+2)),(7,PH (w.heap.size+3)),(9,PH l.heap.size),(10,.int .i64 ((i:Nat):Int))]) ?_;obtain⟨U,ac,c,_,j⟩:=mQ (mI (n:=6) (fun _=>rfl) h.parts) X;rw[dq]at c;subst c;obtain⟨pb,po,us,rfl,jO,U,X⟩:=j i _ (get_map h.parts hi);rw[xu]at U;refine CW.seq (CW.any (sK w (aC ae (.slice (some ⟨pb,po,none⟩) h.parts.length ac) au V al) x pb (po+i*6) us) 13 mo fun wd hwd c=>⟨⟨⟨(Y.below c).b0,fun j u hu=>by
  have hc:w.cell? ((⟨pb,po+i*6,none⟩:Addr).add j)=some u:=by rw[tY];exact X j u hu
  rw[(Y.below c).bw.cell (gf hc)];exact hc⟩,(Y.below c).b1⟩,?_⟩)
 refine aFj (fun _ _ t _ _ h=>by cases t<;>exact h) Z ⟨_,rfl,U⟩ jO (fun j u hu=>by rw[tY];exact X j u hu) hx J3 (by have:=G.1;omega) (by have:=G.2;omega) hi (fun N W qs g8 U S O A B G=> ?_) _ wd (Y.below c);clear Y c;obtain⟨q,X⟩:∃q,fX p x=q:=⟨_,rfl⟩;have hqp:dw q.1=true:=by rw[<-X];exact(MK z x).1
 rw[X]at O B;have oK:=O.v;refine aM ?_;refine CW.seq (aO ?_);refine ah (br FY) ?_;refine ah (bB kS (v:=.int .i64 q.2.code) ((B.b.cell 0).trans rfl)) ?_;by_cases p:q.2.code=1
 ·refine ah (iB (b:=true) (hb:=by simp[bg,p])) ?_;refine WL.nil (aM (eG ?_));refine bA (E':=[(6,PH (w.heap.size+2)),(7,PH (w.heap.size+3)),(9,PH l.heap.size),(12,PH U)]) ?_;have aAZ:=B.lo;refine CW.seq (CW.any (fun W=>aA W l.heap.size 29 (aC ve vp vu vs vl)/\aA W U 110 (eY q.2)) 4 mo fun wl hwd c=>⟨⟨S.q6.below c S.q6.lt,B.b.below c B.b.lt⟩,?_⟩);have G:=S.below c;have l9:=B.b.below c B.b.lt;clear c;refine aX 0 rfl (fun W hW=>bG cX hW.1 bI) ⟨G.q6,l9⟩ ?_;refine aX 1 rfl (fun W hW=>bG gC hW.2 cw) ⟨G.q6,l9⟩ ?_;have hlo:=G.lo;refine iK 2 rfl (cs:=aC ve vp vu vs vl) rfl G.b2 G.one bI (fun W o _=>⟨(o.block _ (by omega)).trans G.q6,(o.block _ (by omega)).trans l9⟩) fun wm z4 H=> ?_;have z5:=(H.block (w.heap.size+3) (by omega)).trans G.b3;have zs:∀W,bU wm W (w.heap.size+3)->aA W l.heap.size 29 (aC ve vp vu vs vl)/\aA W U 110 (eY q.2):=fun W o=>⟨((o.block _ (by omega)).trans (H.block _ (by omega))).trans G.q6,((o.block _ (by omega)).trans (H.block _ (by omega))).trans l9⟩;refine iK 3 rfl (cs:=eY q.2) rfl z5 (OH _) cw (fun W o _=>zs W o) fun wn y5 I=> ?_;have y4:=(I.block (w.heap.size+2) (by omega)).trans z4;refine gI 4 rfl bO (fun h=>absurd rfl h) ?_;obtain⟨hr,F⟩:=G.out Z (by decide) (by decide) H I;refine ij (by kernel_rfl) (aM (CW.ret (NX.ret (rK rfl rfl y4 y5 cX gC bI cw ⟨_,rfl,?_,F⟩))));have hd:ox h s x=(h,q.2,false):=by unfold ox;rw[aw (by rw[J,TJ];simp),aw (by rw[nR];simp)];simp only[hid,xu,X];rw[aD p]
  rw[hd];exact⟨_,rfl,_,_,rfl,hr,_,_,rfl,oK _ _,_,_,rfl,rfl,rfl⟩
 refine ah (iB (b:=false) (hb:=by simp[bg,p])) ?_;refine WL.nil (aM (CW.no (CW.skip (aM ?_))));refine bA (E':=[(1,.string s),(5,PH (w.heap.size+1)),(6,PH (w.heap.size+2)),(7,PH (w.heap.size+3)),(9,PH l.heap.size),(10,.int .i64 ((i:Nat):Int)),(11,PH g8),(12,PH U)]) ?_;have z:(h.parts.map (aB.cells (α:=Part))).length=h.parts.length:=dq _;obtain⟨b,cap,_,Y,_⟩:=S.H.p.row (get_map h.parts hi);rw[z]at Y;subst Y;have Bq:Rs W (BM M N) (aB.cells q.1) qs.toList:=by obtain⟨cs,e,hR⟩:=O.r;cases e;exact hR
 refine aO ?_;refine ah (br rZ) ?_;refine ah (bB qf (v:=.slice (some ⟨b,0,none⟩) h.parts.length cap) ((S.q6.cell 1).trans rfl)) ?_;refine ah aI ?_;refine ah (bG dF A.b (by rw[O.s];exact l8)) ?_;refine ah (yS rfl rfl rfl hi FU) ?_;obtain⟨wc,hst,mV,BW⟩:=Vl (n:=78) (P:=az) (E:=[(56,.pointer (some ⟨b,i*6,none⟩)),(55,.agg qs)]) (o:=opAt (G5 Tryz.f107 10) 5) (T:=51) (x:=.tmp 56) (y:=.tmp 55) (by kernel_rfl) rfl rfl S.H.p (by rw[z];exact hi) rfl O.s O.o Bq l8;refine qG (fun a z=>hst a (z.sub ⟨rfl,rfl,trivial⟩)) ?_;have nb:∀g,¬KV (.slice (some ⟨b,0,none⟩) h.parts.length cap) vl g->g≠b:=fun g z e=>z (.inl (by rw[e];rfl));have S:=S.part mV BW;have B:=B.DT BW (nb _ B.kv);clear A O mV hst Bq;refine bq ?_;obtain⟨g,hgg⟩:∃g:Host,{h with parts:=h.parts.set i q.1}=g:=⟨_,rfl⟩;have z:g.entries=h.entries/\g.up=h.up/\g.shut=h.shut/\g.log=h.log/\g.parts=h.parts.set i q.1:=by rw[<-hgg];exact⟨rfl,rfl,rfl,rfl,rfl⟩
 rw[hgg]at S;obtain⟨vp,Y⟩:∃vp:Value,.slice (some ⟨b,0,none⟩) h.parts.length cap=vp:=⟨_,rfl⟩;rw[Y]at S B;clear BW nb;refine bA (E':=[(1,.string s),(5,PH (w.heap.size+1)),(6,PH (w.heap.size+2)),(7,PH (w.heap.size+3)),(9,PH l.heap.size),(12,PH U)]) ?_;refine CW.seq (Qu (fun E' W=>∃(f:Host) (vu vs:Value),E'=[(1,.string s),(5,PH (w.heap.size+1)),(6,PH (w.heap.size+2)),(7,PH (w.heap.size+3)),(9,PH l.heap.size),(12,PH U)]/\f=(if q.2.code=3 then {kD g s with shut:=jc h.shut s} else g)/\f.log=h.log /\
  SB 4 (uq (aC ae (.slice (some ⟨pb,po,none⟩) h.parts.length ac) au V al) x) M N w W l.heap.size f ve vp vu vs vl/\NB 4 N w W l.heap.size vp vl U 110 (eY q.2)) ?_ ?_)
 ·refine aO ?_;refine ah (br FY) ?_;refine ah (bB kS (v:=.int .i64 q.2.code) ((B.b.cell 0).trans rfl)) ?_;by_cases Y:q.2.code=3
  rotate_left
  ·refine ah (iB (b:=false) (hb:=by simp[bg,Y])) ?_;refine WL.nil (aM (CW.no (CW.skip ?_)));exact AG ⟨g,vu,vs,rfl,by rw[aw Y],z.2.2.2.1,S,B⟩ ⟨rfl,rfl,rfl,rfl,rfl,rfl,trivial⟩
  ·refine ah (iB (b:=true) (hb:=by simp[bg,Y])) ?_;refine WL.nil (aM (eG ?_));refine bA (E':=[(1,.string s),(5,PH (w.heap.size+1)),(6,PH (w.heap.size+2)),(7,PH (w.heap.size+3)),(9,PH l.heap.size),(12,PH U)]) ?_;have l4:0<g.parts.length:=by rw[z.2.2.2.2,vc];omega
   have zP:∀y∈g.up,0<=cN g.entries y/\cD g y<g.parts.length:=fun y hy=>by rw[z.2.1]at hy;have:=KG hO y hy;unfold cD at this ⊢;rw[z.1,z.2.2.2.2,vc];exact this
   have hnl:(lL g.entries s).length<=1048576:=by
    rw[z.1];unfold lL;split
    ·split
     ·exact dV (Kg _ _) hh.el
     ·simp
    ·simp
   have hok:=JA (h:=g) (fun y hy=>by
    rw[z.2.2.2.2]at hy;rcases sY hy with h1|h1
    ·exact tA hO y h1
    ·rw[h1];exact hqp) (fun y hy=>(zP y hy).2) (jc (lL g.entries s) s)
   refine aO ?_;refine ah (bG cX S.q6 bI) ?_;refine ah aI ?_;refine dE (auc S.H S.U l4 zP hnl (fun j hj y hy=>by have:=B6 (hok j hj y hy);unfold DR at this;omega) hs (by rw[z.2.1];exact Mb hh.ul (by decide))) ?_;rintro _ wd ⟨dm,rfl,Hd,Ud,fd⟩;refine⟨_,rfl,?_⟩;have od:∀u∈(aC ve vp dm vs vl).toList,u.oneCell'=true:=fun u hu=>by have j:=S.one;have ou:dm.oneCell'=true:=mf (show R wd _ (.sl ((kD g s).up.map aB.cells)) dm from Ud);simp[aC]at hu j;obtain⟨h1,h2,_,h3,h4⟩:=j;rcases hu with rfl|rfl|rfl|rfl|rfl<;>assumption
   refine bW rfl (cs:=aC ve vp dm vs vl) rfl ((fd.block _ S.q6.lt fun hk=>(S.kv _ hk).2 rfl).trans S.q6) od bI fun we z6 j=> ?_;have Se:=S.fell Z Hd Ud fd j z6;have Be:=B.fell fd j;clear S B Hd Ud fd j z6;refine bq ?_;refine bA (E':=[(1,.string s),(5,PH (w.heap.size+1)),(6,PH (w.heap.size+2)),(7,PH (w.heap.size+3)),(9,PH l.heap.size),(12,PH U)]) ?_;have C:(kD g s).shut=h.shut:=z.2.2.1;refine CW.region ?_;refine ah (br Ds) ?_;refine ah (bB fz (v:=vs) ((Se.q6.cell 3).trans rfl)) ?_;refine ah aI ?_;refine dE (aG.calls (aG.fZ (FF h.shut s (Nat.le_of_lt hh.sl))) Se.H.cF (vs:=[vs,.string s]) ⟨_,_,rfl,(C▸Se.H.s:R we (BM M N) (ak h.shut) vs),_,[],rfl,⟨rfl,hs⟩,rfl⟩) ?_;rintro _ wf ⟨C,rfl,hvs,hbf⟩;refine⟨_,rfl,?_⟩;have j:=Se.below hbf;have Bf:=Be.below hbf fun x hx=>hx;clear Se Be hbf;have ov:C.oneCell'=true:=mf (show R wf _ (.sl ((jc h.shut s).map aB.cells)) C from hvs);refine ah (br Ds) ?_;refine qG (pM rfl rfl rfl (by kernel_rfl) ov ((j.q6.cell 3).trans rfl) (j.q6.frozen 3)) ?_;have z6:aA (wf.setCell ⟨l.heap.size,0+3,none⟩ C) l.heap.size 29 (aC ve vp dm C vl):=j.q6.xK 3 C;have wu:bU wf (wf.setCell ⟨l.heap.size,0+3,none⟩ C) l.heap.size:=(bU.refl wf l.heap.size).set (0+3) C;generalize wf.setCell ⟨l.heap.size,0+3,none⟩ C=wg at z6 wu ⊢;have Sg:SB 4 (uq (aC ae (.slice (some ⟨pb,po,none⟩) h.parts.length ac) au V al) x) M N w wg l.heap.size {kD g s with shut:=jc h.shut s} ve vp dm C vl :=
    j.box Z wu (fun x hx=>hx) (fun x hx=>hx.elim (fun e=>(j.H.p.lt x e).1) fun e=>(j.H.l.lt x e).1) j.nb j.n6 ⟨rfl,rfl⟩ j.H.e j.U hvs z6
   refine WL.nil ?_;exact AG ⟨({kD g s with shut:=jc h.shut s}:Host),dm,C,rfl,by rw[aD Y],(show(kD g s).log=h.log from z.2.2.2.1),Sg,Bf.DT wu Bf.ne⟩ ⟨rfl,rfl,rfl,rfl,rfl,rfl,trivial⟩
 clear S B;rintro E' W ⟨f,vu,vs,rfl,hf,j,S,B⟩;refine aM ?_;refine aO ?_;refine ah (br tk) ?_;refine ah (bB vz (v:=vl) ((S.q6.cell 4).trans rfl)) ?_;refine ah aI ?_;refine ah (bG uf S.b1 uE) ?_;refine ah (kI (vs:=[(0,.int .i64 3),(1,.string s),(2,.agg (nH x))]) (awK s x)) ?_;obtain⟨Y,wj,N3,z,V,x6,hk,I,C⟩:=S.lg Z (e:=⟨3,s,x,[]⟩) (azj hs hx) (by rw[j];omega);have j:=(I.block _ B.ne).trans (hk B.b fun e=>B.kv (.inr e.symm));have aAZ:=B.lo;refine ah Km ?_;refine ah (rn rfl rfl rfl z) ?_;refine ah (br tk) ?_;refine qG (pM rfl rfl rfl (by kernel_rfl) V ((x6.cell 4).trans rfl) (x6.frozen 4)) ?_;have j:aA (wj.setCell ⟨l.heap.size,0+4,none⟩ Y) U 110 (eY q.2):=j;generalize wj.setCell ⟨l.heap.size,0+4,none⟩ Y=z at C j ⊢;clear S x6 hk I B;refine bq ?_;refine bA (E':=[(6,PH (w.heap.size+2)),(7,PH (w.heap.size+3)),(9,PH l.heap.size),(12,PH U)]) ?_;refine CW.seq (CW.any (fun W=>aA W l.heap.size 29 (aC ve vp vu vs Y)/\aA W U 110 (eY q.2)) 4 mo fun wl hwd c=>⟨⟨C.q6.below c C.q6.lt,j.below c j.lt⟩,?_⟩);have G:=C.below c;have l9:=j.below c j.lt;clear c;refine aX 0 rfl (fun W hW=>bG cX hW.1 bI) ⟨G.q6,l9⟩ ?_;refine aX 1 rfl (fun W hW=>bG gC hW.2 cw) ⟨G.q6,l9⟩ ?_;have hlo:=G.lo;refine iK 2 rfl (cs:=aC ve vp vu vs Y) rfl G.b2 G.one bI (fun W o _=>⟨(o.block _ (by omega)).trans G.q6,(o.block _ (by omega)).trans l9⟩) fun wm z4 H=> ?_;have z5:=(H.block (w.heap.size+3) (by omega)).trans G.b3;have zs:∀W,bU wm W (w.heap.size+3)->aA W l.heap.size 29 (aC ve vp vu vs Y)/\aA W U 110 (eY q.2):=fun W o=>⟨((o.block _ (by omega)).trans (H.block _ (by omega))).trans G.q6,((o.block _ (by omega)).trans (H.block _ (by omega))).trans l9⟩;refine iK 3 rfl (cs:=eY q.2) rfl z5 (OH _) cw (fun W o _=>zs W o) fun wn y5 I=> ?_;have y4:=(I.block (w.heap.size+2) (by omega)).trans z4;refine gI 4 rfl bO (fun h=>absurd rfl h) ?_;obtain⟨hr,F⟩:=G.out Z (by decide) (by decide) H I;refine ij (by kernel_rfl) (aM (CW.ret (rK rfl rfl y4 y5 cX gC bI cw ⟨_,rfl,?_,F⟩)));have hd:ox h s x=(qo f ⟨3,s,x,[]⟩,q.2,true):=by unfold ox;rw[aw (by rw[J,TJ];simp),aw (by rw[nR];simp)];simp only[hid,xu,X];rw[aw p,hgg, <-hf]
 rw[hd];exact⟨_,rfl,_,_,rfl,hr,_,_,rfl,oK _ _,_,_,rfl,rfl,rfl⟩
def axR(h:Host)(s:ByteArray)(x:Call)(hx:x.text.size<4294967281)(b:ny h):aG az 107 none [enc h,.str s,enc x] (.aU [enc (ox h s x).1,enc (ox h s x).2.1,.bool (ox h s x).2.2]) [] :=
 CL (by kernel_rfl) fun w M vs G c=>by obtain⟨v,_,rfl,e,j,_,rfl,⟨rfl,f⟩,l,_,rfl,a,rfl⟩:=c;obtain⟨rfl,_⟩:=Zv a;exact aKp G e f a hx b
section
variable {n:Nat}{P:Program}{ops:Array Oper}{Q:Exit->Act->World->Prop}{S:World->Prop}{s k:Nat}{L:Array Bool}{E:List (Nat×Value)}{w w':World}{i d:Nat}{o:Oper}{v:Value}
def XU(i:Nat)(ho:ops.toList[i]? =some o)(l:Region.ready .any ops L=[i])(hg:o.guard=some (j,b))(p:(ops[j]?).bind (·.dst)=some e)(hb:lk E e=some (.bool b))(hd:o.dst=some d)(u:eQ n P E o w v w')(c:d<n)(q:i≠s->S w')(h:AU n P ops Q S s k (L.setIfInBounds i true) ((d,v)::E) w'):AU n P ops Q S s (k+1) L E w:=fun a f=>
 I2 ho l fun x t=>by rw[aD (XN f hg p hb)];unfold Oper.wp;rw[u a f,Mc,hd];exact t _ _ q fun _=>h _ (f.put c v)
def AU.no(i:Nat)(ho:ops.toList[i]? =some o)(l:Region.ready .any ops L=[i])(hg:o.guard=some (j,!b))(p:(ops[j]?).bind (·.dst)=some e)(hb:lk E e=some (.bool b))(hd:o.dst=some d)(c:d<n)(q:i≠s->S w)(h:AU n P ops Q S s k (L.setIfInBounds i true) ((d,undef)::E) w):AU n P ops Q S s (k+1) L E w:=fun a f=>
 I2 ho l fun u t=>by rw[aw (by rw[aug f hg p hb];simp),hd];exact t _ _ q fun _=>h _ (f.put c undef)
def aum{f:FuncId}{args:Array Value}{R:Ending->World->Prop}(i:Nat)(ho:ops.toList[i]? =some o)(p:Region.ready .any ops L=[i])(hg:o.guard=some (j,b))(q:(ops[j]?).bind (·.dst)=some e)(hb:lk E e=some (.bool b))(hd:o.dst=some d)(u:zr n P E o w f args)(c:d<n)(hC:Calls P f args w R)
  (h:∀e w',R e w'->∃v,e=.returned v/\(i≠s->S w')/\AU n P ops Q S s k (L.setIfInBounds i true) ((d,v)::E) w'):AU n P ops Q S s (k+1) L E w:=fun a l=>
 I2 ho p fun A t=>by rw[aD (XN l hg q hb)];unfold Oper.wp;rw[u a l];refine hC.mono fun e w' x=> ?_;obtain⟨v,rfl,y,z⟩:=h e w' x;rw[hd];exact t _ _ y fun _=>z _ (l.put c v)
def aE1{T e:TypeId}{i:TypeInfo}{x:Operand}{u0 u1 u2 u3 u4 z0 z1 z2 z3 z4:Value}(ho:o.op=.buildSlice T 1 #[(0,x)])(hx:ev E x=some (.agg #[u0,u1,u2,u3,u4]))(hT:P.underlying T=some (.slice e))(hi:P.info? e=some i)(hsz:i.size=5)(hz:i.zero=some (.agg #[z0,z1,z2,z3,z4])) :
  eQ n P E o w (.slice (some ⟨w.heap.size,0,none⟩) 1 1) (w.alloc (.cells #[u0,u1,u2,u3,u4] e)):=fun a hE=>by
 have hr:Array.range 5=#[0,1,2,3,4]:=by decide
 simp[execOp,ho,hE.ev hx,Instr.buildSlice,run_underlying hT,run_sizeOf hi,hsz,zeroValue,run_typeInfo hi,hz,Value.cells,Instr.fill,newRow,hr]
def aE0{T e:TypeId}{i:TypeInfo}{z0 z1 z2 z3 z4:Value}(ho:o.op=.buildSlice T 0 #[])(hT:P.underlying T=some (.slice e))(hi:P.info? e=some i)(hsz:i.size=5)(hz:i.zero=some (.agg #[z0,z1,z2,z3,z4])) :
  eQ n P E o w (.slice (some ⟨w.heap.size,0,none⟩) 0 0) (w.alloc (.cells #[] e)):=fun a hE=>by
 have hr:Array.range 0=#[]:=by decide
 simp[execOp,ho,Instr.buildSlice,run_underlying hT,run_sizeOf hi,hsz,zeroValue,run_typeInfo hi,hz,Value.cells,Instr.fill,newRow,hr]
end
section
variable {M:Addr->Prop}{N N':Nat->Prop}{w w':World}{T m:Nat}{rows:List (List D)}{v:Value}
def OR.aET{b cap i:Nat}{r:List D}{d:D}(h:OR M N w T m rows (.slice (some ⟨b,0,none⟩) rows.length cap))(B:rows[i]? =some r)(hj:j<m)(p:v.oneCell'=true)(hR:R w (BM M N) d v):OR M N (w.setCell ⟨b,i*m+j,none⟩ v) T m (rows.set i (r.set j d)) (.slice (some ⟨b,0,none⟩) rows.length cap)/\bU w (w.setCell ⟨b,i*m+j,none⟩ v) b/\(∃u,w.cell? ⟨b,i*m+j,none⟩=some u)/\w.frozen? ⟨b,i*m+j,none⟩=false:=by
 have C:N b:=(h.lt b rfl).1;have F:=(db.1 B).1;obtain⟨G,X,t,U,Y⟩:=h;obtain⟨a,⟨z,c⟩|⟨l,Z,f,z,V,p2,J,p4,O,p6⟩⟩:=t
 ·cases z
 simp only[fA,aS,kB,yd,wW]at z;obtain⟨rfl,rfl⟩:=z;have H:X.length=rows.length*m:=a;have a:i*m+m<=rows.length*m:=by have:(i+1)*m<=rows.length*m:=mr _ (by omega);rw[iG,oo]at this;exact this
 have a:rows.length*m<=f.size:=by rw[O];exact mr _ J
 have x:aA w b T f:=p2;have y:=x.xK (i*m+j) v;have t:bU w (w.setCell ⟨b,i*m+j,none⟩ v) b:=(bU.refl w b).set (i*m+j) v;have kp:bR w (BM M N) (w.setCell ⟨b,i*m+j,none⟩ v) (BM M N):=BM.one t C;have I:=G r (jx B);refine⟨⟨fun q Z=> ?_,X.set (i*m+j) v,?_,U,fun l A z C c a=> ?_⟩,t,?_,x.frozen _⟩
 ·rcases sY Z with h|h
  ·exact G q h
  ·rw[h,vc];exact I
 ·rw[vc];refine⟨by rw[vc];exact H,.inr ⟨b,cap,_,rfl,V,y,J,p4,by rw[Array.size_setIfInBounds];exact O,?_⟩⟩;rw[agb,List.take_set,p6]
 ·by_cases e:l=i
  ·subst e;rw[QN F]at c;cases c;by_cases t:A=j
   ·subst t;rw[QN (by omega)]at a;cases a;exact⟨v,by rw[QN (by omega)],p,R.keep kp _ _ hR⟩
   ·rw[ID (fun h=>t h.symm)]at a;obtain⟨u,J,O,U⟩:=Y l A r C B a;exact⟨u,by rw[ID (by omega)];exact J,O,R.keep kp _ _ U⟩
  ·rw[ID (fun h=>e h.symm)]at c;obtain⟨u,J,O,U⟩:=Y l A z C c a;have t:A<m:=by rw[<-G z (jx c)];exact(db.1 a).1
   refine⟨u,?_,O,R.keep kp _ _ U⟩;rw[ID]
   ·exact J
   ·rcases dO l i with V|a
    ·have:(l+1)*m<=i*m:=mr _ V;rw[iG,oo]at this;omega
    ·have:(i+1)*m<=l*m:=mr _ (by omega);rw[iG,oo]at this;omega
 ·have a:i*m+j<f.size:=by omega
  exact⟨f[i*m+j],by unfold World.cell?;simp only[p2];simp[a]⟩
end
def Ib:Array Value:=#[.string ⟨#[]⟩,aN,.int .i64 0,.int .i64 0,aN]
def aCc:(az.info? 42).bind (·.zero)=some (.agg Ib):=by kernel_rfl
def abT:(az.info? 42).map (·.size)=some 5:=by kernel_rfl
def ahT{e:Entry}(h:R w M (enc e) v):∃S1 S2,v=.agg #[.string e.name,S1,.int .i64 e.jT.mH,.int .i64 e.jT.min,S2]/\R w M (ak e.recipe) S1/\R w M (ak e.needs) S2:=by
 obtain⟨cs,rfl,v0,r0,a,⟨rfl,f⟩,v1,r1,rfl,b,j,r2,rfl,⟨rfl,l⟩,p,r3,rfl,⟨rfl,q⟩,v4,r4,rfl,c,rfl⟩:=h;have:cs=#[.string e.name,v1,.int .i64 e.jT.mH,.int .i64 e.jT.min,v4]:=by rw[<-iT,a]
 exact⟨v1,v4,by rw[this],b,c⟩
structure CE(M:Addr->Prop)(N0 N:Nat->Prop)(w W:World)(l:List Entry)(k:Nat)(v:Value):Prop where
 bw:Below w.heap.size w W
 n1:∀x,N0 x->N x
 n2:∀x,N x->N0 x\/w.heap.size<=x
 n3:∀x,N x->x<W.heap.size
 o:OR M N W 42 5 ((l.take k).map aB.cells) v
 ow:∀x,v.ownBlock=some x->w.heap.size<=x
def CE.below{a:Nat->Prop}{l:List Entry}{k:Nat}(C:CE M a N w W l k v)(hb:Below W.heap.size W W'):CE M a N w W' l k v :=
 {C with bw:=bt C.bw hb,n3:=fun x h=>ek (C.n3 x h) hb.size,o:=C.o.below hb (fun x h=>.inl h) fun x h=>h}
set_option maxHeartbeats 4000000 in
def aKo{M:Addr->Prop}{N0:Nat->Prop}{w:World}{l:List Entry}{v:Value}(hG:dZ w (BM M N0))(h:R w (BM M N0) (ak l) v)(hl:l.length<=1048576)(hf:∀e∈l,e.fit) :
  Calls az 52 #[v] w fun e w'=>∃N v',e=.returned v'/\CE M N0 N w w' l l.length v':=by
 obtain⟨a,cap,hv,_,hel⟩:=mQ (mI (n:=5) (fun _=>rfl) l) h;rw[dq]at hv;subst hv;obtain⟨ti,aK,hz,hsz,hby⟩:=vD (P:=az) (e:=42) (z:=.agg #[.string ⟨#[]⟩,aN,.int .i64 0,.int .i64 0,aN]) (size:=5) (bytes:=80) (by kernel_rfl);refine oz (E:=[(0,.slice a l.length cap)]) Tryz.func52 rfl Tryz.ntmps52 (by simp) (by simp) ?_;refine aO ?_;refine ah bO ?_;refine bq ?_;refine aO ?_;refine ah (aE0 rfl pj aK hsz hz) ?_;refine ah bO ?_;have JL:=gh w #[] 42;have hzz:(w.alloc (.cells #[] 42)).heap.size=w.heap.size+1:=eB _ _;have ow:(w.alloc (.cells #[] 42)).ownsRow 0 42 5 (.slice (some ⟨w.heap.size,0,none⟩) 0 0) 0 []:=⟨rfl,.inr ⟨w.heap.size,0,#[],rfl,fO _,vB w _,bK _,fO _,rfl,rfl⟩⟩;have C0:CE M N0 (fun x=>N0 x\/x=w.heap.size) w (w.alloc (.cells #[] 42)) l 0 (.slice (some ⟨w.heap.size,0,none⟩) 0 0) :=
  ⟨JL,fun x hx=>.inl hx,fun x hx=>hx.imp id fun e=>by omega,fun x hx=>by
   rcases hx with hx|hx
   ·have:x<w.heap.size:=hG.1 ⟨x,0,none⟩ (.inr hx);omega
   ·omega,⟨fun r hr=>by simp at hr,[],ow,fun x hx=>by cases hx;exact .inr rfl,fun i j r d hi=>by simp at hi⟩,fun x hx=>by cases hx;exact bK _⟩
 generalize w.alloc (.cells #[] 42)=wd at JL hzz ow C0 ⊢;refine bq ?_;refine CW.seq (aO ?_);refine ah aI ?_;refine ah (Aa rfl rfl rfl rfl pj rfl) ?_;refine ah aI ?_;refine bq ?_;refine bA (E':=[(7,.slice a l.length cap),(8,.int .i64 (l.length:Int)),(9,.int .i64 ((0:Nat):Int)),(3,.slice (some ⟨w.heap.size,0,none⟩) 0 0)]) ?_;refine CW.block (CW.loop (fun m E' wr=>∃(k:Nat) (N:Nat->Prop) (v:Value),m+k=l.length/\E'=[(7,.slice a l.length cap),(8,.int .i64 (l.length:Int)),(9,.int .i64 (k:Int)),(3,v)]/\CE M N0 N w wr l k v) l.length ⟨0,_,_,rfl,rfl,C0⟩ ?_);clear C0 ow JL hzz;rintro m E' wr ⟨k,N,v,hmk,rfl,C⟩;refine aO ?_;rcases ue m with hm0|hm0
 ·subst hm0;obtain rfl:k=l.length:=by omega
  refine ah (iB (b:=false) (hb:=by simp[bg])) ?_;refine WL.nil (aM (CW.seq (CW.no (CW.exit (rM (rM (CO (aM ?_))))))));refine aO ?_;refine ah aI ?_;refine ah bO ?_;refine WL.nil (aM (CW.ret ?_));exact LM rfl rfl ⟨N,v,rfl,C⟩
 obtain⟨m',rfl⟩:∃m',m=m'+1:=⟨m-1,by omega⟩;have hk:k<l.length:=by omega
 refine ah (iB (b:=true) (hb:=by simp[bg];omega)) ?_;refine WL.nil (aM (CW.seq (eG (CW.skip (aM ?_)))));obtain⟨eb,eo,us,rfl,jO,lW,hcell⟩:=hel k _ (get_map l hk);obtain⟨e,he⟩:∃e,nth l k=e:=⟨_,rfl⟩;have hef:e.fit:=by rw[<-he];exact hf _ (gF hk)
 rw[he]at lW;have nO:R w (BM M N0) (enc e) (.agg us.toArray):=⟨_,rfl,lW⟩;refine CW.seq (CW.block ?_);refine aO ?_;refine ah (oO hk Ti) ?_;refine ah (Ab (cs:=us) rfl rfl Tryz.underlying42 rfl (by rw[jO];exact abT) fun j u hu=>by rw[tY];have hc:=hcell j u hu;rw[C.bw.cell (gf hc)];exact hc) ?_
 refine ah (eV rfl aCc) ?_;have fY:=gh wr Ib 42;have hzA:=eB wr (.cells Ib 42);have sA:aA (wr.alloc (.cells Ib 42)) wr.heap.size 42 Ib:=aA.new wr _ _;change WL _ _ _ _ _ _ (wr.alloc (.cells Ib 42));generalize wr.alloc (.cells Ib 42)=wa at fY hzA sA ⊢;have aBc:∀u∈us.toArray.toList,u.oneCell'=true:=by
  obtain⟨S1,S2,e1,h1,h2⟩:=ahT nO;have e1:us.toArray=#[.string e.name,S1,.int .i64 e.jT.mH,.int .i64 e.jT.min,S2]:=by injection e1
  rw[e1];intro u hu;simp at hu;rcases hu with rfl|rfl|rfl|rfl|rfl
  ·rfl
  ·exact mf (show R w _ (.sl (e.recipe.map aB.cells)) _ from h1)
  ·rfl
  ·rfl
  ·exact mf (show R w _ (.sl (e.needs.map aB.cells)) _ from h2)
 refine bW rfl (cs:=us.toArray) rfl sA (hC:=(show(5:Nat)=us.length from jO.symm)) aBc (by rw[List.size_toArray,jO];exact abT) fun wb tB DQ=> ?_;have C1:CE M N0 (fun x=>N x\/x=wr.heap.size) w wb l k v :=
  have qU:=bt C.bw fY;have hsw:=C.bw.size
  ⟨⟨DQ.os.trans qU.os,DQ.tape.trans qU.tape,DQ.output.trans qU.output,by rw[DQ.size];exact qU.size,fun i hi=>(DQ.block i (by omega)).trans (qU.block i hi)⟩,fun x hx=>.inl (C.n1 x hx),fun x hx=>hx.elim (C.n2 x) fun e=>.inr (by omega),fun x hx=>by
   rw[DQ.size];rcases hx with hx|hx
   ·have:=C.n3 x hx;omega
   ·omega,(C.o.below fY (N':=fun x=>N x\/x=wr.heap.size) (fun x hx=>hx.imp id fun e=>by omega) fun x hx=>.inl hx).one DQ (.inr rfl) fun e=>by have:=(C.o.lt _ e).2;omega,C.ow⟩
 have cF:∀{N:Nat->Prop} {W:World} {k:Nat} {v:Value},CE M N0 N w W l k v->dZ W (BM M N):=fun C=>⟨fun q hq=>hq.elim (fun hq=>ek (hG.1 q (.inl hq)) C.bw.size) (C.n3 _),hG.2.1.keep fun k hk=>C.bw.block k (ek hk hG.2.2),dV hG.2.2 C.bw.size⟩;have J1:v.ownBlock≠some wr.heap.size:=fun e=>by have:=(C.o.lt _ e).2;omega
 clear C fY hzA sA DQ;refine bq ?_;refine CW.region ?_;refine ah aI ?_;refine ah (bG Tryz.underlying42 tB (by rw[List.size_toArray,jO];exact abT)) ?_;refine dE (aG.calls (aG.fZ (ag9 e hef)) (cF C1) (vs:=[.agg us.toArray]) ⟨_,[],rfl,dH nO C1.bw C1.n2,rfl⟩) ?_;rintro _ wc ⟨cv,rfl,hcv,hbc⟩;obtain⟨S1,S2,rfl,h1,h2⟩:=ahT hcv;refine⟨_,rfl,?_⟩;have C2:=C1.below hbc;clear C1 hbc tB;refine ah (aE1 rfl rfl pj aK hsz hz) ?_;obtain⟨xs,hxs⟩:∃xs:List Value,xs=[.string e.name,S1,.int .i64 e.jT.mH,.int .i64 e.jT.min,S2]:=⟨_,rfl⟩;rw[show(#[.string e.name,S1,.int .i64 e.jT.mH,.int .i64 e.jT.min,S2]:Array Value)=xs.toArray by rw[hxs]]at hcv ⊢;have hxl:xs.length=5:=by rw[hxs];rfl
 have aBd:∀u∈xs,u.oneCell'=true:=by
  rw[hxs];intro u hu;simp at hu;rcases hu with rfl|rfl|rfl|rfl|rfl
  ·rfl
  ·exact mf (show R wc _ (.sl (e.recipe.map aB.cells)) _ from h1)
  ·rfl
  ·rfl
  ·exact mf (show R wc _ (.sl (e.needs.map aB.cells)) _ from h2)
 have hbd:=gh wc xs.toArray 42;have hnew:∀(j:Nat) (u:Value),xs[j]? =some u->(wc.alloc (.cells xs.toArray 42)).cell? ((⟨wc.heap.size,0,none⟩:Addr).add j)=some u:=fun j u hu=>FI (w:=wc) (xs:=xs) (T:=42) j u hu;generalize wc.alloc (.cells xs.toArray 42)=we at hbd hnew ⊢;have C3:=C2.below hbd;have hcv:=dH (N':=fun x=>N x\/x=wr.heap.size) hcv hbd fun x hx=>.inl hx;have ql:Rs we (BM M fun x=>N x\/x=wr.heap.size) (aB.cells e) xs:=by obtain⟨cs,FN,hR⟩:=hcv;cases FN;exact hR
 clear C2 hbd;have Bv:((l.take k).map (aB.cells (α:=Entry))).length=k:=by rw[dq,mO];omega
 obtain⟨v',wf,hap,hO,hg,how⟩:=or_append (P:=az) (ty:=24) (c:=1) (a:=⟨wc.heap.size,0,none⟩) pj aK hz hsz hby rfl (by decide) C3.o C3.n3 (r:=aB.cells e) (us:=xs) rfl hxl (fun j d hj=>ql.get hj) hnew aBd (by rw[Bv];omega) (by decide);have hO:OR M (fun x=>(N x\/x=wr.heap.size)\/v'.ownBlock=some x) wf 42 5 ((l.take (k+1)).map aB.cells) v':=by rw[VK hk,he,AR];exact hO
 have Cf:CE M N0 (fun x=>(N x\/x=wr.heap.size)\/v'.ownBlock=some x) w wf l (k+1) v' :=
  have hsw:=C3.bw.size;have hb:=C3.bw
  have owe:∀x,v'.ownBlock=some x->w.heap.size<=x:=fun x hx=>by
   rcases how with h3|h3
   ·exact C3.ow x (h3▸hx)
   ·rw[h3]at hx;have:=jy hx;omega
  ⟨⟨hg.os.trans hb.os,hg.tape.trans hb.tape,hg.output.trans hb.output,dV hb.size hg.size,fun i hi=>(hg.block i (by omega) fun e=>by have:=C3.ow _ e.symm;omega).trans (hb.block i hi)⟩,fun x hx=>.inl (C3.n1 x hx),fun x hx=>hx.elim (C3.n2 x) fun e=>.inr (owe x e),fun x hx=>hx.elim (fun hx=>ek (C3.n3 x hx) hg.size) fun hx=>(hO.lt x hx).2,hO,owe⟩
 refine ah (rn rfl rfl rfl hap) ?_;refine ah bO ?_;refine WL.nil ?_;refine sU (aM (CW.region ?_));refine ah (iA (r:=((k+1:Nat):Int)) (hb:=by rw[bF];omega)) ?_;refine ah aI ?_;exact WL.nil (NX.ag m' ⟨k+1,_,v',by omega,rfl,Cf⟩)
end
end Go.Proofs.YtoomhbopolalnaaGreatDoor
