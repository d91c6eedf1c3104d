/- Walk: a part of a host is called (the reference's l7Call). -/
import Derived.Test.YtoomhbopolalnabGreatDoorT23
set_option linter.all false
set_option maxRecDepth 100000
namespace Go.Proofs.YtoomhbopolalnabGreatDoor
variable {M:Addr->Prop}{a:Array Value}{b:Bool}{x:Call}{e j:Nat}{N:Nat->Prop}{q:Part×gH}{v:Value}{W W' w:World}
section
open Go.RowKit Go
variable [GC]
def wX(x:Call):Array Value:=#[.string x.method,.string x.key,.int .i64 x.val,.string x.text]
def zF(arg:Array Value)(x:Call):List (Nat×TypeId×Array Value):=[(0,29,arg),(1,31,wX x),(2,29,#[aP,aP,aP,aP,aP]),(3,102,eW)]
structure NB(L:Nat)(N:Nat->Prop)(w W:World)(b6:Nat)(vp vl:Value)(g:Nat)(T:TypeId)(cs:Array Value):Prop where
 n:N g
 b:aA W g T cs
 lo:w.heap.size+L<=g
 ne:g≠b6
 kv:¬KV vp vl g
section
variable {L:Nat}{bx:List (Nat×TypeId×Array Value)}{M:Addr->Prop}{N N':Nat->Prop}{w W W':World}{b6 g':Nat}{g:Host}{ve vp vu vs vl bZ:Value}{T:TypeId}{cs cs':Array Value}{r:gH}{v:Value}
def NB.below(A:NB L N w W b6 vp vl g' T cs)(hb:Below W.heap.size W W')(h:∀x,N x->N' x):NB L N' w W' b6 vp vl g' T cs:={A with n:=h _ A.n,b:=A.b.below hb A.b.lt}
def NB.DU{b:Nat}(A:NB L N w W b6 vp vl g' T cs)(o:bU W W' b)(h:g'≠b):NB L N w W' b6 vp vl g' T cs:={A with b:=(o.block _ h).trans A.b}
def SB.alloc(S:SB L bx M N w W b6 g ve vp vu vs vl)(cs:Array Value)(T:TypeId):SB L bx M (fun x=>N x\/x=W.heap.size) w (W.alloc (.cells cs T)) b6 g ve vp vu vs vl/\NB L (fun x=>N x\/x=W.heap.size) w (W.alloc (.cells cs T)) b6 vp vl W.heap.size T cs:=by
 have b:=iA W cs T;have z:=gb W (.cells cs T);have l:=S.q6.lt;have c:=S.lo;exact⟨S.new b (fun x h=>h.imp id fun e=>by omega) (fun x h=>.inl h) fun x h=>by
   rcases h with h|h
   ·have:=S.H.nb x h;omega
   ·omega,
  .inr rfl,aA.new W T cs,by omega,by omega,fun a=>a.elim (fun e=>by have:=(S.H.p.lt _ e).2;omega) fun e=>by have:=(S.H.l.lt _ e).2;omega⟩
def SB.EM(S:SB L bx M N w W b6 g ve vp vu vs vl)(h:ek w M)(A:NB L N w W b6 vp vl g' T cs)(o:bU W W' g'):SB L bx M N w W' b6 g ve vp vu vs vl:=S.wr h o A.n A.kv A.lo A.ne
def NB.put(A:NB L N w W b6 vp vl g' T cs)(h:aA W' g' T cs'):NB L N w W' b6 vp vl g' T cs':={A with b:=h}
def SB.fell{a:World}{e:Host}(S:SB L bx M N w W b6 g ve vp vu vs vl)(G:ek w M)(H:HX M N W' e ve vp vs vl)(U:R W' (BM M N) (aj e.up) bZ)(f:dr (KV vp vl) W W')(b:bU W' a b6)(q:aA a b6 29 (aD ve vp bZ vs vl)):SB L bx M N w a b6 e ve vp bZ vs vl:=by
 have y:=S.lo;have t:=G.2.2;have h:=S.bw;have l:∀x,x<w.heap.size+L->x<W.heap.size->a.heap[x]? =W.heap[x]? :=fun x c u=>(b.block x (by omega)).trans (f.block x u fun j=>by have:=(S.kv x j).1;omega);exact⟨H.one b S.n6 (fun j=>(S.kv _ j).2 rfl) (by omega),iC U b S.n6,fun x c=>⟨(S.bx x c).1,(l _ (by have:=(S.bx x c).1;omega) (S.bx x c).2.lt).trans (S.bx x c).2⟩,q,
  ⟨b.os.trans (f.os.trans h.os),b.tape.trans (f.tape.trans h.tape),b.output.trans (f.output.trans h.output),by rw[b.size];exact dK h.size f.size,fun i p=>(l i (by omega) (dS p h.size)).trans (h.block i p)⟩,
  S.nb,S.n6,S.nw,S.lo,S.kv⟩
def NB.fell{a:World}(A:NB L N w W b6 vp vl g' T cs)(f:dr (KV vp vl) W W')(b:bU W' a b6):NB L N w a b6 vp vl g' T cs:={A with b:=((b.block _ A.ne).trans (f.block _ A.b.lt A.kv)).trans A.b}
def Pc{a:Addr->Prop}(h:R W a (enc r) v)(W':World)(M':Addr->Prop):R W' M' (enc r) v:=by obtain⟨cs,rfl,v0,r0,e,⟨rfl,b⟩,v1,r1,rfl,⟨rfl,c⟩,p,r2,rfl,⟨rfl,f⟩,q,r3,rfl,⟨rfl,j⟩,v4,r4,rfl,⟨rfl,l⟩,rfl⟩:=h;exact⟨cs,rfl,_,_,e,⟨rfl,b⟩,_,_,rfl,⟨rfl,c⟩,_,_,rfl,⟨rfl,f⟩,_,_,rfl,⟨rfl,j⟩,_,_,rfl,⟨rfl,l⟩,rfl⟩
end
def aFk{p:Part}{r:gH}(h:R w M (.aU [enc p,enc r]) v):R w M (enc r) (.agg (fN r)):=by obtain⟨t,rfl,a,r0,e,c,f,r1,rfl,b,rfl⟩:=h;obtain rfl:=VZ b;exact b
def axG(s:ByteArray)(x:Call):uk az 33 [(0,.int .i64 3),(1,.string s),(2,.agg (wX x))]=some #[.int .i64 3,.string s,.string x.method,.string x.key,.int .i64 x.val,.string x.text,aP]:=by kernel_rfl
def az0{M':Addr->Prop}{s:ByteArray}(a:s.size<=maxLen)(hx:R w M (enc x) (.agg (wX x))):Rs W M' (aB.cells (⟨3,s,x,[]⟩:Event)) [.int .i64 3,.string s,.string x.method,.string x.key,.int .i64 x.val,.string x.text,aP]:=by
 obtain⟨cs, -,v0,r0,p,⟨rfl,c⟩,v1,r1,rfl,⟨rfl,e⟩,q,r2,rfl,⟨rfl,f⟩,t,r3,rfl,⟨rfl,j⟩,rfl⟩:=hx;have l:IntKind.i64.min<=(3:Int)/\(3:Int)<=IntKind.i64.max:=by decide
 exact⟨_,_,rfl,⟨rfl,l⟩,_,_,rfl,⟨rfl,a⟩,_,_,rfl,⟨rfl,c⟩,_,_,rfl,⟨rfl,e⟩,_,_,rfl,⟨rfl,f⟩,_,_,rfl,⟨rfl,j⟩,_,_,rfl,⟨none,0,0,rfl,rfl,bM _,fW _,fun _=>rfl,fun b o s h=>by cases h⟩,rfl⟩
noncomputable def sB:Array Oper:=GY Tryz.f114 7
def sK(w:World)(arg:Array Value)(x:Call)(p d:Nat)(us:List Value):World->Prop:=fun W=>(aA W w.heap.size 29 arg/\∀j u,us[j]? =some u->W.cell? ((⟨p,d,none⟩:Addr).add j)=some u)/\aA W (w.heap.size+1) 31 (wX x)
structure QO(M:Addr->Prop)(N:Nat->Prop)(W:World)(q:Part×gH)(qs:Array Value):Prop where
 s:qs.size=6
 o:∀u∈qs.toList,u.oneCell'=true
 r:R W (BM M N) (enc q.1) (.agg qs)
 v:∀(W':World) (M':Addr->Prop),R W' M' (enc q.2) (.agg (fN q.2))
def QO.below{N':Nat->Prop}(h:QO M N W q a)(hb:Below W.heap.size W W')(b:∀x,N' x->N x\/W.heap.size<=x):QO M N' W' q a:={h with r:=db h.r hb b}
def QO.one{g:Nat}(h:QO M N W q a)(o:bU W W' g)(b:N g):QO M N W' q a:={h with r:=iC h.r o b}
set_option maxHeartbeats 4000000 in
def aFU{h:Host}{p:Part}{s:ByteArray}{ae I l al ve vp vu vs vl:Value}{q F n G i b6:Nat}{us:List Value}{Q:Exit->Act->World->Prop}(J:∀c a t v w,Q (.panic c) (Act.put a t v) w->Q (.panic c) a w)(hG:ek w M)(hR0:R w M (enc p) (.agg us.toArray))(jq:us.length=6)(xn:∀(j:Nat) (u:Value),us[j]? =some u->w.cell? ((⟨q,F+i*6,none⟩:Addr).add j)=some u)
  (hx:R w M (enc x) (.agg (wX x))) (mc:x.text.size<4294967281) (hc:p.core.cells.length<=4294967296) (hl:p.ak.length<=4294967296) (hin:i<n)
  (fin:∀(N:Nat->Prop) (W:World) (U:Array Value) (V Y:Nat),SB 4 (zF (aD ae (.slice (some ⟨q,F,none⟩) n G) I l al) x) M N w W b6 h ve vp vu vs vl->QO M N W (gJ p x) U->NB 4 N w W b6 vp vl V 87 U->NB 4 N w W b6 vp vl Y 102 (fN (gJ p x).2)->V≠Y->NX 78 (Q .normal) [(1,.string s),(5,PH (w.heap.size+1)),(6,PH (w.heap.size+2)),(7,PH (w.heap.size+3)),(9,PH b6),(10,.int .i64 ((i:Nat):Int)),(11,PH V),(12,PH Y)] W)
  (N:Nat->Prop) (W:World) (S:SB 4 (zF (aD ae (.slice (some ⟨q,F,none⟩) n G) I l al) x) M N w W b6 h ve vp vu vs vl) :
  AU 78 az sB Q (sK w (aD ae (.slice (some ⟨q,F,none⟩) n G) I l al) x q (F+i*6) us) 13 14 (Array.replicate 14 false) [(1,.string s),(3,PH w.heap.size),(5,PH (w.heap.size+1)),(6,PH (w.heap.size+2)),(7,PH (w.heap.size+3)),(9,PH b6),(10,.int .i64 ((i:Nat):Int))] W:=by
 have f:∀(N:Nat->Prop) (W:World),SB 4 (zF (aD ae (.slice (some ⟨q,F,none⟩) n G) I l al) x) M N w W b6 h ve vp vu vs vl->(sK w (aD ae (.slice (some ⟨q,F,none⟩) n G) I l al) x q (F+i*6) us) W:=fun N W S=>⟨⟨S.b0,fun j u C=>by have hc:=xn j u C;rw[S.bw.cell (gm hc)];exact hc⟩,S.b1⟩
 have H:∀(C:(Nat->Prop)->World->Prop),(∀(N N':Nat->Prop) (W W':World),Below W.heap.size W W'->(∀x,N' x->N x\/W.heap.size<=x)->C N W->C N' W')->∀(N:Nat->Prop) (W:World) (cs:Array Value) (T:TypeId),(SB 4 (zF (aD ae (.slice (some ⟨q,F,none⟩) n G) I l al) x) M N w W b6 h ve vp vu vs vl/\C N W)->∃N',(SB 4 (zF (aD ae (.slice (some ⟨q,F,none⟩) n G) I l al) x) M N' w (W.alloc (.cells cs T)) b6 h ve vp vu vs vl/\C N' (W.alloc (.cells cs T)))/\NB 4 N' w (W.alloc (.cells cs T)) b6 vp vl W.heap.size T cs/\∀g T' cs',NB 4 N w W b6 vp vl g T' cs'->g<W.heap.size/\NB 4 N' w (W.alloc (.cells cs T)) b6 vp vl g T' cs':=fun C hC N W cs T ⟨S,c⟩=>by have Z:=iA W cs T;obtain⟨C,X⟩:=S.alloc cs T;exact⟨_,⟨C,hC N _ W _ Z (fun x hx=>hx.imp id fun e=>by omega) c⟩,X,fun g T' cs' A=>⟨A.b.lt,A.below Z fun x hx=>.inl hx⟩⟩
 have s1:=fun U=>HZ (n:=78) (P:=az) (ops:=sB) (Q:=Q) (s:=13) (z:=14) (i:=10) (j:=11) (d:=11) (e:=12) (base:=[0,1,2,3,4,5,6,7,8,9]) (mn:=[]) (kc:=1) (Ec:=[(1,.string s),(5,PH (w.heap.size+1)),(6,PH (w.heap.size+2)),(7,PH (w.heap.size+3)),(9,PH b6),(10,.int .i64 ((i:Nat):Int)),(45,.agg U),(46,.agg (fN (gJ p x).2))]) (fun N W g T cs=>NB 4 N w W b6 vp vl g T cs) (fun N W=>SB 4 (zF (aD ae (.slice (some ⟨q,F,none⟩) n G) I l al) x) M N w W b6 h ve vp vu vs vl/\QO M N W (gJ p x) U) (fun _ _ h=>f _ _ h.1) (H (fun N W=>QO M N W (gJ p x) U) fun _ _ _ _ Z C O=>O.below Z C) (fun _ _=>eQ (z:=.agg tO) (by kernel_rfl) Oy) (fun _ _=>eQ (z:=.agg eW) (by kernel_rfl) mJ) (fun _ _ _ _ _ _ k hk=>by cases hk) (.inr fun V Y N W ⟨S,O⟩ OO=>by have A:=OO.a V rfl;have B:=OO.b Y rfl;have C:V≠Y:=fun e=>OO.ne V rfl (e▸rfl);refine iQ (o:=opAt sB 12) 12 (by kernel_rfl) (hg:=(by kernel_rfl)) (hd:=(by kernel_rfl)) (T:=87) (x:=.tmp 11) (y:=.tmp 45) (C:=tO) (hop:=(by kernel_rfl)) rfl A.b (hC:=(by rw[O.s];rfl)) O.o (by rw[O.s];exact lZ) (fun _ o _=>f _ _ (S.EM hG A o)) fun W1 R1 O1=> ?_;have S:=S.EM hG A O1;have B:=B.DU O1 (ye C);have O:=O.one O1 A.n;have A:=A.put R1;refine iQ (o:=opAt sB 13) 13 (by kernel_rfl) (hg:=(by kernel_rfl)) (hd:=(by kernel_rfl)) (T:=102) (x:=.tmp 12) (y:=.tmp 46) (C:=eW) (hop:=(by kernel_rfl)) rfl B.b (Pf _) cz (fun _ _ h=>absurd rfl h) fun W2 R2 O2=> ?_;refine iH (by kernel_rfl) ?_;exact fun G hE=>fin N W2 U V Y (S.EM hG B O2) (O.one O2 B.n) (A.DU O2 C) (B.put R2) C G (hE.sub ⟨rfl,rfl,rfl,rfl,rfl,rfl,rfl,rfl,trivial⟩))
 have s0:=HZ (n:=78) (P:=az) (ops:=sB) (Q:=Q) (s:=13) (z:=14) (i:=10) (j:=11) (d:=11) (e:=12) (base:=[0,1,2,3,4,5]) (mn:=[6]) (kc:=5) (Ec:=[(1,.string s),(5,PH (w.heap.size+1)),(6,PH (w.heap.size+2)),(7,PH (w.heap.size+3)),(9,PH b6),(10,.int .i64 ((i:Nat):Int)),(42,.agg us.toArray),(43,.agg (wX x))]) (fun N W g T cs=>NB 4 N w W b6 vp vl g T cs) (fun N W=>SB 4 (zF (aD ae (.slice (some ⟨q,F,none⟩) n G) I l al) x) M N w W b6 h ve vp vu vs vl/\True) (fun _ _ h=>f _ _ h.1) (H (fun _ _=>True) fun _ _ _ _ _ _ h=>h) (fun _ _=>eQ (z:=.agg tO) (by kernel_rfl) Oy) (fun _ _=>eQ (z:=.agg eW) (by kernel_rfl) mJ) (fun y z N W ⟨S,_⟩ OO k hk=>by
  obtain rfl:=mQ.1 hk;rcases y with _|a<;>rcases z with _|b<;>(
   refine CL (o:=opAt sB 6) (d:=44) (sE (cl:=FD (opAt sB 6)) (args:=#[.agg us.toArray,.agg (wX x)]) (by kernel_rfl) (by kernel_rfl) (by kernel_rfl) rfl) (aH.calls (ZU p x hc hl mc) S.H.cM (vs:=[.agg us.toArray,.agg (wX x)]) ⟨_,_,rfl,S.kp hR0,_,[],rfl,S.kp hx,rfl⟩) ?_;rintro _ W' ⟨C,rfl,hq,Z⟩;obtain⟨U,rfl,C,hq1,Gh⟩:=OU hq;have S:=S.below Z;refine⟨_,rfl,f _ _ S,?_⟩;refine lC (o:=opAt sB 7) (d:=37) 7 J (fun W H=>aI (x:=.tmp 44) (ho:=(by kernel_rfl))) (f _ _ S) ?_;refine lC (o:=opAt sB 8) (d:=45) 8 J (fun W H=>fG (x:=.tmp 37) (i:=0) (ho:=(by kernel_rfl))) (f _ _ S) ?_;refine lC (o:=opAt sB 9) (d:=46) 9 J (fun W H=>fG (x:=.tmp 37) (i:=1) (ho:=(by kernel_rfl))) (f _ _ S) ?_;exact pE (s1 U _ _ _ _ ⟨S,C,hq1,Gh,Pc (aFk hq)⟩ (OO.map fun g T cs hm=>hm.below Z fun x hx=>hx)))) (.inl (by simp))
 refine lC (o:=opAt sB 0) (d:=38) 0 J (fun W H=>br (k:=1) (x:=.tmp 3) (ho:=(by kernel_rfl)) sj) (f _ _ S) ?_;refine lC (o:=opAt sB 1) (d:=39) 1 J (fun W H=>bz (x:=.tmp 38) (ho:=(by kernel_rfl)) ql (v:=.slice (some ⟨q,F,none⟩) n G) ((H.1.1.cell 1).trans rfl)) (f _ _ S) ?_;refine lC (o:=opAt sB 2) (d:=40) 2 J (fun W H=>aI (x:=.tmp 10) (ho:=(by kernel_rfl))) (f _ _ S) ?_;refine lC (o:=opAt sB 3) (d:=41) 3 J (fun W H=>nZ (x:=.tmp 39) (y:=.tmp 40) (ho:=(by kernel_rfl)) hin FM) (f _ _ S) ?_;refine lC (o:=opAt sB 4) (d:=42) 4 J (fun W H=>yX (x:=.tmp 41) (cs:=us) (by kernel_rfl) rfl dF rfl (by rw[jq];exact lZ) H.1.2) (f _ _ S) ?_;refine lC (o:=opAt sB 5) (d:=43) 5 J (fun W H=>bF (x:=.tmp 5) (ho:=(by kernel_rfl)) ud H.2 uC) (f _ _ S) ?_;exact pE (s0 none none _ _ ⟨S,trivial⟩ OA.none)
set_option maxHeartbeats 4000000 in
def aK1{h:Host}{s:ByteArray}(Y:ek w M)(hv:R w M (enc h) v)(hs:s.size<=maxLen)(hx:R w M (enc x) (.agg (wX x)))(mc:x.text.size<4294967281)(hh:oz h) :
  Calls az 114 #[v,.string s,.agg (wX x)] w fun e w'=>∃r,e=.returned r/\R w' M (.aU [enc (oI h s x).1,enc (oI h s x).2.1,.bool (oI h s x).2.2]) r/\Below w.heap.size w w':=by
 obtain⟨ae,ap,au,U,al,rfl,V,hap,l,has,c⟩:=Gf hv;refine pH (E:=[(0,.agg (aD ae ap au U al)),(1,.string s),(2,.agg (wX x))]) Tryz.func114 rfl Tryz.ntmps114 (by simp) (by simp) ?_;refine aO ?_;refine CZ B0.nil fun _ B=> ?_;refine CZ B fun _ B=> ?_;refine CY B oT fun _ B=> ?_;refine CY B mJ fun c B=> ?_;refine ah bN ?_;refine bn ?_;refine CW.sl [1,3,5,6,7] ?_;refine aO ?_;refine ah (bF cN B.q0 bE) ?_;refine dD (Yi B Y hv hh) ?_;rintro _ G ⟨ve,vp,vu,vs,vl,rfl,one,mk⟩;refine⟨_,rfl,?_⟩;refine ah (eQ rfl oT) ?_;refine bW rfl (cs:=aD ve vp vu vs vl) rfl (xH G) one bE fun p z c=> ?_;obtain⟨N,S⟩:=mk p z c;have j:SB 4 (zF (aD ae ap au U al) x) M N w p G.heap.size h ve vp vu vs vl:=S;clear mk one z c S B;refine bn ?_;refine CW.sl [1,3,5,6,7,9] ?_;refine CW.seq (aO ?_);refine ah (bF cN j.b0 bE) ?_;refine ah aI ?_;refine dD (j.ask (MQ h s hh) ⟨_,_,rfl,j.kp hv,_,[],rfl,⟨rfl,hs⟩,rfl⟩) ?_;rintro _ p ⟨rfl,c⟩;refine⟨_,rfl,?_⟩;clear j;refine ah qE ?_;refine ah aI ?_;rcases J:gW h s with _|_
 ·refine dO (b:=true) ?_;refine dO (b:=true) ?_;refine dO (b:=true) ?_;refine ah (nu rfl rfl rfl) ?_;refine WL.nil (aL (eC ?_));refine aO ?_;refine ah (bF cN c.q6 bE) ?_;refine ah (kF (vs:=[(0,.int .i64 7)]) (ME 7)) ?_;refine bW rfl (cs:=aD ve vp vu vs vl) rfl c.b2 c.one bE fun p z4 H=> ?_;have z5:=(H.block (w.heap.size+3) (by omega)).trans c.b3;refine bW rfl (cs:=#[.int .i64 7,.int .i64 0,.string ⟨#[]⟩,.int .i64 0,.int .i64 0]) rfl z5 (by decide) cz fun z y5 I=> ?_;refine ah bN ?_;have y4:=(I.block (w.heap.size+2) (by omega)).trans z4;obtain⟨hr,C⟩:=c.out Y (by decide) (by decide) H I;have hd:oI h s x=(h,rep 7 0 0 0,false):=by unfold oI;rw[aC (.inl J)]
  refine WL.nil (aL (CW.ret (NX.ret (rN rfl rfl y4 y5 cN gC bE cz ⟨_,rfl,?_,C⟩))));rw[hd];exact⟨_,rfl,_,_,rfl,hr,_,_,rfl,Ai (by decide) (by decide),_,_,rfl,rfl,rfl⟩
 refine fY (b:=false) (bF ud c.b1 uC) ?_;refine wN (b:=false) (c.ask (Tm x) ⟨_,[],rfl,c.kp hx,rfl⟩) ?_;rintro _ F ⟨rfl,j⟩;refine⟨_,rfl,?_⟩;clear c;refine fY (b:=false) qE ?_;refine ah (pR rfl rfl rfl) ?_;refine bn ?_;rcases Ux:gu x with _|_
 ·refine eC ?_;refine aO ?_;refine ah (bF cN j.q6 bE) ?_;refine ah (kF (vs:=[(0,.int .i64 7)]) (ME 7)) ?_;refine bW rfl (cs:=aD ve vp vu vs vl) rfl j.b2 j.one bE fun p z4 H=> ?_;have z5:=(H.block (w.heap.size+3) (by omega)).trans j.b3;refine bW rfl (cs:=#[.int .i64 7,.int .i64 0,.string ⟨#[]⟩,.int .i64 0,.int .i64 0]) rfl z5 (by decide) cz fun z y5 I=> ?_;refine ah bN ?_;have y4:=(I.block (w.heap.size+2) (by omega)).trans z4;obtain⟨hr,C⟩:=j.out Y (by decide) (by decide) H I;have hd:oI h s x=(h,rep 7 0 0 0,false):=by unfold oI;rw[aC (.inr Ux)]
  refine WL.nil (aL (CW.ret (NX.ret (rN rfl rfl y4 y5 cN gC bE cz ⟨_,rfl,?_,C⟩))));rw[hd];exact⟨_,rfl,_,_,rfl,hr,_,_,rfl,Ai (by decide) (by decide),_,_,rfl,rfl,rfl⟩
 refine CW.no (CW.skip (aL ?_));refine CW.sl [1,3,5,6,7,9] ?_;refine CW.seq (aO ?_);refine ah (br qt) ?_;refine ah (bz eX (v:=au) ((j.b0.cell 2).trans rfl)) ?_;refine ah aI ?_;refine dD (j.ask (nM h.up s) ⟨_,_,rfl,j.kp l,_,[],rfl,⟨rfl,hs⟩,rfl⟩) ?_;rintro _ c ⟨rfl,Z⟩;refine⟨_,rfl,?_⟩;clear j;refine ah qE ?_;refine bn ?_;rcases ni:hasB h.up s with _|_
 ·refine eC ?_;refine aO ?_;refine ah (bF cN Z.q6 bE) ?_;refine ah (kF (vs:=[(0,.int .i64 2)]) (ME 2)) ?_;refine bW rfl (cs:=aD ve vp vu vs vl) rfl Z.b2 Z.one bE fun p z4 H=> ?_;have z5:=(H.block (w.heap.size+3) (by omega)).trans Z.b3;refine bW rfl (cs:=#[.int .i64 2,.int .i64 0,.string ⟨#[]⟩,.int .i64 0,.int .i64 0]) rfl z5 (by decide) cz fun z y5 I=> ?_;refine ah bN ?_;have y4:=(I.block (w.heap.size+2) (by omega)).trans z4;obtain⟨hr,C⟩:=Z.out Y (by decide) (by decide) H I;have hd:oI h s x=(h,rep 2 0 0 0,false):=by unfold oI;rw[aw (by rw[J,Ux];simp),aC ni]
  refine WL.nil (aL (CW.ret (NX.ret (rN rfl rfl y4 y5 cN gC bE cz ⟨_,rfl,?_,C⟩))));rw[hd];exact⟨_,rfl,_,_,rfl,hr,_,_,rfl,Ai (by decide) (by decide),_,_,rfl,rfl,rfl⟩
 refine CW.no (CW.skip (aL ?_));refine CW.sl [1,3,5,6,7,9] ?_;have hO:wJ h:=DD.1 (by unfold gW at J;simp only[aX]at J;exact J.1.1);have c:h.log.length<24:=by unfold gW at J;simp only[aX,du]at J;exact J.2
 have z:0<=cV h.entries s:=by unfold gW at J;simp only[aX,qi,oH]at J;have:=J.1.2;omega
 have c:cV h.entries s=((cO h s:Nat):Int):=(Md z).symm;have hi:cO h s<h.parts.length:=by obtain⟨i,h1,h2,_⟩:=vF z;unfold cO;rw[h1,hO.len];simpa using h2
 have l:=uz hO _ (gK hi);have F:=Cc l;obtain⟨i,hid⟩:∃i,cO h s=i:=⟨_,rfl⟩;rw[hid]at c hi F l;obtain⟨p,xu⟩:∃p,nth h.parts i=p:=⟨_,rfl⟩;rw[xu]at F l;refine aO ?_;refine ah (br qq) ?_;refine ah (bz mR (v:=ae) ((Z.b0.cell 0).trans rfl)) ?_;refine ah aI ?_;refine dD (aH.calls (qR h.entries s) Z.H.cM (vs:=[ae,.string s]) ⟨_,_,rfl,Z.kp V,_,[],rfl,⟨rfl,hs⟩,rfl⟩) ?_;rintro _ X ⟨_,rfl,V,j⟩;obtain⟨rfl, -⟩:=V;rw[c];refine⟨_,rfl,?_⟩;have X:=Z.below j;clear Z j;refine ah bN ?_;refine bn ?_;refine CW.sl [1,3,5,6,7,9,10] ?_;obtain⟨V,ac,c,_,j⟩:=mA (ma (n:=6) (fun _=>rfl) h.parts) hap;rw[di]at c;subst c;obtain⟨pb,po,us,rfl,jq,Z,V⟩:=j i _ (get_map h.parts hi);rw[xu]at Z;refine CW.seq (CW.any (sK w (aD ae (.slice (some ⟨pb,po,none⟩) h.parts.length ac) au U al) x pb (po+i*6) us) 13 mo fun wd hwd c=>⟨⟨⟨(X.below c).b0,fun j u hu=>by
  have hc:w.cell? ((⟨pb,po+i*6,none⟩:Addr).add j)=some u:=by rw[tU];exact V j u hu
  rw[(X.below c).bw.cell (gm hc)];exact hc⟩,(X.below c).b1⟩,?_⟩)
 refine aFU (fun _ _ t _ _ h=>by cases t<;>exact h) Y ⟨_,rfl,Z⟩ jq (fun j u hu=>by rw[tU];exact V j u hu) hx mc (by have:=F.1;omega) (by have:=F.2;omega) hi (fun N W qs V g9 S O A B F=> ?_) _ wd (X.below c);clear X c;obtain⟨q,V⟩:∃q,gJ p x=q:=⟨_,rfl⟩;have hqp:dC q.1=true:=by rw[<-V];exact(MS l x).1
 rw[V]at O B;have oQ:=O.v;refine aL ?_;refine CW.seq (aO ?_);refine ah (br FR) ?_;refine ah (bz kO (v:=.int .i64 q.2.code) ((B.b.cell 0).trans rfl)) ?_;by_cases p:q.2.code=1
 ·refine ah (gX (b:=true) (hb:=by simp[bg,p])) ?_;refine WL.nil (aL (eC ?_));refine CW.sl [6,7,9,12] ?_;have aBI:=B.lo;refine CW.seq (CW.any (fun W=>aA W G.heap.size 29 (aD ve vp vu vs vl)/\aA W g9 102 (fN q.2)) 4 mo fun wl hwd c=>⟨⟨S.q6.below c S.q6.lt,B.b.below c B.b.lt⟩,?_⟩);have F:=S.below c;have Z:=B.b.below c B.b.lt;clear c;refine bf 0 rfl (fun W hW=>bF cN hW.1 bE) ⟨F.q6,Z⟩ ?_;refine bf 1 rfl (fun W hW=>bF gC hW.2 cz) ⟨F.q6,Z⟩ ?_;have hlo:=F.lo;refine iQ 2 rfl (cs:=aD ve vp vu vs vl) rfl F.b2 F.one bE (fun W o _=>⟨(o.block _ (by omega)).trans F.q6,(o.block _ (by omega)).trans Z⟩) fun wm z4 H=> ?_;have z5:=(H.block (w.heap.size+3) (by omega)).trans F.b3;have zs:∀W,bU wm W (w.heap.size+3)->aA W G.heap.size 29 (aD ve vp vu vs vl)/\aA W g9 102 (fN q.2):=fun W o=>⟨((o.block _ (by omega)).trans (H.block _ (by omega))).trans F.q6,((o.block _ (by omega)).trans (H.block _ (by omega))).trans Z⟩;refine iQ 3 rfl (cs:=fN q.2) rfl z5 (Pf _) cz (fun W o _=>zs W o) fun wn y5 I=> ?_;have y4:=(I.block (w.heap.size+2) (by omega)).trans z4;refine gP 4 rfl bN (fun h=>absurd rfl h) ?_;obtain⟨hr,C⟩:=F.out Y (by decide) (by decide) H I;refine iH (by kernel_rfl) (aL (CW.ret (NX.ret (rN rfl rfl y4 y5 cN gC bE cz ⟨_,rfl,?_,C⟩))));have hd:oI h s x=(h,q.2,false):=by unfold oI;rw[aw (by rw[J,Ux];simp),aw (by rw[ni];simp)];simp only[hid,xu,V];rw[aC p]
  rw[hd];exact⟨_,rfl,_,_,rfl,hr,_,_,rfl,oQ _ _,_,_,rfl,rfl,rfl⟩
 refine ah (gX (b:=false) (hb:=by simp[bg,p])) ?_;refine WL.nil (aL (CW.no (CW.skip (aL ?_))));refine CW.sl [1,5,6,7,9,10,11,12] ?_;have l:(h.parts.map (aB.cells (α:=Part))).length=h.parts.length:=di _;obtain⟨b,cap,_,X,_⟩:=S.H.p.row (get_map h.parts hi);rw[l]at X;subst X;have Bu:Rs W (BM M N) (aB.cells q.1) qs.toList:=by obtain⟨cs,e,hR⟩:=O.r;cases e;exact hR
 refine aO ?_;refine ah (br sj) ?_;refine ah (bz ql (v:=.slice (some ⟨b,0,none⟩) h.parts.length cap) ((S.q6.cell 1).trans rfl)) ?_;refine ah aI ?_;refine ah (bF dF A.b (by rw[O.s];exact lZ)) ?_;refine ah (yU rfl rfl rfl hi FN) ?_;obtain⟨wc,hst,mZ,Ca⟩:=VS (n:=78) (P:=az) (E:=[(56,.pointer (some ⟨b,i*6,none⟩)),(55,.agg qs)]) (o:=opAt (GY Tryz.f114 10) 5) (T:=87) (x:=.tmp 56) (y:=.tmp 55) (by kernel_rfl) rfl rfl S.H.p (by rw[l];exact hi) rfl O.s O.o Bu lZ;refine qO (fun a l=>hst a (l.sub ⟨rfl,rfl,trivial⟩)) ?_;have nb:∀g,¬KV (.slice (some ⟨b,0,none⟩) h.parts.length cap) vl g->g≠b:=fun g l e=>l (.inl (by rw[e];rfl));have S:=S.part mZ Ca;have B:=B.DU Ca (nb _ B.kv);clear A O mZ hst Bu;refine bn ?_;obtain⟨g,hgg⟩:∃g:Host,{h with parts:=h.parts.set i q.1}=g:=⟨_,rfl⟩;have l:g.entries=h.entries/\g.up=h.up/\g.shut=h.shut/\g.log=h.log/\g.parts=h.parts.set i q.1:=by rw[<-hgg];exact⟨rfl,rfl,rfl,rfl,rfl⟩
 rw[hgg]at S;obtain⟨vp,X⟩:∃vp:Value,.slice (some ⟨b,0,none⟩) h.parts.length cap=vp:=⟨_,rfl⟩;rw[X]at S B;clear Ca nb;refine CW.sl [1,5,6,7,9,12] ?_;refine CW.seq (QS (fun E' W=>∃(f:Host) (vu vs:Value),E'=[(1,.string s),(5,PH (w.heap.size+1)),(6,PH (w.heap.size+2)),(7,PH (w.heap.size+3)),(9,PH G.heap.size),(12,PH g9)]/\f=(if q.2.code=3 then {mV g s with shut:=kA h.shut s} else g)/\f.log=h.log /\
  SB 4 (zF (aD ae (.slice (some ⟨pb,po,none⟩) h.parts.length ac) au U al) x) M N w W G.heap.size f ve vp vu vs vl/\NB 4 N w W G.heap.size vp vl g9 102 (fN q.2)) ?_ ?_)
 ·refine aO ?_;refine ah (br FR) ?_;refine ah (bz kO (v:=.int .i64 q.2.code) ((B.b.cell 0).trans rfl)) ?_;by_cases X:q.2.code=3
  rotate_left
  ·refine ah (gX (b:=false) (hb:=by simp[bg,X])) ?_;refine WL.nil (aL (CW.no (CW.skip ?_)));exact AW ⟨g,vu,vs,rfl,by rw[aw X],l.2.2.2.1,S,B⟩ ⟨rfl,rfl,rfl,rfl,rfl,rfl,trivial⟩
  ·refine ah (gX (b:=true) (hb:=by simp[bg,X])) ?_;refine WL.nil (aL (eC ?_));refine CW.sl [1,5,6,7,9,12] ?_;have l7:0<g.parts.length:=by rw[l.2.2.2.2,uX];omega
   have Gb:∀y∈g.up,0<=cV g.entries y/\cO g y<g.parts.length:=fun y hy=>by rw[l.2.1]at hy;have:=WA hO y hy;unfold cO at this ⊢;rw[l.1,l.2.2.2.2,uX];exact this
   have hnl:(rz g.entries s).length<=1048576:=by
    rw[l.1];unfold rz;split
    ·split
     ·exact dK (Ka _ _) hh.el
     ·simp
    ·simp
   have hok:=Nh (h:=g) (fun y hy=>by
    rw[l.2.2.2.2]at hy;rcases sZ hy with h1|h1
    ·exact uz hO y h1
    ·rw[h1];exact hqp) (fun y hy=>(Gb y hy).2) (kA (rz g.entries s) s)
   refine aO ?_;refine ah (bF cN S.q6 bE) ?_;refine ah aI ?_;refine dD (au9 S.H S.U l7 Gb hnl (fun j hj y hy=>by have:=Cc (hok j hj y hy);unfold DT at this;omega) hs (by rw[l.2.1];exact Mj hh.ul (by decide))) ?_;rintro _ wd ⟨bZ,rfl,Hd,Ud,fd⟩;refine⟨_,rfl,?_⟩;have od:∀u∈(aD ve vp bZ vs vl).toList,u.oneCell'=true:=fun u hu=>by have j:=S.one;have ou:bZ.oneCell'=true:=kY (show R wd _ (.sl ((mV g s).up.map aB.cells)) bZ from Ud);simp[aD]at hu j;obtain⟨h1,h2,_,h3,h4⟩:=j;rcases hu with rfl|rfl|rfl|rfl|rfl<;>assumption
   refine bW rfl (cs:=aD ve vp bZ vs vl) rfl ((fd.block _ S.q6.lt fun hk=>(S.kv _ hk).2 rfl).trans S.q6) od bE fun we z6 j=> ?_;have Se:=S.fell Y Hd Ud fd j z6;have Be:=B.fell fd j;clear S B Hd Ud fd j z6;refine bn ?_;refine CW.sl [1,5,6,7,9,12] ?_;have z:(mV g s).shut=h.shut:=l.2.2.1;refine CW.region ?_;refine ah (br zN) ?_;refine ah (bz eX (v:=vs) ((Se.q6.cell 3).trans rfl)) ?_;refine ah aI ?_;refine dD (aH.calls (aH.eB (Fz h.shut s (Nat.le_of_lt hh.sl))) Se.H.cM (vs:=[vs,.string s]) ⟨_,_,rfl,(z▸Se.H.s:R we (BM M N) (aj h.shut) vs),_,[],rfl,⟨rfl,hs⟩,rfl⟩) ?_;rintro _ wf ⟨z,rfl,hvs,hbf⟩;refine⟨_,rfl,?_⟩;have j:=Se.below hbf;have Bf:=Be.below hbf fun x hx=>hx;clear Se Be hbf;have ov:z.oneCell'=true:=kY (show R wf _ (.sl ((kA h.shut s).map aB.cells)) z from hvs);refine ah (br zN) ?_;refine qO (pS rfl rfl rfl (by kernel_rfl) ov ((j.q6.cell 3).trans rfl) (j.q6.frozen 3)) ?_;have z6:aA (wf.setCell ⟨G.heap.size,0+3,none⟩ z) G.heap.size 29 (aD ve vp bZ z vl):=j.q6.xN 3 z;have v8:bU wf (wf.setCell ⟨G.heap.size,0+3,none⟩ z) G.heap.size:=(bU.refl wf G.heap.size).set (0+3) z;generalize wf.setCell ⟨G.heap.size,0+3,none⟩ z=wg at z6 v8 ⊢;have Sg:SB 4 (zF (aD ae (.slice (some ⟨pb,po,none⟩) h.parts.length ac) au U al) x) M N w wg G.heap.size {mV g s with shut:=kA h.shut s} ve vp bZ z vl :=
    j.box Y v8 (fun x hx=>hx) (fun x hx=>hx.elim (fun e=>(j.H.p.lt x e).1) fun e=>(j.H.l.lt x e).1) j.nb j.n6 ⟨rfl,rfl⟩ j.H.e j.U hvs z6
   refine WL.nil ?_;exact AW ⟨({mV g s with shut:=kA h.shut s}:Host),bZ,z,rfl,by rw[aC X],(show(mV g s).log=h.log from l.2.2.2.1),Sg,Bf.DU v8 Bf.ne⟩ ⟨rfl,rfl,rfl,rfl,rfl,rfl,trivial⟩
 clear S B;rintro E' W ⟨f,vu,vs,rfl,hf,j,S,B⟩;refine aL ?_;refine aO ?_;refine ah (br tj) ?_;refine ah (bz vc (v:=vl) ((S.q6.cell 4).trans rfl)) ?_;refine ah aI ?_;refine ah (bF ud S.b1 uC) ?_;refine ah (kF (vs:=[(0,.int .i64 3),(1,.string s),(2,.agg (wX x))]) (axG s x)) ?_;obtain⟨X,wj,N3,l,U,x6,hk,I,z⟩:=S.lg Y (e:=⟨3,s,x,[]⟩) (az0 hs hx) (by rw[j];omega);have j:=(I.block _ B.ne).trans (hk B.b fun e=>B.kv (.inr e.symm));have aBI:=B.lo;refine ah Ki ?_;refine ah (rB rfl rfl rfl l) ?_;refine ah (br tj) ?_;refine qO (pS rfl rfl rfl (by kernel_rfl) U ((x6.cell 4).trans rfl) (x6.frozen 4)) ?_;have j:aA (wj.setCell ⟨G.heap.size,0+4,none⟩ X) g9 102 (fN q.2):=j;generalize wj.setCell ⟨G.heap.size,0+4,none⟩ X=l at z j ⊢;clear S x6 hk I B;refine bn ?_;refine CW.sl [6,7,9,12] ?_;refine CW.seq (CW.any (fun W=>aA W G.heap.size 29 (aD ve vp vu vs X)/\aA W g9 102 (fN q.2)) 4 mo fun wl hwd c=>⟨⟨z.q6.below c z.q6.lt,j.below c j.lt⟩,?_⟩);have F:=z.below c;have Z:=j.below c j.lt;clear c;refine bf 0 rfl (fun W hW=>bF cN hW.1 bE) ⟨F.q6,Z⟩ ?_;refine bf 1 rfl (fun W hW=>bF gC hW.2 cz) ⟨F.q6,Z⟩ ?_;have hlo:=F.lo;refine iQ 2 rfl (cs:=aD ve vp vu vs X) rfl F.b2 F.one bE (fun W o _=>⟨(o.block _ (by omega)).trans F.q6,(o.block _ (by omega)).trans Z⟩) fun wm z4 H=> ?_;have z5:=(H.block (w.heap.size+3) (by omega)).trans F.b3;have zs:∀W,bU wm W (w.heap.size+3)->aA W G.heap.size 29 (aD ve vp vu vs X)/\aA W g9 102 (fN q.2):=fun W o=>⟨((o.block _ (by omega)).trans (H.block _ (by omega))).trans F.q6,((o.block _ (by omega)).trans (H.block _ (by omega))).trans Z⟩;refine iQ 3 rfl (cs:=fN q.2) rfl z5 (Pf _) cz (fun W o _=>zs W o) fun wn y5 I=> ?_;have y4:=(I.block (w.heap.size+2) (by omega)).trans z4;refine gP 4 rfl bN (fun h=>absurd rfl h) ?_;obtain⟨hr,C⟩:=F.out Y (by decide) (by decide) H I;refine iH (by kernel_rfl) (aL (CW.ret (rN rfl rfl y4 y5 cN gC bE cz ⟨_,rfl,?_,C⟩)));have hd:oI h s x=(qB f ⟨3,s,x,[]⟩,q.2,true):=by unfold oI;rw[aw (by rw[J,Ux];simp),aw (by rw[ni];simp)];simp only[hid,xu,V];rw[aw p,hgg, <-hf]
 rw[hd];exact⟨_,rfl,_,_,rfl,hr,_,_,rfl,oQ _ _,_,_,rfl,rfl,rfl⟩
def ayH(h:Host)(s:ByteArray)(x:Call)(hx:x.text.size<4294967281)(b:oz h):aH az 114 none [enc h,.str s,enc x] (.aU [enc (oI h s x).1,enc (oI h s x).2.1,.bool (oI h s x).2.2]) [] :=
 CO (by kernel_rfl) fun w M vs G c=>by obtain⟨v,_,rfl,e,j,_,rfl,⟨rfl,f⟩,l,_,rfl,a,rfl⟩:=c;obtain⟨rfl,_⟩:=Z3 a;exact aK1 G e f a hx b
section
variable {n:Nat}{P:Program}{ops:Array Oper}{Q:Exit->Act->World->Prop}{S:World->Prop}{s k:Nat}{L:Array Bool}{E:List (Nat×Value)}{w w':World}{i d:Nat}{o:Oper}{v:Value}
def Yq(i:Nat)(ho:ops.toList[i]? =some o)(l:Region.ready .any ops L=[i])(hg:o.guard=some (j,b))(p:(ops[j]?).bind (·.dst)=some e)(hb:lk E e=some (.bool b))(hd:o.dst=some d)(u:eI n P E o w v w')(c:d<n)(q:i≠s->S w')(h:AU n P ops Q S s k (L.setIfInBounds i true) ((d,v)::E) w'):AU n P ops Q S s (k+1) L E w:=fun a f=>
 IX ho l fun x t=>by rw[aC (Yj f hg p hb)];unfold Oper.wp;rw[u a f,Mk,hd];exact t _ _ q fun _=>h _ (f.put c v)
def AU.no(i:Nat)(ho:ops.toList[i]? =some o)(l:Region.ready .any ops L=[i])(hg:o.guard=some (j,!b))(p:(ops[j]?).bind (·.dst)=some e)(hb:lk E e=some (.bool b))(hd:o.dst=some d)(c:d<n)(q:i≠s->S w)(h:AU n P ops Q S s k (L.setIfInBounds i true) ((d,undef)::E) w):AU n P ops Q S s (k+1) L E w:=fun a f=>
 IX ho l fun u t=>by rw[aw (by rw[avd f hg p hb];simp),hd];exact t _ _ q fun _=>h _ (f.put c undef)
def avj{f:FuncId}{args:Array Value}{R:Ending->World->Prop}(i:Nat)(ho:ops.toList[i]? =some o)(p:Region.ready .any ops L=[i])(hg:o.guard=some (j,b))(q:(ops[j]?).bind (·.dst)=some e)(hb:lk E e=some (.bool b))(hd:o.dst=some d)(u:zx n P E o w f args)(c:d<n)(hC:Calls P f args w R)
  (h:∀e w',R e w'->∃v,e=.returned v/\(i≠s->S w')/\AU n P ops Q S s k (L.setIfInBounds i true) ((d,v)::E) w'):AU n P ops Q S s (k+1) L E w:=fun a l=>
 IX ho p fun A t=>by rw[aC (Yj l hg q hb)];unfold Oper.wp;rw[u a l];refine hC.mono fun e w' x=> ?_;obtain⟨v,rfl,y,z⟩:=h e w' x;rw[hd];exact t _ _ y fun _=>z _ (l.put c v)
def aFB{T e:TypeId}{i:TypeInfo}{x:Operand}{u0 u1 u2 u3 u4 z0 z1 z2 z3 z4:Value}(ho:o.op=.buildSlice T 1 #[(0,x)])(hx:ev E x=some (.agg #[u0,u1,u2,u3,u4]))(hT:P.underlying T=some (.slice e))(hi:P.info? e=some i)(hsz:i.size=5)(hz:i.zero=some (.agg #[z0,z1,z2,z3,z4])) :
  eI n P E o w (.slice (some ⟨w.heap.size,0,none⟩) 1 1) (w.alloc (.cells #[u0,u1,u2,u3,u4] e)):=fun a hE=>by
 have hr:Array.range 5=#[0,1,2,3,4]:=by decide
 simp[execOp,ho,hE.ev hx,Instr.buildSlice,run_underlying hT,run_sizeOf hi,hsz,zeroValue,run_typeInfo hi,hz,Value.cells,Instr.fill,newRow,hr]
def aFA{T e:TypeId}{i:TypeInfo}{z0 z1 z2 z3 z4:Value}(ho:o.op=.buildSlice T 0 #[])(hT:P.underlying T=some (.slice e))(hi:P.info? e=some i)(hsz:i.size=5)(hz:i.zero=some (.agg #[z0,z1,z2,z3,z4])) :
  eI n P E o w (.slice (some ⟨w.heap.size,0,none⟩) 0 0) (w.alloc (.cells #[] e)):=fun a hE=>by
 have hr:Array.range 0=#[]:=by decide
 simp[execOp,ho,Instr.buildSlice,run_underlying hT,run_sizeOf hi,hsz,zeroValue,run_typeInfo hi,hz,Value.cells,Instr.fill,newRow,hr]
end
section
variable {M:Addr->Prop}{N N':Nat->Prop}{w w':World}{T m:Nat}{rows:List (List D)}{v:Value}
def OR.aFu{b cap i:Nat}{r:List D}{d:D}(h:OR M N w T m rows (.slice (some ⟨b,0,none⟩) rows.length cap))(B:rows[i]? =some r)(hj:j<m)(p:v.oneCell'=true)(hR:R w (BM M N) d v):OR M N (w.setCell ⟨b,i*m+j,none⟩ v) T m (rows.set i (r.set j d)) (.slice (some ⟨b,0,none⟩) rows.length cap)/\bU w (w.setCell ⟨b,i*m+j,none⟩ v) b/\(∃u,w.cell? ⟨b,i*m+j,none⟩=some u)/\w.frozen? ⟨b,i*m+j,none⟩=false:=by
 have C:N b:=(h.lt b rfl).1;have F:=(dh.1 B).1;obtain⟨G,X,t,U,Y⟩:=h;obtain⟨a,⟨z,c⟩|⟨l,Z,f,z,V,p2,J,p4,O,p6⟩⟩:=t
 ·cases z
 simp only[fE,aS,kC,yf,wV]at z;obtain⟨rfl,rfl⟩:=z;have H:X.length=rows.length*m:=a;have a:i*m+m<=rows.length*m:=by have:(i+1)*m<=rows.length*m:=mw _ (by omega);rw[iK,oG]at this;exact this
 have a:rows.length*m<=f.size:=by rw[O];exact mw _ J
 have x:aA w b T f:=p2;have y:=x.xN (i*m+j) v;have t:bU w (w.setCell ⟨b,i*m+j,none⟩ v) b:=(bU.refl w b).set (i*m+j) v;have kp:bQ w (BM M N) (w.setCell ⟨b,i*m+j,none⟩ v) (BM M N):=BM.one t C;have I:=G r (jB B);refine⟨⟨fun q Z=> ?_,X.set (i*m+j) v,?_,U,fun l A z C c a=> ?_⟩,t,?_,x.frozen _⟩
 ·rcases sZ Z with h|h
  ·exact G q h
  ·rw[h,uX];exact I
 ·rw[uX];refine⟨by rw[uX];exact H,.inr ⟨b,cap,_,rfl,V,y,J,p4,by rw[Array.size_setIfInBounds];exact O,?_⟩⟩;rw[agV,List.take_set,p6]
 ·by_cases e:l=i
  ·subst e;rw[Rg F]at c;cases c;by_cases t:A=j
   ·subst t;rw[Rg (by omega)]at a;cases a;exact⟨v,by rw[Rg (by omega)],p,R.keep kp _ _ hR⟩
   ·rw[Me (fun h=>t h.symm)]at a;obtain⟨u,J,O,U⟩:=Y l A r C B a;exact⟨u,by rw[Me (by omega)];exact J,O,R.keep kp _ _ U⟩
  ·rw[Me (fun h=>e h.symm)]at c;obtain⟨u,J,O,U⟩:=Y l A z C c a;have t:A<m:=by rw[<-G z (jB c)];exact(dh.1 a).1
   refine⟨u,?_,O,R.keep kp _ _ U⟩;rw[Me]
   ·exact J
   ·rcases dP l i with V|a
    ·have:(l+1)*m<=i*m:=mw _ V;rw[iK,oG]at this;omega
    ·have:(i+1)*m<=l*m:=mw _ (by omega);rw[iK,oG]at this;omega
 ·have a:i*m+j<f.size:=by omega
  exact⟨f[i*m+j],by unfold World.cell?;simp only[p2];simp[a]⟩
end
def HV:Array Value:=#[.string ⟨#[]⟩,aP,.int .i64 0,.int .i64 0,aP]
def ald:(az.info? 59).bind (·.zero)=some (.agg HV):=by kernel_rfl
def Ox:(az.info? 59).map (·.size)=some 5:=by kernel_rfl
def aaK{e:Entry}(h:R w M (enc e) v):∃a b,v=.agg #[.string e.name,a,.int .i64 e.jw.l8,.int .i64 e.jw.min,b]/\R w M (aj e.recipe) a/\R w M (aj e.needs) b:=by
 obtain⟨cs,rfl,v0,r0,c,⟨rfl,l⟩,v1,r1,rfl,f,p,r2,rfl,⟨rfl,q⟩,t,r3,rfl,⟨rfl,u⟩,v4,r4,rfl,j,rfl⟩:=h;have:cs=#[.string e.name,v1,.int .i64 e.jw.l8,.int .i64 e.jw.min,v4]:=by rw[<-iX,c]
 exact⟨v1,v4,by rw[this],f,j⟩
structure CE(M:Addr->Prop)(N0 N:Nat->Prop)(w W:World)(l:List Entry)(k:Nat)(v:Value):Prop where
 bw:Below w.heap.size w W
 n1:∀x,N0 x->N x
 n2:∀x,N x->N0 x\/w.heap.size<=x
 n3:∀x,N x->x<W.heap.size
 o:OR M N W 59 5 ((l.take k).map aB.cells) v
 ow:∀x,v.ownBlock=some x->w.heap.size<=x
def CE.below{a:Nat->Prop}{l:List Entry}{k:Nat}(C:CE M a N w W l k v)(hb:Below W.heap.size W W'):CE M a N w W' l k v :=
 {C with bw:=bt C.bw hb,n3:=fun x h=>dS (C.n3 x h) hb.size,o:=C.o.below hb (fun x h=>.inl h) fun x h=>h}
set_option maxHeartbeats 4000000 in
def aK0{M:Addr->Prop}{N0:Nat->Prop}{w:World}{l:List Entry}{v:Value}(hG:ek w (BM M N0))(h:R w (BM M N0) (aj l) v)(hl:l.length<=1048576)(hf:∀e∈l,e.fit) :
  Calls az 57 #[v] w fun e w'=>∃N v',e=.returned v'/\CE M N0 N w w' l l.length v':=by
 obtain⟨a,cap,hv,_,hel⟩:=mA (ma (n:=5) (fun _=>rfl) l) h;rw[di]at hv;subst hv;obtain⟨ti,aK,hz,hsz,hby⟩:=wT (P:=az) (e:=59) (z:=.agg #[.string ⟨#[]⟩,aP,.int .i64 0,.int .i64 0,aP]) (size:=5) (bytes:=80) (by kernel_rfl);refine pH (E:=[(0,.slice a l.length cap)]) Tryz.func57 rfl Tryz.ntmps57 (by simp) (by simp) ?_;refine aO ?_;refine ah bN ?_;refine bn ?_;refine aO ?_;refine ah (aFA rfl mR aK hsz hz) ?_;refine ah bN ?_;have JC:=iA w #[] 59;have hzz:(w.alloc (.cells #[] 59)).heap.size=w.heap.size+1:=gb _ _;have ow:(w.alloc (.cells #[] 59)).ownsRow 0 59 5 (.slice (some ⟨w.heap.size,0,none⟩) 0 0) 0 []:=⟨rfl,.inr ⟨w.heap.size,0,#[],rfl,fW _,vg w _,bM _,fW _,rfl,rfl⟩⟩;have C0:CE M N0 (fun x=>N0 x\/x=w.heap.size) w (w.alloc (.cells #[] 59)) l 0 (.slice (some ⟨w.heap.size,0,none⟩) 0 0) :=
  ⟨JC,fun x hx=>.inl hx,fun x hx=>hx.imp id fun e=>by omega,fun x hx=>by
   rcases hx with hx|hx
   ·have:x<w.heap.size:=hG.1 ⟨x,0,none⟩ (.inr hx);omega
   ·omega,⟨fun r hr=>by simp at hr,[],ow,fun x hx=>by cases hx;exact .inr rfl,fun i j r d hi=>by simp at hi⟩,fun x hx=>by cases hx;exact bM _⟩
 generalize w.alloc (.cells #[] 59)=wd at JC hzz ow C0 ⊢;refine bn ?_;refine CW.seq (aO ?_);refine ah aI ?_;refine ah (yV rfl rfl rfl rfl mR rfl) ?_;refine ah aI ?_;refine bn ?_;refine CW.sl [7,8,9,3] ?_;refine CW.block (CW.loop (fun m E' wr=>∃(k:Nat) (N:Nat->Prop) (v:Value),m+k=l.length/\E'=[(7,.slice a l.length cap),(8,.int .i64 (l.length:Int)),(9,.int .i64 (k:Int)),(3,v)]/\CE M N0 N w wr l k v) l.length ⟨0,_,_,rfl,rfl,C0⟩ ?_);clear C0 ow JC hzz;rintro m E' wr ⟨k,N,v,hmk,rfl,C⟩;refine aO ?_;rcases rU m with hm0|hm0
 ·subst hm0;obtain rfl:k=l.length:=by omega
  refine ah (gX (b:=false) (hb:=by simp[bg])) ?_;refine WL.nil (aL (CW.seq (CW.no (CW.exit (qg (qg (AV (aL ?_))))))));refine aO ?_;refine ah aI ?_;refine ah bN ?_;refine WL.nil (aL (CW.ret ?_));exact LU rfl rfl ⟨N,v,rfl,C⟩
 obtain⟨m',rfl⟩:∃m',m=m'+1:=⟨m-1,by omega⟩;have hk:k<l.length:=by omega
 refine ah (gX (b:=true) (hb:=by simp[bg];omega)) ?_;refine WL.nil (aL (CW.seq (eC (CW.skip (aL ?_)))));obtain⟨eb,eo,us,rfl,jq,hRs,hcell⟩:=hel k _ (get_map l hk);obtain⟨e,he⟩:∃e,nth l k=e:=⟨_,rfl⟩;have hef:e.fit:=by rw[<-he];exact hf _ (gK hk)
 rw[he]at hRs;have hR0:R w (BM M N0) (enc e) (.agg us.toArray):=⟨_,rfl,hRs⟩;refine CW.seq (CW.block ?_);refine aO ?_;refine ah (nZ hk M7) ?_;refine ah (yX (cs:=us) rfl rfl Zq rfl (by rw[jq];exact Ox) fun j u hu=>by rw[tU];have hc:=hcell j u hu;rw[C.bw.cell (gm hc)];exact hc) ?_
 refine ah (eQ rfl ald) ?_;have fw:=iA wr HV 59;have hzA:=gb wr (.cells HV 59);have sA:aA (wr.alloc (.cells HV 59)) wr.heap.size 59 HV:=aA.new wr _ _;change WL _ _ _ _ _ _ (wr.alloc (.cells HV 59));generalize wr.alloc (.cells HV 59)=wa at fw hzA sA ⊢;have aBV:∀u∈us.toArray.toList,u.oneCell'=true:=by
  obtain⟨S1,S2,e1,h1,h2⟩:=aaK hR0;have e1:us.toArray=#[.string e.name,S1,.int .i64 e.jw.l8,.int .i64 e.jw.min,S2]:=by injection e1
  rw[e1];intro u hu;simp at hu;rcases hu with rfl|rfl|rfl|rfl|rfl
  ·rfl
  ·exact kY (show R w _ (.sl (e.recipe.map aB.cells)) _ from h1)
  ·rfl
  ·rfl
  ·exact kY (show R w _ (.sl (e.needs.map aB.cells)) _ from h2)
 refine bW rfl (cs:=us.toArray) rfl sA (hC:=(show(5:Nat)=us.length from jq.symm)) aBV (by rw[List.size_toArray,jq];exact Ox) fun wb tB DS=> ?_;have C1:CE M N0 (fun x=>N x\/x=wr.heap.size) w wb l k v :=
  have qY:=bt C.bw fw;have hsw:=C.bw.size
  ⟨⟨DS.os.trans qY.os,DS.tape.trans qY.tape,DS.output.trans qY.output,by rw[DS.size];exact qY.size,fun i hi=>(DS.block i (by omega)).trans (qY.block i hi)⟩,fun x hx=>.inl (C.n1 x hx),fun x hx=>hx.elim (C.n2 x) fun e=>.inr (by omega),fun x hx=>by
   rw[DS.size];rcases hx with hx|hx
   ·have:=C.n3 x hx;omega
   ·omega,(C.o.below fw (N':=fun x=>N x\/x=wr.heap.size) (fun x hx=>hx.imp id fun e=>by omega) fun x hx=>.inl hx).one DS (.inr rfl) fun e=>by have:=(C.o.lt _ e).2;omega,C.ow⟩
 have cM:∀{N:Nat->Prop} {W:World} {k:Nat} {v:Value},CE M N0 N w W l k v->ek W (BM M N):=fun C=>⟨fun q hq=>hq.elim (fun hq=>dS (hG.1 q (.inl hq)) C.bw.size) (C.n3 _),hG.2.1.keep fun k hk=>C.bw.block k (dS hk hG.2.2),dK hG.2.2 C.bw.size⟩;have JU:v.ownBlock≠some wr.heap.size:=fun e=>by have:=(C.o.lt _ e).2;omega
 clear C fw hzA sA DS;refine bn ?_;refine CW.region ?_;refine ah aI ?_;refine ah (bF Zq tB (by rw[List.size_toArray,jq];exact Ox)) ?_;refine dD (aH.calls (aH.eB (ahO e hef)) (cM C1) (vs:=[.agg us.toArray]) ⟨_,[],rfl,db hR0 C1.bw C1.n2,rfl⟩) ?_;rintro _ wc ⟨cv,rfl,hcv,hbc⟩;obtain⟨S1,S2,rfl,h1,h2⟩:=aaK hcv;refine⟨_,rfl,?_⟩;have C2:=C1.below hbc;clear C1 hbc tB;refine ah (aFB rfl rfl mR aK hsz hz) ?_;obtain⟨xs,hxs⟩:∃xs:List Value,xs=[.string e.name,S1,.int .i64 e.jw.l8,.int .i64 e.jw.min,S2]:=⟨_,rfl⟩;rw[show(#[.string e.name,S1,.int .i64 e.jw.l8,.int .i64 e.jw.min,S2]:Array Value)=xs.toArray by rw[hxs]]at hcv ⊢;have hxl:xs.length=5:=by rw[hxs];rfl
 have aBW:∀u∈xs,u.oneCell'=true:=by
  rw[hxs];intro u hu;simp at hu;rcases hu with rfl|rfl|rfl|rfl|rfl
  ·rfl
  ·exact kY (show R wc _ (.sl (e.recipe.map aB.cells)) _ from h1)
  ·rfl
  ·rfl
  ·exact kY (show R wc _ (.sl (e.needs.map aB.cells)) _ from h2)
 have hbd:=iA wc xs.toArray 59;have hnew:∀(j:Nat) (u:Value),xs[j]? =some u->(wc.alloc (.cells xs.toArray 59)).cell? ((⟨wc.heap.size,0,none⟩:Addr).add j)=some u:=fun j u hu=>FC (w:=wc) (xs:=xs) (T:=59) j u hu;generalize wc.alloc (.cells xs.toArray 59)=we at hbd hnew ⊢;have C3:=C2.below hbd;have hcv:=db (N':=fun x=>N x\/x=wr.heap.size) hcv hbd fun x hx=>.inl hx;have qw:Rs we (BM M fun x=>N x\/x=wr.heap.size) (aB.cells e) xs:=by obtain⟨cs,FI,hR⟩:=hcv;cases FI;exact hR
 clear C2 hbd;have BB:((l.take k).map (aB.cells (α:=Entry))).length=k:=by rw[di,lG];omega
 obtain⟨v',wf,hap,hO,hg,how⟩:=or_append (P:=az) (ty:=24) (c:=1) (a:=⟨wc.heap.size,0,none⟩) mR aK hz hsz hby rfl (by decide) C3.o C3.n3 (r:=aB.cells e) (us:=xs) rfl hxl (fun j d hj=>qw.get hj) hnew aBW (by rw[BB];omega) (by decide);have hO:OR M (fun x=>(N x\/x=wr.heap.size)\/v'.ownBlock=some x) wf 59 5 ((l.take (k+1)).map aB.cells) v':=by rw[Pr hk,he,zC];exact hO
 have Cf:CE M N0 (fun x=>(N x\/x=wr.heap.size)\/v'.ownBlock=some x) w wf l (k+1) v' :=
  have hsw:=C3.bw.size;have hb:=C3.bw
  have owe:∀x,v'.ownBlock=some x->w.heap.size<=x:=fun x hx=>by
   rcases how with h3|h3
   ·exact C3.ow x (h3▸hx)
   ·rw[h3]at hx;have:=iR hx;omega
  ⟨⟨hg.os.trans hb.os,hg.tape.trans hb.tape,hg.output.trans hb.output,dK hb.size hg.size,fun i hi=>(hg.block i (by omega) fun e=>by have:=C3.ow _ e.symm;omega).trans (hb.block i hi)⟩,fun x hx=>.inl (C3.n1 x hx),fun x hx=>hx.elim (C3.n2 x) fun e=>.inr (owe x e),fun x hx=>hx.elim (fun hx=>dS (C3.n3 x hx) hg.size) fun hx=>(hO.lt x hx).2,hO,owe⟩
 refine ah (rB rfl rfl rfl hap) ?_;refine ah bN ?_;refine WL.nil ?_;refine rO (aL (CW.region ?_));refine ah (iE (r:=((k+1:Nat):Int)) (hb:=by rw[bC];omega)) ?_;refine ah aI ?_;exact WL.nil (NX.ag m' ⟨k+1,_,v',by omega,rfl,Cf⟩)
end
end Go.Proofs.YtoomhbopolalnabGreatDoor
