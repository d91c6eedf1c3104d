/- Walk: a host is copied (the reference's l7Copy). -/
import Derived.Test.YtoomhbopolalnabGreatDoorT21
set_option linter.all false
set_option maxRecDepth 100000
namespace Go.Proofs.YtoomhbopolalnabGreatDoor
variable {M:Addr->Prop}{h:Host}{rows:List (List D)}{b:Nat}{v:Value}{w w':World}
section
open Go.RowKit Go
variable [GC]
def ai5{row:Option Nat}(h:w.grownBy w' row)(hb:∀x,row=some x->x=b):dr (fun x=>x=b) w w':=⟨h.os,h.tape,h.output,h.size,fun i a c=>h.block i a fun e=>c (hb i e.symm)⟩
def aAe(h:bU w w' b):dr (fun x=>x=b) w w':=⟨h.os,h.tape,h.output,lH h.size.symm,fun i c a=>h.block i a⟩
section
variable {M:Addr->Prop}{N N':Nat->Prop}{w0 W W':World}{h:Host}{cs:Array Value}{j g b kp kl:Nat}{ve vu vs vp vl Em cY:Value}
def BM.fr(f:dr (fun x=>x=b) W W')(hb:N b\/W.heap.size<=b)(k:∀x,N' x->N x\/W.heap.size<=x):bQ W (BM M N) W' (BM M N'):=fun p u c a=>by
 have i:=gm c;have e:W'.heap[p.block]? =W.heap[p.block]? :=f.block p.block i fun e=>hb.elim (fun hb=>a (.inr (by show N p.block;rw[e];exact hb))) fun hb=>by omega
 exact⟨by unfold World.cell? at c ⊢;rw[e];exact c,fun h=>h.elim (fun h=>a (.inl h)) fun h=>(k _ h).elim (fun h=>a (.inr h)) fun h=>by omega⟩
def CF.aW(H:CF M N w0 W h cs j ve vu vs)(f:dr (fun x=>x=b) W W')(hb:N b\/W.heap.size<=b)(r:w0.heap.size+2<=b)(u:∀x,vu.ownBlock=some x->x≠b)(p:∀x,N' x->N x\/(W.heap.size<=x/\x<W'.heap.size))(k:∀x,N x->N' x):CF M N' w0 W' h cs j ve vu vs:=by
 have kp:=BM.fr (M:=M) (N':=N') f hb fun x a=>(p x a).imp id C4;have b2:=H.b2.lt;exact⟨⟨f.os.trans H.bl.os,f.tape.trans H.bl.tape,f.output.trans H.bl.output,dK H.bl.size f.size,fun i q=>(f.block i (dS q H.bl.size) (by omega)).trans (H.bl.block i q)⟩,(f.block _ H.b1.lt (by omega)).trans H.b1,(f.block _ H.b2.lt (by omega)).trans H.b2,
  fun x a=>(p x a).elim (fun h=>⟨(H.nw x h).1,dS (H.nw x h).2 f.size⟩) (fun h=>⟨dK H.bl.size h.1,h.2⟩),k _ H.n1,k _ H.n2,
  fun c=>R.keep kp _ _ (H.e c),fun c=>⟨(H.u c).1.keep (fun x a=>f.block x ((H.u c).1.lt x a).2 (u x a)) kp fun x a=>k x ((H.u c).1.lt x a).1,(H.u c).2⟩,fun c=>R.keep kp _ _ (H.s c)⟩
structure LS(M:Addr->Prop)(N:Nat->Prop)(w0 W:World)(h:Host)(cs:Array Value)(ve vu vs:Value)(g kp kl:Nat)(vp vl:Value):Prop where
 cf:CF M N w0 W h cs 3 ve vu vs
 n:N g
 lo:w0.heap.size+2<=g
 ug:vu.ownBlock≠some g
 p:OR M N W 87 6 ((h.parts.take kp).map aB.cells) vp
 pa:∀x,vp.ownBlock=some x->w0.heap.size+2<=x/\x≠g/\vu.ownBlock≠some x
 l:OR M N W 33 7 ((h.log.take kl).map aB.cells) vl
 la:∀x,vl.ownBlock=some x->w0.heap.size+2<=x/\x≠g/\vu.ownBlock≠some x/\vp.ownBlock≠some x
def LS.below(H:LS M N w0 W h cs ve vu vs g kp kl vp vl)(hb:Below W.heap.size W W'):LS M N w0 W' h cs ve vu vs g kp kl vp vl :=
 {H with
  cf:=H.cf.below hb (fun x a=>.inl a) fun x a=>a
  p:=H.p.below hb (fun x a=>.inl a) fun x a=>a
  l:=H.l.below hb (fun x a=>.inl a) fun x a=>a}
def LS.one(H:LS M N w0 W h cs ve vu vs g kp kl vp vl)(c:bU W W' g):LS M N w0 W' h cs ve vu vs g kp kl vp vl :=
 {H with
  cf:=H.cf.aW (aAe c) (.inl H.n) H.lo (fun x a e=>H.ug (e▸a)) (fun x a=>.inl a) fun x a=>a
  p:=H.p.one c H.n fun e=>(H.pa g e).2.1 rfl
  l:=H.l.one c H.n fun e=>(H.la g e).2.1 rfl}
def amD{T m:Nat}(h:OR M N W T m rows v)(t:w0.heap.size+2<=W.heap.size)(c:∀x,v.ownBlock=some x->w0.heap.size+2<=x):∃b,(N b\/W.heap.size<=b)/\w0.heap.size+2<=b/\(∀x,v.ownBlock=some x->x=b)/\(v.ownBlock=some b\/b=W.heap.size):=by
 cases e:v.ownBlock with
 |none=>exact⟨W.heap.size,.inr (bM _),t,fun x a=>(by cases a),.inr rfl⟩
 |some b=>exact⟨b,.inl (h.lt b e).1,c b e,fun x a=>(by cases a;rfl),.inl rfl⟩
def LS.aAp(H:LS M N w0 W h cs ve vu vs g kp kl vp vl)(hg:W.grownBy W' vp.ownBlock)(o:OR M (fun x=>N x\/Em.ownBlock=some x) W' 87 6 ((h.parts.take (kp+1)).map aB.cells) Em)(i:Em.ownBlock=vp.ownBlock\/Em.ownBlock=some W.heap.size) :
  LS M (fun x=>N x\/Em.ownBlock=some x) w0 W' h cs ve vu vs g (kp+1) kl Em vl:=by
 have A:=H.cf.b2.lt;obtain⟨b,s,k,r,p⟩:=amD H.p (by omega) fun x a=>(H.pa x a).1;have f:=ai5 hg r;have t:∀x,(N x\/Em.ownBlock=some x)->N x\/(W.heap.size<=x/\x<W'.heap.size):=fun x a=>a.elim .inl fun e=>by
  rcases i with c|c
  ·exact .inl (H.p.lt x (c▸e)).1
  ·have:=(o.lt x e).2;rw[c]at e;have:=iR e;exact .inr ⟨by omega,by omega⟩
 have u:=(H.cf.u (by decide)).1.lt;have q:∀x,vu.ownBlock=some x->x≠b:=fun x a e=>by
  subst e;rcases p with c|c
  ·exact(H.pa _ c).2.2 a
  ·have:=(u x a).2;omega
 refine⟨H.cf.aW f s k q t fun x a=>.inl a,.inl H.n,H.lo,H.ug,o,fun x a=> ?_,?_,fun x a=> ?_⟩
 ·rcases i with c|c
  ·exact H.pa x (c▸a)
  ·rw[c]at a;have e:=iR a;have y:=(H.cf.nw g H.n).2;exact⟨by omega,by omega,fun z=>by have:=(u x z).2;omega⟩
 ·exact H.l.keep (fun x a=>f.block x (H.l.lt x a).2 fun e=>by
   subst e;rcases p with c|c
   ·exact(H.la _ a).2.2.2 c
   ·have:=(H.l.lt x a).2;omega) (BM.fr f s fun x a=>(t x a).imp id C4) fun x a=>.inl (H.l.lt x a).1
 ·obtain⟨q1,q2,q3,q4⟩:=H.la x a;refine⟨q1,q2,q3,fun e=> ?_⟩;rcases i with c|c
  ·exact q4 (c▸e)
  ·rw[c]at e;have:=iR e;have:=(H.l.lt x a).2;omega
def LS.aaW(H:LS M N w0 W h cs ve vu vs g kp kl vp vl)(hg:W.grownBy W' vl.ownBlock)(o:OR M (fun x=>N x\/cY.ownBlock=some x) W' 33 7 ((h.log.take (kl+1)).map aB.cells) cY)(i:cY.ownBlock=vl.ownBlock\/cY.ownBlock=some W.heap.size) :
  LS M (fun x=>N x\/cY.ownBlock=some x) w0 W' h cs ve vu vs g kp (kl+1) vp cY:=by
 have A:=H.cf.b2.lt;obtain⟨b,t,k,r,p⟩:=amD H.l (by omega) fun x a=>(H.la x a).1;have f:=ai5 hg r;have y:∀x,(N x\/cY.ownBlock=some x)->N x\/(W.heap.size<=x/\x<W'.heap.size):=fun x a=>a.elim .inl fun e=>by
  rcases i with c|c
  ·exact .inl (H.l.lt x (c▸e)).1
  ·have:=(o.lt x e).2;rw[c]at e;have:=iR e;exact .inr ⟨by omega,by omega⟩
 have u:=(H.cf.u (by decide)).1.lt;have q:∀x,vu.ownBlock=some x->x≠b:=fun x a e=>by
  subst e;rcases p with c|c
  ·exact(H.la _ c).2.2.1 a
  ·have:=(u x a).2;omega
 refine⟨H.cf.aW f t k q y fun x a=>.inl a,.inl H.n,H.lo,H.ug,?_,H.pa,o,fun x a=> ?_⟩
 ·exact H.p.keep (fun x a=>f.block x (H.p.lt x a).2 fun e=>by
   subst e;rcases p with c|c
   ·exact(H.la _ c).2.2.2 a
   ·have:=(H.p.lt x a).2;omega) (BM.fr f t fun x a=>(y x a).imp id C4) fun x a=>.inl (H.p.lt x a).1
 ·rcases i with c|c
  ·exact H.la x (c▸a)
  ·rw[c]at a;have e:=iR a;have z:=(H.cf.nw g H.n).2;exact⟨by omega,by omega,fun s=>by have:=(u x s).2;omega,fun s=>by have:=(H.p.lt x s).2;omega⟩
end
def Gf(i:R w M (enc h) v):∃ae ap u a al,v=.agg (aD ae ap u a al)/\R w M (aj h.entries) ae/\R w M (aj h.parts) ap/\R w M (aj h.up) u/\R w M (aj h.shut) a/\R w M (aj h.log) al:=by
 obtain⟨cs,rfl,v0,r0,k,p,v1,r1,rfl,q,c,r2,rfl,r,f,r3,rfl,s,v4,r4,rfl,t,rfl⟩:=i;have:cs=aD v0 v1 c f v4:=by rw[<-iX,k];rfl
 exact⟨v0,v1,c,f,v4,by rw[this],p,q,r,s,t⟩
def Pr{α:Type}[Inhabited α]{l:List α}{k:Nat}(h:k<l.length):l.take (k+1)=l.take k++[nth l k]:=by rw[Mi,nth,List.getD,bX h];rfl
def FM:vD az 25=some 6:=by kernel_rfl
def azX:vD az 27=some 7:=by kernel_rfl
def Vm:(az.info? 33).map (·.size)=some 7:=by kernel_rfl
def tj:mD az 29 4=some 4:=by kernel_rfl
def Oy:(az.info? 87).bind (·.zero)=some (.agg #[.string ⟨#[]⟩,.bool false,.bool false,aP,.int .i64 0,aP]):=by kernel_rfl
def aCU:(az.info? 33).bind (·.zero)=some (.agg #[.int .i64 0,.string ⟨#[]⟩,.string ⟨#[]⟩,.string ⟨#[]⟩,.int .i64 0,.string ⟨#[]⟩,aP]):=by kernel_rfl
def kY(h:R w M (.sl rows) v):v.oneCell'=true:=by obtain⟨a,n,c,rfl,_⟩:=h;rfl
end
section
open Go.RowKit Go
def aza(a:FuncId->FuncId)(c:Go.Call):Go.Call:={c with callee:=match c.callee with|.value (.func f)=>.value (.func (a f))|x=>x}
def aFf(a:FuncId->FuncId)(s:String)(o:Oper):Oper:={o with op:=match o.op with|.call c=>.call (aza a c)|x=>x,pos:=s}
def ac6(a:FuncId->FuncId)(π:Nat->String):Nat->List Oper->List Oper
 |_,[]=>[]
 |j,o::l=>aFf a (π j) o::ac6 a π (j+1) l
def ren(f:FuncId->FuncId)(π:Nat->Nat->String):Code->Code
 |.region i ops d=>.region i (ac6 f (π i) 0 ops.toList).toArray d
 |.seq a b=>.seq (ren f π a) (ren f π b)
 |.cond c a b=>.cond c (ren f π a) (ren f π b)
 |.block i b=>.block i (ren f π b)
 |.loop b=>.loop (ren f π b)
 |x=>x
noncomputable def bodyC:Code:=Tryz.f23.body.getD .skip
noncomputable def posOf(fn:Func)(i j:Nat):String:=(((GY fn i).toList[j]?).map (·.pos)).getD ""
def aFZ:Tryz.f23.body=some (ren id (posOf Tryz.f23) bodyC):=by kernel_rfl
def ann(f:FuncId):FuncId:=if f=57 then 49 else if f=46 then 50 else if f=58 then 51 else if f=59 then 52 else f
def aF0:Tryz.f16.body=some (ren ann (posOf Tryz.f16) bodyC):=by kernel_rfl
end
variable {π:Nat->Nat->String}{x:Operand}{p:Part}{P:Program}
section
open Go.RowKit Go
variable [GC]
noncomputable def fM(a:FuncId->FuncId)(π:Nat->Nat->String):Array Oper:=(ac6 a (π 1) 0 (GY Tryz.f23 1).toList).toArray
structure QT(ρ:FuncId->FuncId):Prop where
 kc:rW az (ρ 46)=true
 kT:∀{M:Addr->Prop} {N:Nat->Prop} {w:World} {l:List ByteArray} {v:Value},ek w (BM M N)->R w (BM M N) (aj l) v->l.length<1048576->Calls az (ρ 46) #[v] w fun e w'=>∃v',e=.returned v'/\OR M (fun x=>N x\/v'.ownBlock=some x) w' 9 1 (l.map aB.cells) v'/\(∀x,v'.ownBlock=some x->w.heap.size<=x)/\Below w.heap.size w w'
 kE:∀l:List Entry,l.length<=1048576->(∀e∈l,e.fit)->dJ az (ρ 57) none [aj l] (aj l) [] [(0,5)]
 kV:∀e:Event,e.recipe.length<=1048576->dJ az (ρ 59) none [enc e] (enc e) [] [(6,1)]
 kP:∀p:Part,p.core.cells.length<=4294967296->p.ak.length<=4294967296->dJ az (ρ 58) none [enc p] (enc p) [] [(3,2),(5,2)]
set_option maxHeartbeats 4000000 in
def aFS{k:FuncId->FuncId}(K:QT k){M:Addr->Prop}{w0:World}{h:Host}{ae ap p s al:Value}{Q:Exit->Act->World->Prop}(U:∀c a t v w,Q (.panic c) (Act.put a t v) w->Q (.panic c) a w)(J:ek w0 M)(V:R w0 M (aj h.entries) ae)(X:R w0 M (aj h.up) p)(has:R w0 M (aj h.shut) s)
  (hl:h.entries.length<=1048576) (hf:∀e∈h.entries,e.fit) (Y:h.up.length<1048576) (Z:h.shut.length<1048576)
  (fin:∀(N:Nat->Prop) (W:World) (g:Nat) (ve vu vs:Value),CF M N w0 W h (aD ae ap p s al) 3 ve vu vs->N g->aA W g 29 (aD ve fL vu vs fL)->w0.heap.size+2<=g->vu.ownBlock≠some g->NX 49 (Q .normal) [(1,PH w0.heap.size),(2,PH (w0.heap.size+1)),(3,PH g)] W)
  (N:Nat->Prop) (W:World) (H:CF M N w0 W h (aD ae ap p s al) 0 fL fL fL) :
  AU 49 az (fM k π) Q (fun W=>aA W w0.heap.size 29 (aD ae ap p s al)) 11 12 (Array.replicate 12 false) [(1,PH w0.heap.size),(2,PH (w0.heap.size+1))] W:=by
 have sl:∀{W:World} {M:Addr->Prop} {rows:List (List D)} {v:Value},R W M (.sl rows) v->∃a n c,v=.slice a n c:=fun h=>by obtain⟨a,n,c,rfl,_⟩:=h;exact⟨a,n,c,rfl⟩
 have G:∀(N:Nat->Prop) (W:World) (ve:Value) (vu:Value) (vs:Value) (g:Nat),CF M N w0 W h (aD ae ap p s al) 3 ve vu vs->AL N w0 W 3 vu g->AU 49 az (fM k π) Q (fun W=>aA W w0.heap.size 29 (aD ae ap p s al)) 11 1 (pN [0,1,2,3,4,5,6,7,8,9,10]) [(1,PH w0.heap.size),(2,PH (w0.heap.size+1)),(9,ae),(12,p),(15,s),(17,.agg (aD ve fL vu vs fL)),(3,PH g)] W:=by intro N W ve vu vs g H A;obtain⟨a2,c2,rfl,_⟩:=(H.u (by decide)).1.len;obtain⟨I,S,c1,rfl⟩:=sl (show R W _ (.sl (h.entries.map aB.cells)) ve from H.e (by decide));obtain⟨a3,n3,c3,rfl⟩:=sl (show R W _ (.sl (h.shut.map aB.cells)) vs from H.s (by decide));refine iQ (o:=opAt (fM k π) 11) 11 (by kernel_rfl) (hg:=(by kernel_rfl)) (hd:=(by kernel_rfl)) (T:=29) (x:=.tmp 3) (y:=.tmp 17) (C:=#[.slice none 0 0,.slice none 0 0,.slice none 0 0,.slice none 0 0,.slice none 0 0]) (hop:=(by kernel_rfl)) rfl A.b (by intro u f;simp[aD,fL]at f;rcases f with rfl|rfl|rfl|rfl|rfl<;>rfl) bE (fun _ _ h=>absurd rfl h) fun q y O=> ?_;refine iH (by kernel_rfl) ?_;have C:=A.lo;have r:=O.size;have f:=H.bl.size;have z:CF M N w0 q h (aD ae ap p s al) 3 (.slice I S c1) _ (.slice a3 n3 c3):=⟨⟨O.os.trans H.bl.os,O.tape.trans H.bl.tape,O.output.trans H.bl.output,by omega,fun i F=>(O.block i (by omega)).trans (H.bl.block i F)⟩,(O.block _ (by omega)).trans H.b1,(O.block _ (by omega)).trans H.b2,fun x f=>by rw[r];exact H.nw x f,H.n1,H.n2,fun r=>iC (H.e r) O A.n,fun r=>⟨(H.u r).1.one O A.n (A.u r),(H.u r).2⟩,fun r=>iC (H.s r) O A.n⟩;exact fun F O=>fin N q g _ _ _ z A.n y A.lo (A.u (by decide)) F (O.sub ⟨rfl,rfl,rfl,trivial⟩)
 have s4B:∀(N:Nat->Prop) (W:World) (ve:Value) (vu:Value) (vs:Value),CF M N w0 W h (aD ae ap p s al) 3 ve vu vs->AU 49 az (fM k π) Q (fun W=>aA W w0.heap.size 29 (aD ae ap p s al)) 11 2 (pN [0,1,2,3,4,5,6,7,8,9]) [(1,PH w0.heap.size),(2,PH (w0.heap.size+1)),(9,ae),(12,p),(15,s),(17,.agg (aD ve fL vu vs fL))] W:=by
  intro N W ve vu vs H;refine LO (show Region.ready .any (fM k π) (pN [0,1,2,3,4,5,6,7,8,9])=[10] by kernel_rfl) ?_
  ·have y:=iA W #[.slice none 0 0,.slice none 0 0,.slice none 0 0,.slice none 0 0,.slice none 0 0] 29;have hz:=gb W (.cells #[.slice none 0 0,.slice none 0 0,.slice none 0 0,.slice none 0 0,.slice none 0 0] 29);have q:=H.below (N':=fun x=>N x\/x=W.heap.size) y (fun x f=>f.imp id fun f=>by omega) fun x f=>.inl f;have C:=H.b2.lt;have F:AL (fun x=>N x\/x=W.heap.size) w0 (W.alloc (.cells #[.slice none 0 0,.slice none 0 0,.slice none 0 0,.slice none 0 0,.slice none 0 0] 29)) 3 vu W.heap.size:=⟨.inr rfl,xH W,by omega,fun r e=>by have:=((H.u (by decide)).1.lt _ e).2;omega⟩;refine zp (o:=opAt (fM k π) 10) (d:=3) (w':=W.alloc (.cells #[.slice none 0 0,.slice none 0 0,.slice none 0 0,.slice none 0 0,.slice none 0 0] 29)) (eQ (z:=.agg #[.slice none 0 0,.slice none 0 0,.slice none 0 0,.slice none 0 0,.slice none 0 0]) (by kernel_rfl) oT) q.b1 ?_;exact pE (G _ _ _ _ _ _ q F)
 have O:∀(N:Nat->Prop) (W:World) (ve:Value) (vu:Value) (vs:Value) (g:Nat),CF M N w0 W h (aD ae ap p s al) 3 ve vu vs->AL N w0 W 3 vu g->AU 49 az (fM k π) Q (fun W=>aA W w0.heap.size 29 (aD ae ap p s al)) 11 2 (pN [0,1,2,3,4,5,6,7,8,10]) [(1,PH w0.heap.size),(2,PH (w0.heap.size+1)),(9,ae),(12,p),(15,s),(10,ve),(13,vu),(16,vs),(3,PH g)] W:=by
  intro N W ve vu vs g H A;refine LO (show Region.ready .any (fM k π) (pN [0,1,2,3,4,5,6,7,8,10])=[9] by kernel_rfl) ?_
  ·obtain⟨I,S,c1,rfl⟩:=sl (show R W _ (.sl (h.entries.map aB.cells)) ve from H.e (by decide));obtain⟨a2,c2,rfl,_⟩:=(H.u (by decide)).1.len;obtain⟨a3,n3,c3,rfl⟩:=sl (show R W _ (.sl (h.shut.map aB.cells)) vs from H.s (by decide));refine zp (o:=opAt (fM k π) 9) (d:=17) (kF (parts:=#[(0,.tmp 10),(2,.tmp 13),(3,.tmp 16)]) (ho:=(by kernel_rfl)) (ahq I a2 a3 S _ n3 c1 c2 c3)) H.b1 ?_;exact pE (G _ _ _ _ _ _ H A)
 have s3B:∀(N:Nat->Prop) (W:World) (ve:Value) (vu:Value) (vs:Value),CF M N w0 W h (aD ae ap p s al) 3 ve vu vs->AU 49 az (fM k π) Q (fun W=>aA W w0.heap.size 29 (aD ae ap p s al)) 11 3 (pN [0,1,2,3,4,5,6,7,8]) [(1,PH w0.heap.size),(2,PH (w0.heap.size+1)),(9,ae),(12,p),(15,s),(10,ve),(13,vu),(16,vs)] W:=by
  intro N W ve vu vs H;refine LP (show Region.ready .any (fM k π) (pN [0,1,2,3,4,5,6,7,8])=[9,10] by kernel_rfl) ?_ ?_
  ·obtain⟨I,S,c1,rfl⟩:=sl (show R W _ (.sl (h.entries.map aB.cells)) ve from H.e (by decide));obtain⟨a2,c2,rfl,_⟩:=(H.u (by decide)).1.len;obtain⟨a3,n3,c3,rfl⟩:=sl (show R W _ (.sl (h.shut.map aB.cells)) vs from H.s (by decide));refine zp (o:=opAt (fM k π) 9) (d:=17) (kF (parts:=#[(0,.tmp 10),(2,.tmp 13),(3,.tmp 16)]) (ho:=(by kernel_rfl)) (ahq I a2 a3 S _ n3 c1 c2 c3)) H.b1 ?_;exact pE (s4B _ _ _ _ _ H)
  ·have y:=iA W #[.slice none 0 0,.slice none 0 0,.slice none 0 0,.slice none 0 0,.slice none 0 0] 29;have hz:=gb W (.cells #[.slice none 0 0,.slice none 0 0,.slice none 0 0,.slice none 0 0,.slice none 0 0] 29);have q:=H.below (N':=fun x=>N x\/x=W.heap.size) y (fun x f=>f.imp id fun f=>by omega) fun x f=>.inl f;have C:=H.b2.lt;have F:AL (fun x=>N x\/x=W.heap.size) w0 (W.alloc (.cells #[.slice none 0 0,.slice none 0 0,.slice none 0 0,.slice none 0 0,.slice none 0 0] 29)) 3 vu W.heap.size:=⟨.inr rfl,xH W,by omega,fun r e=>by have:=((H.u (by decide)).1.lt _ e).2;omega⟩;refine zp (o:=opAt (fM k π) 10) (d:=3) (w':=W.alloc (.cells #[.slice none 0 0,.slice none 0 0,.slice none 0 0,.slice none 0 0,.slice none 0 0] 29)) (eQ (z:=.agg #[.slice none 0 0,.slice none 0 0,.slice none 0 0,.slice none 0 0,.slice none 0 0]) (by kernel_rfl) oT) q.b1 ?_;exact pE (O _ _ _ _ _ _ q F)
 have S:∀(N:Nat->Prop) (W:World) (ve:Value) (vu:Value) (g:Nat),CF M N w0 W h (aD ae ap p s al) 2 ve vu fL->AL N w0 W 2 vu g->AU 49 az (fM k π) Q (fun W=>aA W w0.heap.size 29 (aD ae ap p s al)) 11 3 (pN [0,1,2,3,4,5,6,7,10]) [(1,PH w0.heap.size),(2,PH (w0.heap.size+1)),(9,ae),(12,p),(15,s),(10,ve),(13,vu),(3,PH g)] W:=by
  intro N W ve vu g H A;refine LO (show Region.ready .any (fM k π) (pN [0,1,2,3,4,5,6,7,10])=[8] by kernel_rfl) ?_
  ·refine CL (o:=opAt (fM k π) 8) (d:=16) (sE (cl:=FD (opAt (fM k π) 8)) (args:=#[s]) K.kc (by kernel_rfl) (by kernel_rfl) rfl) (K.kT (H.cM J) (xy has H.bl fun x f=>(H.nw x f).1) Z) ?_;rintro _ W' ⟨vs,rfl,G,I,y⟩;have q:=H.below (N':=N) y (fun x f=>.inl f) fun x f=>f;have z:CF M N w0 W' h (aD ae ap p s al) 3 ve vu vs:={q with e:=fun _=>q.e (by decide),u:=fun _=>q.u (by decide),s:=fun _=>G.GV (fun x f=>.inl f) fun x f=>⟨fun h=>by have:=I x f;have:=(H.nw x h).2;omega,fun o hm=>by have h1:=I x f;have h2:x<w0.heap.size:=J.1 _ hm;have:=H.bl.size;omega⟩};have F:AL N w0 W' 3 vu g:={A.below (N':=N) y (fun x f=>f)with u:=fun _=>A.u (by decide)};refine⟨_,rfl,z.b1,?_⟩;exact pE (O _ _ _ _ _ _ z F)
 have s2B:∀(N:Nat->Prop) (W:World) (ve:Value) (vu:Value),CF M N w0 W h (aD ae ap p s al) 2 ve vu fL->AU 49 az (fM k π) Q (fun W=>aA W w0.heap.size 29 (aD ae ap p s al)) 11 4 (pN [0,1,2,3,4,5,6,7]) [(1,PH w0.heap.size),(2,PH (w0.heap.size+1)),(9,ae),(12,p),(15,s),(10,ve),(13,vu)] W:=by
  intro N W ve vu H;refine LP (show Region.ready .any (fM k π) (pN [0,1,2,3,4,5,6,7])=[8,10] by kernel_rfl) ?_ ?_
  ·refine CL (o:=opAt (fM k π) 8) (d:=16) (sE (cl:=FD (opAt (fM k π) 8)) (args:=#[s]) K.kc (by kernel_rfl) (by kernel_rfl) rfl) (K.kT (H.cM J) (xy has H.bl fun x f=>(H.nw x f).1) Z) ?_;rintro _ W' ⟨vs,rfl,G,I,y⟩;have q:=H.below (N':=N) y (fun x f=>.inl f) fun x f=>f;have z:CF M N w0 W' h (aD ae ap p s al) 3 ve vu vs:={q with e:=fun _=>q.e (by decide),u:=fun _=>q.u (by decide),s:=fun _=>G.GV (fun x f=>.inl f) fun x f=>⟨fun h=>by have:=I x f;have:=(H.nw x h).2;omega,fun o hm=>by have h1:=I x f;have h2:x<w0.heap.size:=J.1 _ hm;have:=H.bl.size;omega⟩};refine⟨_,rfl,z.b1,?_⟩;exact pE (s3B _ _ _ _ _ z)
  ·have y:=iA W #[.slice none 0 0,.slice none 0 0,.slice none 0 0,.slice none 0 0,.slice none 0 0] 29;have hz:=gb W (.cells #[.slice none 0 0,.slice none 0 0,.slice none 0 0,.slice none 0 0,.slice none 0 0] 29);have q:=H.below (N':=fun x=>N x\/x=W.heap.size) y (fun x f=>f.imp id fun f=>by omega) fun x f=>.inl f;have C:=H.b2.lt;have F:AL (fun x=>N x\/x=W.heap.size) w0 (W.alloc (.cells #[.slice none 0 0,.slice none 0 0,.slice none 0 0,.slice none 0 0,.slice none 0 0] 29)) 2 vu W.heap.size:=⟨.inr rfl,xH W,by omega,fun r e=>by have:=((H.u (by decide)).1.lt _ e).2;omega⟩;refine zp (o:=opAt (fM k π) 10) (d:=3) (w':=W.alloc (.cells #[.slice none 0 0,.slice none 0 0,.slice none 0 0,.slice none 0 0,.slice none 0 0] 29)) (eQ (z:=.agg #[.slice none 0 0,.slice none 0 0,.slice none 0 0,.slice none 0 0,.slice none 0 0]) (by kernel_rfl) oT) q.b1 ?_;exact pE (S _ _ _ _ _ q F)
 have O:∀(N:Nat->Prop) (W:World) (ve:Value) (g:Nat),CF M N w0 W h (aD ae ap p s al) 1 ve fL fL->AL N w0 W 1 fL g->AU 49 az (fM k π) Q (fun W=>aA W w0.heap.size 29 (aD ae ap p s al)) 11 4 (pN [0,1,2,3,4,6,7,10]) [(1,PH w0.heap.size),(2,PH (w0.heap.size+1)),(9,ae),(12,p),(15,s),(10,ve),(3,PH g)] W:=by
  intro N W ve g H A;refine LO (show Region.ready .any (fM k π) (pN [0,1,2,3,4,6,7,10])=[5] by kernel_rfl) ?_
  ·refine CL (o:=opAt (fM k π) 5) (d:=13) (sE (cl:=FD (opAt (fM k π) 5)) (args:=#[p]) K.kc (by kernel_rfl) (by kernel_rfl) rfl) (K.kT (H.cM J) (xy X H.bl fun x f=>(H.nw x f).1) Y) ?_;rintro _ W' ⟨vu,rfl,G,I,y⟩;have q:=H.below (N':=fun x=>N x\/vu.ownBlock=some x) y (fun x f=>f.imp id fun f=>⟨I x f,(G.lt x f).2⟩) fun x f=>.inl f;have C:=H.b2.lt;have z:CF M (fun x=>N x\/vu.ownBlock=some x) w0 W' h (aD ae ap p s al) 2 ve vu fL:={q with e:=fun _=>q.e (by decide),u:=fun _=>⟨G,fun x f=>by have:=I x f;omega⟩,s:=fun r=>absurd r (by decide)};have F:AL (fun x=>N x\/vu.ownBlock=some x) w0 W' 2 vu g:={A.below (N':=fun x=>N x\/vu.ownBlock=some x) y (fun x f=>.inl f)with u:=fun _ e=>by have:=I g e;have:=A.b.lt;omega};refine⟨_,rfl,z.b1,?_⟩;exact pE (S _ _ _ _ _ z F)
 have S:∀(N:Nat->Prop) (W:World) (ve:Value),CF M N w0 W h (aD ae ap p s al) 1 ve fL fL->AU 49 az (fM k π) Q (fun W=>aA W w0.heap.size 29 (aD ae ap p s al)) 11 5 (pN [0,1,2,3,4,6,7]) [(1,PH w0.heap.size),(2,PH (w0.heap.size+1)),(9,ae),(12,p),(15,s),(10,ve)] W:=by
  intro N W ve H;refine LP (show Region.ready .any (fM k π) (pN [0,1,2,3,4,6,7])=[5,10] by kernel_rfl) ?_ ?_
  ·refine CL (o:=opAt (fM k π) 5) (d:=13) (sE (cl:=FD (opAt (fM k π) 5)) (args:=#[p]) K.kc (by kernel_rfl) (by kernel_rfl) rfl) (K.kT (H.cM J) (xy X H.bl fun x f=>(H.nw x f).1) Y) ?_;rintro _ W' ⟨vu,rfl,G,I,y⟩;have q:=H.below (N':=fun x=>N x\/vu.ownBlock=some x) y (fun x f=>f.imp id fun f=>⟨I x f,(G.lt x f).2⟩) fun x f=>.inl f;have C:=H.b2.lt;have z:CF M (fun x=>N x\/vu.ownBlock=some x) w0 W' h (aD ae ap p s al) 2 ve vu fL:={q with e:=fun _=>q.e (by decide),u:=fun _=>⟨G,fun x f=>by have:=I x f;omega⟩,s:=fun r=>absurd r (by decide)};refine⟨_,rfl,z.b1,?_⟩;exact pE (s2B _ _ _ _ z)
  ·have y:=iA W #[.slice none 0 0,.slice none 0 0,.slice none 0 0,.slice none 0 0,.slice none 0 0] 29;have hz:=gb W (.cells #[.slice none 0 0,.slice none 0 0,.slice none 0 0,.slice none 0 0,.slice none 0 0] 29);have q:=H.below (N':=fun x=>N x\/x=W.heap.size) y (fun x f=>f.imp id fun f=>by omega) fun x f=>.inl f;have C:=H.b2.lt;have F:AL (fun x=>N x\/x=W.heap.size) w0 (W.alloc (.cells #[.slice none 0 0,.slice none 0 0,.slice none 0 0,.slice none 0 0,.slice none 0 0] 29)) 1 fL W.heap.size:=⟨.inr rfl,xH W,by omega,fun r e=>absurd r (by decide)⟩;refine zp (o:=opAt (fM k π) 10) (d:=3) (w':=W.alloc (.cells #[.slice none 0 0,.slice none 0 0,.slice none 0 0,.slice none 0 0,.slice none 0 0] 29)) (eQ (z:=.agg #[.slice none 0 0,.slice none 0 0,.slice none 0 0,.slice none 0 0,.slice none 0 0]) (by kernel_rfl) oT) q.b1 ?_;exact pE (O _ _ _ _ q F)
 have I:∀(N:Nat->Prop) (W:World) (g:Nat),CF M N w0 W h (aD ae ap p s al) 0 fL fL fL->AL N w0 W 0 fL g->AU 49 az (fM k π) Q (fun W=>aA W w0.heap.size 29 (aD ae ap p s al)) 11 5 (pN [0,1,3,4,6,7,10]) [(1,PH w0.heap.size),(2,PH (w0.heap.size+1)),(9,ae),(12,p),(15,s),(3,PH g)] W:=by
  intro N W  g H A;refine LO (show Region.ready .any (fM k π) (pN [0,1,3,4,6,7,10])=[2] by kernel_rfl) ?_
  ·refine CL (o:=opAt (fM k π) 2) (d:=10) (sE (cl:=FD (opAt (fM k π) 2)) (args:=#[ae]) (K.kE h.entries hl hf).1 (by kernel_rfl) (by kernel_rfl) rfl) (aH.calls (aH.eB (K.kE h.entries hl hf)) (H.cM J) (vs:=[ae]) ⟨_,[],rfl,xy V H.bl fun x f=>(H.nw x f).1,rfl⟩) ?_;rintro _ W' ⟨ve,rfl,G,y⟩;have q:=H.below (N':=N) y (fun x f=>.inl f) fun x f=>f;have z:CF M N w0 W' h (aD ae ap p s al) 1 ve fL fL:={q with e:=fun _=>G,u:=fun r=>absurd r (by decide),s:=fun r=>absurd r (by decide)};have F:AL N w0 W' 1 fL g:={A.below (N':=N) y (fun x f=>f)with u:=fun r=>absurd r (by decide)};refine⟨_,rfl,z.b1,?_⟩;exact pE (O _ _ _ _ z F)
 have O:∀(N:Nat->Prop) (W:World),CF M N w0 W h (aD ae ap p s al) 0 fL fL fL->AU 49 az (fM k π) Q (fun W=>aA W w0.heap.size 29 (aD ae ap p s al)) 11 6 (pN [0,1,3,4,6,7]) [(1,PH w0.heap.size),(2,PH (w0.heap.size+1)),(9,ae),(12,p),(15,s)] W:=by
  intro N W  H;refine LP (show Region.ready .any (fM k π) (pN [0,1,3,4,6,7])=[2,10] by kernel_rfl) ?_ ?_
  ·refine CL (o:=opAt (fM k π) 2) (d:=10) (sE (cl:=FD (opAt (fM k π) 2)) (args:=#[ae]) (K.kE h.entries hl hf).1 (by kernel_rfl) (by kernel_rfl) rfl) (aH.calls (aH.eB (K.kE h.entries hl hf)) (H.cM J) (vs:=[ae]) ⟨_,[],rfl,xy V H.bl fun x f=>(H.nw x f).1,rfl⟩) ?_;rintro _ W' ⟨ve,rfl,G,y⟩;have q:=H.below (N':=N) y (fun x f=>.inl f) fun x f=>f;have z:CF M N w0 W' h (aD ae ap p s al) 1 ve fL fL:={q with e:=fun _=>G,u:=fun r=>absurd r (by decide),s:=fun r=>absurd r (by decide)};refine⟨_,rfl,z.b1,?_⟩;exact pE (S _ _ _ z)
  ·have y:=iA W #[.slice none 0 0,.slice none 0 0,.slice none 0 0,.slice none 0 0,.slice none 0 0] 29;have hz:=gb W (.cells #[.slice none 0 0,.slice none 0 0,.slice none 0 0,.slice none 0 0,.slice none 0 0] 29);have q:=H.below (N':=fun x=>N x\/x=W.heap.size) y (fun x f=>f.imp id fun f=>by omega) fun x f=>.inl f;have C:=H.b2.lt;have F:AL (fun x=>N x\/x=W.heap.size) w0 (W.alloc (.cells #[.slice none 0 0,.slice none 0 0,.slice none 0 0,.slice none 0 0,.slice none 0 0] 29)) 0 fL W.heap.size:=⟨.inr rfl,xH W,by omega,fun r e=>absurd r (by decide)⟩;refine zp (o:=opAt (fM k π) 10) (d:=3) (w':=W.alloc (.cells #[.slice none 0 0,.slice none 0 0,.slice none 0 0,.slice none 0 0,.slice none 0 0] 29)) (eQ (z:=.agg #[.slice none 0 0,.slice none 0 0,.slice none 0 0,.slice none 0 0,.slice none 0 0]) (by kernel_rfl) oT) q.b1 ?_;exact pE (I _ _  _ q F)
 refine lC (o:=opAt (fM k π) 0) (d:=8) 0 U (fun W S=>br (k:=0) (x:=.tmp 1) (ho:=(by kernel_rfl)) qq) H.b1 ?_;refine lC (o:=opAt (fM k π) 1) (d:=9) 1 U (fun W S=>bz (x:=.tmp 8) (ho:=(by kernel_rfl)) mR (v:=ae) ((S.cell 0).trans rfl)) H.b1 ?_;refine lC (o:=opAt (fM k π) 3) (d:=11) 3 U (fun W S=>br (k:=2) (x:=.tmp 1) (ho:=(by kernel_rfl)) qt) H.b1 ?_;refine lC (o:=opAt (fM k π) 4) (d:=12) 4 U (fun W S=>bz (x:=.tmp 11) (ho:=(by kernel_rfl)) eX (v:=p) ((S.cell 2).trans rfl)) H.b1 ?_;refine lC (o:=opAt (fM k π) 6) (d:=14) 6 U (fun W S=>br (k:=3) (x:=.tmp 1) (ho:=(by kernel_rfl)) zN) H.b1 ?_;refine lC (o:=opAt (fM k π) 7) (d:=15) 7 U (fun W S=>bz (x:=.tmp 14) (ho:=(by kernel_rfl)) eX (v:=s) ((S.cell 3).trans rfl)) H.b1 ?_;exact pE (O _ _  H)
set_option maxHeartbeats 4000000 in
def au5{ρ:FuncId->FuncId}(K:QT ρ){f:FuncId}{fn:Func}(hfn:az.funcs[f]? =some fn)(r:fn.body=some (ren ρ π bodyC))(hnt:fn.ntmps=Tryz.f23.ntmps)(hres:fn.results=Tryz.f23.results){M:Addr->Prop}{w:World}{h:Host}{v:Value}(hG:ek w M)(hv:R w M (enc h) v)(hl:h.entries.length<=1048576)(hf:∀e∈h.entries,e.fit)(jR:h.up.length<1048576)(hsl:h.shut.length<1048576)(hpl:h.parts.length<1048576)(mZ:∀p∈h.parts,p.core.cells.length<=4294967296/\p.ak.length<=4294967296)(hll:h.log.length<1048576)(hlr:∀e∈h.log,e.recipe.length<=1048576) :
  Calls az f #[v] w fun e w'=>∃N ve vp vu vs vl,e=.returned (.agg (aD ve vp vu vs vl))/\HX M N w' h ve vp vs vl/\OR M N w' 9 1 (h.up.map aB.cells) vu/\(∀x,vu.ownBlock=some x->¬KV vp vl x)/\(∀x,N x->w.heap.size<=x)/\Below w.heap.size w w':=by
 obtain⟨ae,ap,F,z,al,rfl,O,A,S,has,G⟩:=Gf hv;obtain⟨Y,Z,s,_,Gg⟩:=mA (ma (n:=6) (fun _=>rfl) h.parts) A;rw[di]at s;subst s;obtain⟨s,A,C,_,I⟩:=mA (ma (n:=7) (fun _=>rfl) h.log) G;rw[di]at C;subst C;refine pH (E:=[(0,.agg (aD ae (.slice Y h.parts.length Z) F z (.slice s h.log.length A)))]) hfn r hnt (by simp) (by simp) ?_;refine aO ?_;refine ah uG ?_;refine ah (eQ rfl oT) ?_;refine bn ?_;change CW _ az _ _ _ ((w.alloc (.cells (aD ae (.slice Y h.parts.length Z) F z (.slice s h.log.length A)) 29)).alloc (.cells #[.slice none 0 0,.slice none 0 0,.slice none 0 0,.slice none 0 0,.slice none 0 0] 29));refine CW.sub (E':=[(1,.pointer (some ⟨w.heap.size,0,none⟩)),(2,.pointer (some ⟨w.heap.size+1,0,none⟩))]) ⟨rfl,by simp only[gb];rfl,trivial⟩ ?_;have q2:aA ((w.alloc (.cells (aD ae (.slice Y h.parts.length Z) F z (.slice s h.log.length A)) 29)).alloc (.cells #[.slice none 0 0,.slice none 0 0,.slice none 0 0,.slice none 0 0,.slice none 0 0] 29)) w.heap.size 29 (aD ae (.slice Y h.parts.length Z) F z (.slice s h.log.length A)):=(aA.new w _ _).alloc _;have q4:aA ((w.alloc (.cells (aD ae (.slice Y h.parts.length Z) F z (.slice s h.log.length A)) 29)).alloc (.cells #[.slice none 0 0,.slice none 0 0,.slice none 0 0,.slice none 0 0,.slice none 0 0] 29)) (w.heap.size+1) 29 #[.slice none 0 0,.slice none 0 0,.slice none 0 0,.slice none 0 0,.slice none 0 0]:=by have:=xH (w.alloc (.cells (aD ae (.slice Y h.parts.length Z) F z (.slice s h.log.length A)) 29));rw[gb]at this;exact this
 have G:Below w.heap.size w ((w.alloc (.cells (aD ae (.slice Y h.parts.length Z) F z (.slice s h.log.length A)) 29)).alloc (.cells #[.slice none 0 0,.slice none 0 0,.slice none 0 0,.slice none 0 0,.slice none 0 0] 29)):=bt (iA _ _ _) (iA _ _ _);have H:((w.alloc (.cells (aD ae (.slice Y h.parts.length Z) F z (.slice s h.log.length A)) 29)).alloc (.cells #[.slice none 0 0,.slice none 0 0,.slice none 0 0,.slice none 0 0,.slice none 0 0] 29)).heap.size=w.heap.size+2:=by simp only[gb]
 generalize (w.alloc (.cells (aD ae (.slice Y h.parts.length Z) F z (.slice s h.log.length A)) 29)).alloc (.cells #[.slice none 0 0,.slice none 0 0,.slice none 0 0,.slice none 0 0,.slice none 0 0] 29)=C at q2 q4 G H ⊢;have H1:CF M (fun x=>x=w.heap.size\/x=w.heap.size+1) w C h (aD ae (.slice Y h.parts.length Z) F z (.slice s h.log.length A)) 0 fL fL fL :=
  ⟨G,q2,q4,fun x C=>by rcases C with C|C<;>omega,.inl rfl,.inr rfl,fun hj=>absurd hj (by decide),fun hj=>absurd hj (by decide),fun hj=>absurd hj (by decide)⟩
 refine CW.seq (CW.any (fun W=>aA W w.heap.size 29 (aD ae (.slice Y h.parts.length Z) F z (.slice s h.log.length A))) 11 mo fun wd hwd r=>⟨q2.below r q2.lt,?_⟩);refine aFS (π:=π) K (fun _ _ t _ _ h=>by cases t<;>exact h) hG O S has hl hf jR hsl (fun N2 U g ve vu vs J hg R2 V X=> ?_) _ wd (H1.below r (fun x C=>.inl C) fun x C=>C);clear H1 q2 q4 G H r;refine aL ?_;have G:LS M N2 w U h (aD ae (.slice Y h.parts.length Z) F z (.slice s h.log.length A)) ve vu vs g 0 0 fL fL:=⟨J,hg,V,X,by rw[Rt];exact OR.nil,fun x C=>(by cases C),by rw[Rt];exact OR.nil,fun x C=>(by cases C)⟩;have H:vu.oneCell'=true:=by obtain⟨a,c,rfl,_⟩:=(J.u (by decide)).1.len;rfl
 have H:ve.oneCell'=true:=kY (show R U _ (.sl (h.entries.map aB.cells)) ve from J.e (by decide));have H:vs.oneCell'=true:=kY (show R U _ (.sl (h.shut.map aB.cells)) vs from J.s (by decide));clear J hg;refine CW.seq (aO ?_);refine ah (br sj) ?_;refine ah (bz ql (v:=(.slice Y h.parts.length Z)) ((G.cf.b1.cell 1).trans rfl)) ?_;refine ah (yV rfl rfl rfl rfl ql rfl) ?_;refine ah aI ?_;refine bn ?_;refine CW.sl [1,2,3,19,20,21] ?_;refine CW.block (CW.loop (fun m H wr=>∃(k:Nat) (N:Nat->Prop) (vp:Value),m+k=h.parts.length/\H=[(1,.pointer (some ⟨w.heap.size,0,none⟩)),(2,.pointer (some ⟨w.heap.size+1,0,none⟩)),(3,.pointer (some ⟨g,0,none⟩)),(19,(.slice Y h.parts.length Z)),(20,.int .i64 (h.parts.length:Int)),(21,.int .i64 (k:Int))] /\
  LS M N w wr h (aD ae (.slice Y h.parts.length Z) F z (.slice s h.log.length A)) ve vu vs g k 0 vp fL/\aA wr g 29 (aD ve vp vu vs fL)) h.parts.length ⟨0,_,fL,rfl,rfl,G,R2⟩ ?_)
 clear G R2;rintro m H wr ⟨k,N,vp,J,rfl,L,q⟩;have JU:¬N wr.heap.size:=fun h=>by have:=(L.cf.nw _ h).2;omega
 refine aO ?_;rcases rU m with G|G
 ·subst G;obtain rfl:k=h.parts.length:=by omega
  refine ah (gX (b:=false) (hb:=by simp[bg])) ?_;refine WL.nil (aL (CW.seq (CW.no (CW.exit (qg (qg (AV (aL ?_))))))));have O:=q;refine CW.seq (aO ?_);refine ah (br tj) ?_;refine ah (bz vc (v:=(.slice s h.log.length A)) ((L.cf.b1.cell 4).trans rfl)) ?_;refine ah (yV rfl rfl rfl rfl vc rfl) ?_;refine ah aI ?_;refine bn ?_;refine CW.sl [1,2,3,34,35,36] ?_;refine CW.block (CW.loop (fun m H wr=>∃(k:Nat) (N:Nat->Prop) (vl:Value),m+k=h.log.length/\H=[(1,.pointer (some ⟨w.heap.size,0,none⟩)),(2,.pointer (some ⟨w.heap.size+1,0,none⟩)),(3,.pointer (some ⟨g,0,none⟩)),(34,(.slice s h.log.length A)),(35,.int .i64 (h.log.length:Int)),(36,.int .i64 (k:Int))] /\
   LS M N w wr h (aD ae (.slice Y h.parts.length Z) F z (.slice s h.log.length A)) ve vu vs g h.parts.length k vp vl/\aA wr g 29 (aD ve vp vu vs vl)) h.log.length ⟨0,_,fL,rfl,rfl,L,q⟩ ?_)
  clear L q;rintro m H wr ⟨k,N,vl,J,rfl,L,q⟩;have JU:¬N wr.heap.size:=fun h=>by have:=(L.cf.nw _ h).2;omega
  refine aO ?_;rcases rU m with G|G
  ·subst G;obtain rfl:k=h.log.length:=by omega
   refine ah (gX (b:=false) (hb:=by simp[bg])) ?_;refine WL.nil (aL (CW.seq (CW.no (CW.exit (qg (qg (AV (aL ?_))))))));have O:h.parts.take h.parts.length=h.parts:=uY;have S:h.log.take h.log.length=h.log:=uY;have op:vp.oneCell'=true:=by obtain⟨a,c,rfl,_⟩:=L.p.len;rfl
   have ol:vl.oneCell'=true:=by obtain⟨a,c,rfl,_⟩:=L.l.len;rfl
   have s:=L.lo;refine aO ?_;refine ah (bF cN q bE) ?_;refine bW rfl (cs:=aD ve vp vu vs vl) rfl L.cf.b2 (by intro u F;simp[aD]at F;rcases F with rfl|rfl|rfl|rfl|rfl<;>assumption) bE fun w9 V s=> ?_;have U:=L.cf.nw;have z:=L.cf.n2;have J:=(L.cf.u (by decide)).1;have X:=(L.cf.u (by decide)).2;have H:=s.size;have A:=L.cf.bl;have G:=L.cf.b2.lt;refine WL.nil (aL (CW.ret (LR hres rfl V cN rfl bE ⟨N,ve,vp,vu,vs,vl,rfl,⟨⟨?_,?_⟩,fun y G=> ?_,fun y G=>by rw[H];exact(U y G).2,iC (L.cf.e (by decide)) s z,?_,iC (L.cf.s (by decide)) s z,?_,fun y G e=>(L.la y e).2.2.2 G,fun y G=> ?_,fun y G=> ?_⟩,J.one s z fun e=>by have:=X _ e;omega,fun y G hk=>hk.elim (fun e=>(L.pa y e).2.2 G) fun e=>(L.la y e).2.2.1 G,fun y G=>(U y G).1,?_⟩)))
   ·exact((L.cf.cM hG).2.1).keep fun i U=>s.block i (by have:=hG.2.2;omega)
   ·rw[H];exact(L.cf.cM hG).2.2
   ·rw[H];have:=hG.1 y G;omega
   ·have J:=L.p;rw[O]at J;exact J.one s z fun e=>by have:=(L.pa _ e).1;omega
   ·have J:=L.l;rw[S]at J;exact J.one s z fun e=>by have:=(L.la _ e).1;omega
   ·have:=(L.pa y G).1;have:=hG.2.2;omega
   ·have:=(L.la y G).1;have:=hG.2.2;omega
   ·exact⟨s.os.trans A.os,s.tape.trans A.tape,s.output.trans A.output,by omega,fun i U=>(s.block i (by omega)).trans (A.block i U)⟩
  obtain⟨m',rfl⟩:∃m',m=m'+1:=⟨m-1,by omega⟩;have hk:k<h.log.length:=by omega
  refine ah (gX (b:=true) (hb:=by simp[bg];omega)) ?_;refine WL.nil (aL (CW.seq (eC (CW.skip (aL ?_)))));obtain⟨pb,po,V,rfl,jq,hRs,z⟩:=I k _ (get_map h.log hk);obtain⟨x,C⟩:∃x,nth h.log k=x:=⟨_,rfl⟩;have Y:x∈h.log:=by rw[<-C];exact gK hk
  rw[C]at hRs;have hR0:R w M (enc x) (.agg V.toArray):=⟨_,rfl,hRs⟩;have xn:∀(j:Nat) (u:Value),V[j]? =some u->wr.cell? ((⟨pb,po+k*7,none⟩:Addr).add j)=some u:=fun j u F=>by rw[tU];have hc:=z j u F;rw[L.cf.bl.cell (gm hc)];exact hc
  refine CW.seq (CW.block ?_);refine aO ?_;refine ah (nZ hk azX) ?_;refine ah (yX (cs:=V) rfl rfl Zp rfl (by rw[jq];exact Vm) xn) ?_;refine ah (eQ rfl aCU) ?_;obtain⟨S1,hsv,h1,_⟩:=aaL hR0;have I:V.toArray=#[.int .i64 x.kind,.string x.name,.string x.call.method,.string x.call.key,.int .i64 x.call.val,.string x.call.text,S1]:=by simpa using hsv
  refine bW rfl (cs:=V.toArray) rfl (aA.new wr _ _) (hC:=(by rw[I];rfl)) (by rw[I];intro u F;simp at F;rcases F with rfl|rfl|rfl|rfl|rfl|rfl|rfl<;>first|rfl|exact kY (show R w _ (.sl _) _ from(by assumption))) (by rw[I];exact Vm) fun w5 q5 mL=> ?_;have Z:=MA mL;have L5:=L.below Z;have q6:=q.below Z q.lt;refine bn ?_;refine CW.sl [1,2,3,34,35,36,7] ?_;clear L q Z mL;refine CW.any (fun W=>aA W g 29 (aD ve vp vu vs vl)/\aA W wr.heap.size 33 V.toArray) 7 mo fun w6 hwd r=>⟨⟨q6.below r q6.lt,q5.below r q5.lt⟩,?_⟩;have L6:=L5.below r;have q7:=q6.below r q6.lt;have q8:=q5.below r q5.lt;clear L5 q6 q5 r;refine bf 0 rfl (fun W hW=>br tj) ⟨q7,q8⟩ ?_;refine bf 1 rfl (fun W hW=>bz vc (v:=vl) ((hW.1.cell 4).trans rfl)) ⟨q7,q8⟩ ?_;refine bf 2 rfl (fun W hW=>bF Zp hW.2 (by rw[I];exact Vm)) ⟨q7,q8⟩ ?_;refine AU.c 3 (args:=#[.agg V.toArray]) rfl (by kernel_rfl) rfl rfl (sE (K.kV x (hlr x Y)).1 rfl rfl rfl) (by decide) (aH.calls (aH.eB (K.kV x (hlr x Y))) (L6.cf.cM hG) (vs:=[.agg V.toArray]) ⟨_,[],rfl,xy hR0 L6.cf.bl fun y G=>(L6.cf.nw y G).1,rfl⟩) ?_;rintro _ w7 ⟨cv,rfl,hcv,J⟩;obtain⟨S,rfl,h1',_⟩:=aaL hcv;have L7:=L6.below J;have r7:=q7.below J q7.lt;have r8:=q8.below J q8.lt;clear L6 q7 q8 J;refine⟨_,rfl,fun _=>⟨r7,r8⟩,?_⟩;obtain⟨ti,aK,hz,H,hby⟩:=wT (P:=az) (e:=33) (z:=.agg #[.int .i64 0,.string ⟨#[]⟩,.string ⟨#[]⟩,.string ⟨#[]⟩,.int .i64 0,.string ⟨#[]⟩,.slice none 0 0]) (size:=7) (bytes:=104) (by kernel_rfl);have A:=iA w7 #[.int .i64 x.kind,.string x.name,.string x.call.method,.string x.call.key,.int .i64 x.call.val,.string x.call.text,S] 33;refine gP 4 rfl (am0 rfl rfl vc aK H hz) (fun _=>⟨r7.below A r7.lt,r8.below A r8.lt⟩) ?_;have X:∀(j:Nat) (u:Value),([.int .i64 x.kind,.string x.name,.string x.call.method,.string x.call.key,.int .i64 x.call.val,.string x.call.text,S])[j]? =some u->(w7.alloc (.cells #[.int .i64 x.kind,.string x.name,.string x.call.method,.string x.call.key,.int .i64 x.call.val,.string x.call.text,S] 33)).cell? ((⟨w7.heap.size,0,none⟩:Addr).add j)=some u:=fun j u F=>FC (w:=w7) (xs:=[.int .i64 x.kind,.string x.name,.string x.call.method,.string x.call.key,.int .i64 x.call.val,.string x.call.text,S]) (T:=33) j u F
  generalize w7.alloc (.cells #[.int .i64 x.kind,.string x.name,.string x.call.method,.string x.call.key,.int .i64 x.call.val,.string x.call.text,S] 33)=w8 at A X ⊢;have L8:=L7.below A;have s7:=r7.below A r7.lt;have s8:=r8.below A r8.lt;have abq:=R.keep (BM.below (N':=N) A fun x C=>.inl C) _ _ hcv;obtain⟨ccs,FI,qw⟩:=abq;have qw:Rs w8 (BM M N) (aB.cells x) ([.int .i64 x.kind,.string x.name,.string x.call.method,.string x.call.key,.int .i64 x.call.val,.string x.call.text,S]):=by cases FI;exact qw
  have BB:((h.log.take k).map (aB.cells (α:=Event))).length=k:=by rw[di,lG];omega
  obtain⟨O,w9,F3,U,F9,ab4⟩:=or_append (P:=az) (ty:=27) (c:=1) (a:=⟨w7.heap.size,0,none⟩) vc aK hz H hby rfl (by decide) L8.l (fun y G=>(L8.cf.nw y G).2) (r:=aB.cells x) (us:=[.int .i64 x.kind,.string x.name,.string x.call.method,.string x.call.key,.int .i64 x.call.val,.string x.call.text,S]) rfl rfl (fun j d hj=>qw.get hj) X (by intro u F;simp at F;rcases F with rfl|rfl|rfl|rfl|rfl|rfl|rfl<;>first|rfl|exact kY (show R w8 _ (.sl _) _ from R.keep (BM.below (N':=N) A fun x C=>.inl C) _ _ (by assumption))) (by rw[BB];omega) (by decide);have U:OR M (fun y=>N y\/O.ownBlock=some y) w9 33 7 ((h.log.take (k+1)).map aB.cells) O:=by rw[Pr hk,C,zC];exact U
  have oq:O.oneCell'=true:=by obtain⟨a,c,rfl,_⟩:=U.len;rfl
  have L9:=L8.aaW F9 U ab4;have abI:some g≠vl.ownBlock:=fun e=>(L8.la g e.symm).2.1 rfl;have s9:=s7.grown F9 abI;have acq:some wr.heap.size≠vl.ownBlock:=fun e=>by have h1:=(L8.l.lt _ e.symm).1;exact JU h1
  have s10:=s8.grown F9 acq;refine gP 5 rfl (rB rfl rfl rfl F3) (fun _=>⟨s9,s10⟩) ?_;refine gP 6 rfl (br tj) (fun _=>⟨s9,s10⟩) ?_;refine AJ 7 rfl (by kernel_rfl) rfl rfl (pS rfl rfl rfl (by kernel_rfl) oq ((s9.cell 4).trans rfl) (s9.frozen 4)) (fun h=>absurd rfl h) ?_;refine iH (by kernel_rfl) ?_;have z9:aA (w9.setCell ⟨g,0+4,none⟩ O) g 29 (aD ve vp vu vs O):=s9.xN 4 O;have s:bU w9 (w9.setCell ⟨g,0+4,none⟩ O) g:=(bU.refl w9 g).set (0+4) O;have YB:=L9.one s;refine rO (aL (CW.region ?_));refine ah (iE (r:=((k+1:Nat):Int)) (hb:=by rw[bC];omega)) ?_;refine ah aI ?_;exact WL.nil (NX.ag m' ⟨k+1,_,O,by omega,rfl,YB,z9⟩)
 obtain⟨m',rfl⟩:∃m',m=m'+1:=⟨m-1,by omega⟩;have hk:k<h.parts.length:=by omega
 refine ah (gX (b:=true) (hb:=by simp[bg];omega)) ?_;refine WL.nil (aL (CW.seq (eC (CW.skip (aL ?_)))));obtain⟨pb,po,V,rfl,jq,hRs,z⟩:=Gg k _ (get_map h.parts hk);obtain⟨x,C⟩:∃x,nth h.parts k=x:=⟨_,rfl⟩;have Y:x∈h.parts:=by rw[<-C];exact gK hk
 rw[C]at hRs;have hR0:R w M (enc x) (.agg V.toArray):=⟨_,rfl,hRs⟩;have xn:∀(j:Nat) (u:Value),V[j]? =some u->wr.cell? ((⟨pb,po+k*6,none⟩:Addr).add j)=some u:=fun j u F=>by rw[tU];have hc:=z j u F;rw[L.cf.bl.cell (gm hc)];exact hc
 refine CW.seq (CW.block ?_);refine aO ?_;refine ah (nZ hk FM) ?_;refine ah (yX (cs:=V) rfl rfl dF rfl (by rw[jq];exact lZ) xn) ?_;refine ah (eQ rfl Oy) ?_;obtain⟨S1,z,hsv,h1,h2,_⟩:=DW hR0;have I:V.toArray=#[.string x.core.kind,.bool x.core.on,.bool x.core.broken,S1,.int .i64 x.core.count,z]:=by simpa using hsv
 refine bW rfl (cs:=V.toArray) rfl (aA.new wr _ _) (hC:=(by rw[I];rfl)) (by rw[I];intro u F;simp at F;rcases F with rfl|rfl|rfl|rfl|rfl|rfl<;>first|rfl|exact kY (show R w _ (.sl _) _ from(by assumption))) (by rw[I];exact lZ) fun w5 q5 mL=> ?_;have Z:=MA mL;have L5:=L.below Z;have q6:=q.below Z q.lt;refine bn ?_;refine CW.sl [1,2,3,19,20,21,5] ?_;clear L q Z mL;refine CW.any (fun W=>aA W g 29 (aD ve vp vu vs fL)/\aA W wr.heap.size 87 V.toArray) 7 mo fun w6 hwd r=>⟨⟨q6.below r q6.lt,q5.below r q5.lt⟩,?_⟩;have L6:=L5.below r;have q7:=q6.below r q6.lt;have q8:=q5.below r q5.lt;clear L5 q6 q5 r;refine bf 0 rfl (fun W hW=>br sj) ⟨q7,q8⟩ ?_;refine bf 1 rfl (fun W hW=>bz ql (v:=vp) ((hW.1.cell 1).trans rfl)) ⟨q7,q8⟩ ?_;refine bf 2 rfl (fun W hW=>bF dF hW.2 (by rw[I];exact lZ)) ⟨q7,q8⟩ ?_;refine AU.c 3 (args:=#[.agg V.toArray]) rfl (by kernel_rfl) rfl rfl (sE (K.kP x (mZ x Y).1 (mZ x Y).2).1 rfl rfl rfl) (by decide) (aH.calls (aH.eB (K.kP x (mZ x Y).1 (mZ x Y).2)) (L6.cf.cM hG) (vs:=[.agg V.toArray]) ⟨_,[],rfl,xy hR0 L6.cf.bl fun y G=>(L6.cf.nw y G).1,rfl⟩) ?_;rintro _ w7 ⟨cv,rfl,hcv,J⟩;obtain⟨S,z,rfl,h1',I,_⟩:=DW hcv;have L7:=L6.below J;have r7:=q7.below J q7.lt;have r8:=q8.below J q8.lt;clear L6 q7 q8 J;refine⟨_,rfl,fun _=>⟨r7,r8⟩,?_⟩;obtain⟨ti,aK,hz,H,hby⟩:=wT (P:=az) (e:=87) (z:=.agg #[.string ⟨#[]⟩,.bool false,.bool false,.slice none 0 0,.int .i64 0,.slice none 0 0]) (size:=6) (bytes:=80) (by kernel_rfl);have A:=iA w7 #[.string x.core.kind,.bool x.core.on,.bool x.core.broken,S,.int .i64 x.core.count,z] 87;refine gP 4 rfl (aFC rfl rfl ql aK H hz) (fun _=>⟨r7.below A r7.lt,r8.below A r8.lt⟩) ?_;have X:∀(j:Nat) (u:Value),([.string x.core.kind,.bool x.core.on,.bool x.core.broken,S,.int .i64 x.core.count,z])[j]? =some u->(w7.alloc (.cells #[.string x.core.kind,.bool x.core.on,.bool x.core.broken,S,.int .i64 x.core.count,z] 87)).cell? ((⟨w7.heap.size,0,none⟩:Addr).add j)=some u:=fun j u F=>FC (w:=w7) (xs:=[.string x.core.kind,.bool x.core.on,.bool x.core.broken,S,.int .i64 x.core.count,z]) (T:=87) j u F
 generalize w7.alloc (.cells #[.string x.core.kind,.bool x.core.on,.bool x.core.broken,S,.int .i64 x.core.count,z] 87)=w8 at A X ⊢;have L8:=L7.below A;have s7:=r7.below A r7.lt;have s8:=r8.below A r8.lt;have abq:=R.keep (BM.below (N':=N) A fun x C=>.inl C) _ _ hcv;obtain⟨ccs,FI,qw⟩:=abq;have qw:Rs w8 (BM M N) (aB.cells x) ([.string x.core.kind,.bool x.core.on,.bool x.core.broken,S,.int .i64 x.core.count,z]):=by cases FI;exact qw
 have BB:((h.parts.take k).map (aB.cells (α:=Part))).length=k:=by rw[di,lG];omega
 obtain⟨O,w9,F3,U,F9,ab4⟩:=or_append (P:=az) (ty:=25) (c:=1) (a:=⟨w7.heap.size,0,none⟩) ql aK hz H hby rfl (by decide) L8.p (fun y G=>(L8.cf.nw y G).2) (r:=aB.cells x) (us:=[.string x.core.kind,.bool x.core.on,.bool x.core.broken,S,.int .i64 x.core.count,z]) rfl rfl (fun j d hj=>qw.get hj) X (by intro u F;simp at F;rcases F with rfl|rfl|rfl|rfl|rfl|rfl<;>first|rfl|exact kY (show R w8 _ (.sl _) _ from R.keep (BM.below (N':=N) A fun x C=>.inl C) _ _ (by assumption))) (by rw[BB];omega) (by decide);have U:OR M (fun y=>N y\/O.ownBlock=some y) w9 87 6 ((h.parts.take (k+1)).map aB.cells) O:=by rw[Pr hk,C,zC];exact U
 have oq:O.oneCell'=true:=by obtain⟨a,c,rfl,_⟩:=U.len;rfl
 have L9:=L8.aAp F9 U ab4;have abI:some g≠vp.ownBlock:=fun e=>(L8.pa g e.symm).2.1 rfl;have s9:=s7.grown F9 abI;have acq:some wr.heap.size≠vp.ownBlock:=fun e=>by have h1:=(L8.p.lt _ e.symm).1;exact JU h1
 have s10:=s8.grown F9 acq;refine gP 5 rfl (rB rfl rfl rfl F3) (fun _=>⟨s9,s10⟩) ?_;refine gP 6 rfl (br sj) (fun _=>⟨s9,s10⟩) ?_;refine AJ 7 rfl (by kernel_rfl) rfl rfl (pS rfl rfl rfl (by kernel_rfl) oq ((s9.cell 1).trans rfl) (s9.frozen 1)) (fun h=>absurd rfl h) ?_;refine iH (by kernel_rfl) ?_;have z9:aA (w9.setCell ⟨g,0+1,none⟩ O) g 29 (aD ve O vu vs fL):=s9.xN 1 O;have s:bU w9 (w9.setCell ⟨g,0+1,none⟩ O) g:=(bU.refl w9 g).set (0+1) O;have YB:=L9.one s;refine rO (aL (CW.region ?_));refine ah (iE (r:=((k+1:Nat):Int)) (hb:=by rw[bC];omega)) ?_;refine ah aI ?_;exact WL.nil (NX.ag m' ⟨k+1,_,O,by omega,rfl,YB,z9⟩)
def cpC:QT id:=⟨by kernel_rfl,aKZ,ahN,ayI,Z0⟩
def aK2(G:ek w M)(i:R w M (enc h) v)(k:h.entries.length<=1048576)(q:∀e∈h.entries,e.fit)(u:h.up.length<1048576)(s:h.shut.length<1048576)(a:h.parts.length<1048576)(c:∀p∈h.parts,p.core.cells.length<=4294967296/\p.ak.length<=4294967296)(f:h.log.length<1048576)(r:∀e∈h.log,e.recipe.length<=1048576) :
  Calls az 23 #[v] w fun e w'=>∃N ve vp vu vs vl,e=.returned (.agg (aD ve vp vu vs vl))/\HX M N w' h ve vp vs vl/\OR M N w' 9 1 (h.up.map aB.cells) vu/\(∀x,vu.ownBlock=some x->¬KV vp vl x)/\(∀x,N x->w.heap.size<=x)/\Below w.heap.size w w':=au5 cpC Tryz.func23 aFZ rfl rfl G i k q u s a c f r
structure oz(h:Host):Prop where
 el:h.entries.length<=1048576
 ef:∀e∈h.entries,e.fit
 ul:h.up.length<=1000000
 sl:h.shut.length<1048576
 pl:h.parts.length<1048576
 pc:∀p∈h.parts,p.core.cells.length<=4294967296/\p.ak.length<=1048576
 ll:h.log.length<1048576
 lr:∀e∈h.log,e.recipe.length<=1048576
def oz.isH(H:oz h):∀i,i<h.parts.length->(nth h.parts i).ak.length<=1048576:=fun i a=>(H.pc _ (gK a)).2
def MQ(h:Host)(s:ByteArray)(c:oz h):aH az 24 none [enc h,.str s] (.bool (gW h s)) []:=by
 refine cu arn aKg ⟨mN h,trivial,trivial⟩ fun f=> ?_;unfold arn;have u:h.up.length<=4294967296:=dK c.ul (by decide);refine aF (ayh h c.el c.isH u) ?_;refine wZ (r:=.int .i64 (cV h.entries s)) (xs:=[aj h.entries,.str s]) ?_ (fun i=>qR h.entries s) rfl ?_
 ·simp only[eS,aZ]
 refine ay ?_;simp only[eS,aZ];unfold gW;rcases Mc (cV h.entries s) 0 with a|a
 ·simp[a,Int.not_le.2 a]
 ·simp[Int.not_lt.2 a,a,aj];congr 1;simp only[decide_eq_decide];omega
def DT(p:Part):Prop:=p.core.cells.length<=4/\p.ak.length<=3
def Cc(h:dC p=true):DT p:=by obtain⟨a,c,_⟩:=pQ.1 h;exact⟨yp (rY.1 a).2.1,c⟩
def V9(h:dC p=true)(m:ByteArray):dC (nz p m)=true:=by
 unfold nz;split
 ·exact(MS h _).1
 ·exact h
def uz(H:wJ h):∀p∈h.parts,dC p=true:=fun p f=>by obtain⟨i,a,rfl⟩:=Mg.1 f;have:=H.py i (by rw[<-H.len];exact a);unfold partAt at this;simp only[aX]at this;have c:=this.1;rw[nth,List.getD,bX a]at c;exact c
def Nh{h:Host}(f:∀p∈h.parts,dC p=true)(k:∀x∈h.up,cO h x<h.parts.length)(d:List ByteArray):∀j,j<=h.up.length->∀p∈(gy h d j).1,dC p=true
 |0,_=>f
 |j+1,q=>by
  have ih:=Nh f k d j (by omega);have i:=(Jt h d j).1;unfold gy;simp only;split
  ·intro p a;rcases sZ a with c|c
   ·exact ih p c
   ·rw[c];refine V9 (ih _ (gK ?_)) _;rw[i];exact k _ (gK (by omega))
  ·exact ih
def WA(H:wJ h):∀x∈h.up,0<=cV h.entries x/\cO h x<h.parts.length:=fun x p=>by
 obtain⟨j,c,rfl⟩:=Mg.1 p;have u:=H.zj;unfold sM at u;have a:=jC.1 u j c;have q:nth h.up j=h.up[j]:=by rw[nth,List.getD,bX c];rfl
 unfold sL at a;rw[q]at a;split at a
 ·cases a
 ·rename_i k r;have f:cV h.entries h.up[j]=(k:Int):=by unfold cV;rw[r]
  obtain⟨i,s,t,_⟩:=vF (l:=h.entries) (s:=h.up[j]) (by rw[f];omega);refine⟨by rw[f];omega,?_⟩;unfold cO;rw[s,H.len];simpa using t
section
variable {M:Addr->Prop}{B N N':Nat->Prop}{w w':World}{h:Host}{ve vp vu vs vl cY:Value}{T m:Nat}{rows:List (List D)}{v:Value}{d:D}{e:Event}
def ZC(h:R w (BM (BM M B) N) d v):R w (BM M fun x=>N x\/B x) d v:=R.less h fun q a=>by
 rcases a with a|a|a
 ·exact .inl (.inl a)
 ·exact .inr a
 ·exact .inl (.inr a)
def OR.shift(h:OR (BM M B) N w T m rows v):OR M (fun x=>N x\/B x) w T m rows v:=by obtain⟨a,s,c,f,k⟩:=h;refine⟨a,s,c,fun x p=>.inl (f x p),fun i j r d q t=> ?_⟩;obtain⟨u,q1,q2,q3⟩:=k i j r d q t;exact⟨u,q1,q2,ZC q3⟩
def HX.shift(H:HX (BM M B) N w h ve vp vs vl)(a:∀x,B x->x<w.heap.size):HX M (fun x=>N x\/B x) w h ve vp vs vl :=
 ⟨H.gi,fun q c=>H.mb q (.inl c),fun x f=>f.elim (H.nb x) (a x),ZC H.e,H.p.shift,ZC H.s,H.l.shift,H.pl,H.gp,H.gl⟩
def MC(h:R w (BM M N) d v):R w M d v:=R.less h fun q a=>.inl a
def HX.done(H:HX M N w h ve vp vs vl)(u:R w M (aj h.up) vu)(c:∀x,KV vp vl x->∀o,¬M ⟨x,o,none⟩):R w M (enc h) (.agg (aD ve vp vu vs vl)):=by
 refine⟨_,rfl,_,_,rfl,MC H.e,_,_,rfl,?_,_,_,rfl,u,_,_,rfl,MC H.s,_,_,rfl,?_,rfl⟩
 ·exact MC (H.p.GV (N':=fun _=>False) (fun _ h=>h.elim) fun x a=>⟨id,c x (.inl a)⟩)
 ·exact MC (H.l.GV (N':=fun _=>False) (fun _ h=>h.elim) fun x a=>⟨id,c x (.inr a)⟩)
def HX.aaW(H:HX M N w h ve vp vs vl)(hg:w.grownBy w' vl.ownBlock)(O:OR M (fun x=>N x\/cY.ownBlock=some x) w' 33 7 ((h.log++[e]).map aB.cells) cY)(f:cY.ownBlock=vl.ownBlock\/cY.ownBlock=some w.heap.size) :
  HX M (fun x=>N x\/cY.ownBlock=some x) w' (qB h e) ve vp vs cY:=by
 have t:∀x,(N x\/cY.ownBlock=some x)->N x\/w.heap.size<=x:=fun x a=>a.elim .inl fun e=>by
  rcases f with c|c
  ·exact .inl (H.l.lt x (c▸e)).1
  ·rw[c]at e;have:=iR e;exact .inr (by omega)
 have kp:bQ w (BM M N) w' (BM M fun x=>N x\/cY.ownBlock=some x):=fun p u i r=>by have s:=gm i;have y:w'.heap[p.block]? =w.heap[p.block]? :=hg.block p.block s fun e=>r (.inr (H.l.lt _ e.symm).1);exact⟨by unfold World.cell? at i ⊢;rw[y];exact i,fun h=>h.elim (fun h=>r (.inl h)) fun h=>(t _ h).elim (fun h=>r (.inr h)) fun h=>by omega⟩
 exact⟨⟨H.gi.1.keep fun k z=>hg.block k (dS z H.gi.2) fun e=>by have:=H.gl _ e.symm;omega,dK H.gi.2 hg.size⟩,fun q A=>dS (H.mb q A) hg.size,
  fun x a=>a.elim (fun a=>dS (H.nb x a) hg.size) fun a=>(O.lt x a).2,R.keep kp _ _ H.e,
  H.p.keep (fun x a=>hg.block x (H.p.lt x a).2 fun e=>H.pl x a e.symm) kp fun x a=>.inl (H.p.lt x a).1,R.keep kp _ _ H.s,O,
  fun x a e=>by
   rcases f with c|c
   ·exact H.pl x a (c▸e)
   ·rw[c]at e;have:=iR e;have:=(H.p.lt x a).2;omega,
  H.gp,fun x a=>by
   rcases f with c|c
   ·exact H.gl x (c▸a)
   ·rw[c]at a;have:=iR a;have:=H.gi.2;omega⟩
end
def T9{k:Int}{s:ByteArray}(c:IntKind.i64.min<=k/\k<=IntKind.i64.max)(f:s.size<=maxLen):Rs w M (aB.cells (jm k s)) [.int .i64 k,.string s,.string ⟨#[]⟩,.string ⟨#[]⟩,.int .i64 0,.string ⟨#[]⟩,aP]:=by
 have a:(⟨#[]⟩:ByteArray).size<=maxLen:=by decide
 have i:IntKind.i64.min<=(0:Int)/\(0:Int)<=IntKind.i64.max:=by decide
 exact⟨_,_,rfl,⟨rfl,c⟩,_,_,rfl,⟨rfl,f⟩,_,_,rfl,⟨rfl,a⟩,_,_,rfl,⟨rfl,a⟩,_,_,rfl,⟨rfl,i⟩,_,_,rfl,⟨rfl,a⟩,_,_,rfl,⟨none,0,0,rfl,rfl,bM _,fW _,fun _=>rfl,fun b o s h=>by cases h⟩,rfl⟩
def Te(k:Int)(s:ByteArray):uk az 33 [(0,.int .i64 k),(1,.string s)]=some #[.int .i64 k,.string s,.string ⟨#[]⟩,.string ⟨#[]⟩,.int .i64 0,.string ⟨#[]⟩,aP]:=by kernel_rfl
def aF5{fn:Func}{p u:Tmp}{ty:TypeId}(h:fn.results=#[.cell p ty,.tmp u])(tmps:Array Value)(w:World){g:Nat}{t:TypeId}{cs:Array Value}(d:TypeDesc)
  (c:tmps.getD p undef=PH g) (hg:aA w g t cs) (f:P.underlying ty=some d) (hd:(match d with|.struct _|.array _ _=>true|_=>false)=true) (i:(P.info? ty).map (·.size)=some cs.size) :
  (results fn tmps).run P w=.ok (.tuple #[.agg cs,tmps.getD u undef]) w:=by
 have a:tmps[p]?.getD undef=PH g:=by simpa using c
 simp[results,h,a,asAddr,IU w g t ty cs (0,0) d hg f hd i,lS,Result.andThen]
def qf{n:Nat}{E:List (Nat×Value)}{fn:Func}{R:Ending->World->Prop}{p u:Tmp}{ty:TypeId}{g:Nat}{t:TypeId}{cs:Array Value}{d:TypeDesc}(h:fn.results=#[.cell p ty,.tmp u])(f:lk E p=some (PH g))(i:lk E u=some v)
  (hg:aA w g t cs) (k:P.underlying ty=some d) (hd:(match d with|.struct _|.array _ _=>true|_=>false)=true) (q:(P.info? ty).map (·.size)=some cs.size) (r:R (.returned (.tuple #[.agg cs,v])) w):NX n (bodyPost P fn R .ret) E w :=
 fun a c=>⟨c.df,_,aF5 h a.tmps w d (c.at' p _ f) hg k hd q,by rw[c.at' u _ i];exact r⟩
def z7{s:ByteArray}(a:gW h s=true):wJ h/\0<=cV h.entries s/\h.log.length<24/\cO h s<h.parts.length:=by
 have c:=a;unfold gW at a;simp only[aX,qi,oH,du]at a;have O:wJ h:=DD.1 a.1.1;have f:0<=cV h.entries s:=by have:=a.1.2;omega
 refine⟨O,f,a.2,?_⟩;obtain⟨i,k,p,_⟩:=vF f;unfold cO;rw[k,O.len];simpa using p
def HX.aAq{N:Nat->Prop}{ve vp vs vl cY:Value}{d:D}(H:HX M N w h ve vp vs vl)(hg:w.grownBy w' vl.ownBlock)(O:OR M (fun x=>N x\/cY.ownBlock=some x) w' 33 7 rows cY)(a:cY.ownBlock=vl.ownBlock\/cY.ownBlock=some w.heap.size)(r:R w (BM M N) d v):R w' (BM M fun x=>N x\/cY.ownBlock=some x) d v:=by
 have q:∀x,(N x\/cY.ownBlock=some x)->N x\/w.heap.size<=x:=fun x s=>s.elim .inl fun e=>by
  rcases a with c|c
  ·exact .inl (H.l.lt x (c▸e)).1
  ·rw[c]at e;have:=iR e;exact .inr (by omega)
 exact R.keep (fun p u f i=>by have k:=gm f;have t:w'.heap[p.block]? =w.heap[p.block]? :=hg.block p.block k fun e=>i (.inr (H.l.lt _ e.symm).1);exact⟨by unfold World.cell? at f ⊢;rw[t];exact f,fun h=>h.elim (fun h=>i (.inl h)) fun h=>(q _ h).elim (fun h=>i (.inr h)) fun h=>by omega⟩) _ _ r
structure SB(L:Nat)(bx:List (Nat×TypeId×Array Value))(M:Addr->Prop)(N:Nat->Prop)(w W:World)(b6:Nat)(g:Host)(ve vp vu vs vl:Value):Prop where
 H:HX M N W g ve vp vs vl
 U:R W (BM M N) (aj g.up) vu
 bx:∀x∈bx,x.1<L/\aA W (w.heap.size+x.1) x.2.1 x.2.2
 q6:aA W b6 29 (aD ve vp vu vs vl)
 bw:Below w.heap.size w W
 nb:∀k,k<L->N (w.heap.size+k)
 n6:N b6
 nw:∀x,N x->w.heap.size<=x
 lo:w.heap.size+L<=b6
 kv:∀x,KV vp vl x->w.heap.size+L<=x/\x≠b6
section
variable {L:Nat}{bx:List (Nat×TypeId×Array Value)}{M:Addr->Prop}{N N':Nat->Prop}{w W W' W'':World}{b6:Nat}{g g':Host}{ve vp vu vs vl sn Em bZ vs' cY:Value}{T0 T1 T2 T3:TypeId}{c0 c1 c2 c3:Array Value}
def SB.b0(S:SB L ((0,T0,c0)::bx) M N w W b6 g ve vp vu vs vl):aA W w.heap.size T0 c0:=(S.bx _ (.head _)).2
def SB.b1(S:SB L ((0,T0,c0)::(1,T1,c1)::bx) M N w W b6 g ve vp vu vs vl):aA W (w.heap.size+1) T1 c1:=(S.bx _ (.tail _ (.head _))).2
def SB.b2(S:SB L ((0,T0,c0)::(1,T1,c1)::(2,T2,c2)::bx) M N w W b6 g ve vp vu vs vl):aA W (w.heap.size+2) T2 c2:=(S.bx _ (.tail _ (.tail _ (.head _)))).2
def SB.b3(S:SB L ((0,T0,c0)::(1,T1,c1)::(2,T2,c2)::(3,T3,c3)::bx) M N w W b6 g ve vp vu vs vl):aA W (w.heap.size+3) T3 c3:=(S.bx _ (.tail _ (.tail _ (.tail _ (.head _))))).2
def SB.below(S:SB L bx M N w W b6 g ve vp vu vs vl)(hb:Below W.heap.size W W'):SB L bx M N w W' b6 g ve vp vu vs vl :=
 {S with
  H:=S.H.below hb
  U:=db S.U hb fun x hx=>.inl hx
  bx:=fun x hx=>⟨(S.bx x hx).1,(S.bx x hx).2.below hb (S.bx x hx).2.lt⟩
  q6:=S.q6.below hb S.q6.lt
  bw:=bt S.bw hb}
def SB.new(S:SB L bx M N w W b6 g ve vp vu vs vl)(hb:Below W.heap.size W W')(f:∀x,N' x->N x\/W.heap.size<=x)(a:∀x,N x->N' x)(i:∀x,N' x->x<W'.heap.size):SB L bx M N' w W' b6 g ve vp vu vs vl :=
 ⟨S.H.new hb f a i,db S.U hb f,fun x c=>⟨(S.bx x c).1,(S.bx x c).2.below hb (S.bx x c).2.lt⟩,S.q6.below hb S.q6.lt,bt S.bw hb,fun k p=>a _ (S.nb k p),a _ S.n6,fun x c=>(f x c).elim (S.nw x) fun h=>dK S.bw.size h,S.lo,S.kv⟩
def SB.MF(S:SB L bx M N w W b6 g ve vp vu vs vl)(o:bU W W' b)(a:w.heap.size<=b):Below w.heap.size w W' :=
 ⟨o.os.trans S.bw.os,o.tape.trans S.bw.tape,o.output.trans S.bw.output,by rw[o.size];exact S.bw.size,fun i c=>(o.block i (by omega)).trans (S.bw.block i c)⟩
def SB.ZG(S:SB L bx M N w W b6 g ve vp vu vs vl)(o:bU W W' b)(c:w.heap.size+L<=b):∀x∈bx,x.1<L/\aA W' (w.heap.size+x.1) x.2.1 x.2.2:=fun x a=>⟨(S.bx x a).1,(o.block _ (by have:=(S.bx x a).1;omega)).trans (S.bx x a).2⟩
def SB.wr(S:SB L bx M N w W b6 g ve vp vu vs vl)(hG:ek w M)(o:bU W W' b)(hn:N b)(hk:¬KV vp vl b)(hlo:w.heap.size+L<=b)(h6:b≠b6):SB L bx M N w W' b6 g ve vp vu vs vl:=by
 have hg:=hG.2.2;exact {S with
  H:=S.H.one o hn hk (by omega)
  U:=iC S.U o hn
  bx:=S.ZG o hlo
  q6:=(o.block _ (ye h6)).trans S.q6
  bw:=S.MF o (by omega)}
def SB.part{cap i:Nat}(S:SB L bx M N w W b6 g ve (.slice (some ⟨b,0,none⟩) g.parts.length cap) vu vs vl)(hp:OR M N W' 87 6 ((g.parts.map aB.cells).set i (aB.cells p)) (.slice (some ⟨b,0,none⟩) g.parts.length cap))(o:bU W W' b):SB L bx M N w W' b6 {g with parts:=g.parts.set i p} ve (.slice (some ⟨b,0,none⟩) g.parts.length cap) vu vs vl:=by
 have hk:=S.kv b (.inl rfl);exact {S with
  H:=S.H.part hp o
  U:=iC S.U o (S.H.p.lt b rfl).1
  bx:=S.ZG o hk.1
  q6:=(o.block _ (ye hk.2)).trans S.q6
  bw:=S.MF o (by omega)}
def SB.box(S:SB L bx M N w W b6 g ve vp vu vs vl)(G:ek w M)(o:bU W W' b6)(h1:∀x,N' x->N x)(h2:∀x,KV vp vl x->N' x)(f:∀k,k<L->N' (w.heap.size+k))(a:N' b6)(p:g'.parts=g.parts/\g'.log=g.log)(i:R W (BM M N') (aj g'.entries) sn)(u:R W (BM M N') (aj g'.up) bZ)(s:R W (BM M N') (aj g'.shut) vs')(q:aA W' b6 29 (aD sn vp bZ vs' vl)) :
  SB L bx M N' w W' b6 g' sn vp bZ vs' vl:=by
 have c:NG<=b6:=by have:=S.lo;have:=G.2.2;omega
 have H:=(S.H.less h1 h2).one o a (fun r=>(S.kv _ r).2 rfl) c;exact⟨⟨H.gi,H.mb,H.nb,iC i o a,p.1▸H.p,iC s o a,p.2▸H.l,H.pl,H.gp,H.gl⟩,iC u o a,S.ZG o S.lo,q,S.MF o (by have:=S.lo;omega),f,a,fun x t=>S.nw x (h1 x t),S.lo,S.kv⟩
def SB.grow{row:Option Nat}(S:SB L bx M N w W b6 g ve vp vu vs vl)(G:ek w M)(hg:W.grownBy W' row)(r:∀x,row=some x->N x/\¬KV vp vl x/\w.heap.size+L<=x/\x≠b6)(q:∀x,N' x->N x\/W.heap.size<=x)(c:∀x,N x->N' x)(s:∀x,N' x->x<W'.heap.size):SB L bx M N' w W' b6 g ve vp vu vs vl:=by
 have f:=S.bw;refine⟨S.H.grow hg (fun x a=>⟨(r x a).1,(r x a).2.1,by have:=(r x a).2.2.1;have:=G.2.2;omega⟩) q c s,?_,fun x a=>⟨(S.bx x a).1,(S.bx x a).2.grown hg fun e=>by have:=(r _ e.symm).2.2.1;have:=(S.bx x a).1;omega⟩,S.q6.grown hg fun e=>(r _ e.symm).2.2.2 rfl,
  ⟨hg.os.trans f.os,hg.tape.trans f.tape,hg.output.trans f.output,dK f.size hg.size,fun i A=>(hg.block i (dS A f.size) fun e=>by have:=(r _ e.symm).2.2.1;omega).trans (f.block i A)⟩,fun k C=>c _ (S.nb k C),c _ S.n6,fun x a=>(q x a).elim (S.nw x) fun h=>dK f.size h,S.lo,S.kv⟩
 exact R.keep (fun p u t y=>by have z:=gm t;have e:W'.heap[p.block]? =W.heap[p.block]? :=hg.block p.block z fun e=>y (.inr (r _ e.symm).1);exact⟨by unfold World.cell? at t ⊢;rw[e];exact t,fun h=>h.elim (fun h=>y (.inl h)) fun h=>(q _ h).elim (fun h=>y (.inr h)) fun h=>by omega⟩) _ _ S.U
def SB.iU{l:List ByteArray}{A:Addr->Prop}{f:World}(S:SB L bx M N w W b6 g ve vp vu vs vl)(h:R f A (aj l) bZ):∀u∈(aD ve vp bZ vs vl).toList,u.oneCell'=true:=fun u i=>by
 have op:vp.oneCell'=true:=by obtain⟨a,c,rfl,_⟩:=S.H.p.len;rfl
 have ol:vl.oneCell'=true:=by obtain⟨a,c,rfl,_⟩:=S.H.l.len;rfl
 have k:ve.oneCell'=true:=kY (show R W _ (.sl (g.entries.map aB.cells)) ve from S.H.e);have s:vs.oneCell'=true:=kY (show R W _ (.sl (g.shut.map aB.cells)) vs from S.H.s);have p:bZ.oneCell'=true:=kY (show R f _ (.sl (l.map aB.cells)) bZ from h);simp[aD]at i;rcases i with rfl|rfl|rfl|rfl|rfl<;>assumption
def SB.one(S:SB L bx M N w W b6 g ve vp vu vs vl):∀u∈(aD ve vp vu vs vl).toList,u.oneCell'=true:=S.iU S.U
def SB.ans{k:Nat}(S:SB L bx M N w W b6 g ve vp vu vs vl)(G:ek w M)(c:k<L)(o:bU W W' (w.heap.size+k)):R W' M (enc g) (.agg (aD ve vp vu vs vl))/\Below w.heap.size w W'/\SB L [] M N w W' b6 g ve vp vu vs vl:=by
 have f:¬KV vp vl (w.heap.size+k):=fun i=>by have:=(S.kv _ i).1;omega
 have r:=G.2.2;have H:=S.H.one o (S.nb k c) f (by omega);have U:=iC S.U o (S.nb k c);have s:=S.lo;exact⟨H.done (MC U) fun x a q p=>by have:=(S.kv x a).1;have t:x<w.heap.size:=G.1 _ p;omega,S.MF o (by omega),
  {S with H:=H,U:=U,bx:=fun x a=>(by cases a),q6:=(o.block _ (by omega)).trans S.q6,bw:=S.MF o (by omega)}⟩
def SB.out{k j:Nat}(S:SB L bx M N w W b6 g ve vp vu vs vl)(G:ek w M)(a:k<L)(c:j<L)(f:bU W W' (w.heap.size+k))(i:bU W' W'' (w.heap.size+j)):R W'' M (enc g) (.agg (aD ve vp vu vs vl))/\Below w.heap.size w W'':=by obtain⟨p,q,_⟩:=(S.ans G a f).2.2.ans G c i;exact⟨p,q⟩
def SB.logged{e:Event}(S:SB L bx M N w W b6 g ve vp vu vs vl)(G:ek w M)(hg:W.grownBy W' vl.ownBlock)(O:OR M (fun x=>N x\/cY.ownBlock=some x) W' 33 7 ((g.log++[e]).map aB.cells) cY)(c:cY.ownBlock=vl.ownBlock\/cY.ownBlock=some W.heap.size)(f:bU W' W'' b6)(q6:aA W'' b6 29 (aD ve vp vu vs cY)) :
  SB L bx M (fun x=>N x\/cY.ownBlock=some x) w W'' b6 (qB g e) ve vp vu vs cY:=by
 have A:=S.q6.lt;have C:=S.lo;have p:=S.bw;have F:=G.2.2;have r:∀x,KV vp cY x->w.heap.size+L<=x/\x≠b6:=fun x a=>a.elim (fun e=>S.kv x (.inl e)) fun e=>by
  rcases c with q|q
  ·exact S.kv x (.inr (q▸e))
  ·rw[q]at e;have:=iR e;exact⟨by omega,by omega⟩
 have y:∀x,x<w.heap.size+L->some x≠vl.ownBlock:=fun x a e=>by have:=S.kv x (.inr e.symm);omega
 have t:∀x,x<w.heap.size+L->x<W.heap.size->W''.heap[x]? =W.heap[x]? :=fun x a z=>(f.block x (by omega)).trans (hg.block x z (y x a));exact⟨(S.H.aaW hg O c).one f (.inl S.n6) (fun s=>(r _ s).2 rfl) (by omega),iC (S.H.aAq hg O c S.U) f (.inl S.n6),fun x a=>⟨(S.bx x a).1,(t _ (by have:=(S.bx x a).1;omega) (S.bx x a).2.lt).trans (S.bx x a).2⟩,q6,
  ⟨f.os.trans (hg.os.trans p.os),f.tape.trans (hg.tape.trans p.tape),f.output.trans (hg.output.trans p.output),by rw[f.size];exact dK p.size hg.size,fun i u=>(t i (by omega) (dS u p.size)).trans (p.block i u)⟩,fun k s=>.inl (S.nb k s),.inl S.n6,
  fun x a=>a.elim (S.nw x) fun e=>by
   rcases c with q|q
   ·have:=(S.kv x (.inr (q▸e))).1;omega
   ·rw[q]at e;have:=iR e;have:=p.size;omega,S.lo,r⟩
def SB.lg(S:SB L bx M N w W b6 g ve vp vu vs vl)(H:ek w M){e:Event}{us:List Value}(r:Rs W (BM M N) (aB.cells e) us)(I:g.log.length<1048576):∃cY W' N',(Builtin.append_ #[27,27] 27 #[vl,.slice (some ⟨W.heap.size,0,none⟩) 1 1]).run az (W.alloc (.cells us.toArray 33))=.ok cY W'/\cY.oneCell'=true/\aA W' b6 29 (aD ve vp vu vs vl)/\(∀{b t cs},aA W b t cs->some b≠vl.ownBlock->aA W' b t cs)/\bU W' (W'.setCell ⟨b6,0+4,none⟩ cY) b6 /\
  SB L bx M N' w (W'.setCell ⟨b6,0+4,none⟩ cY) b6 (qB g e) ve vp vu vs cY:=by
 obtain⟨Z,k,J,s,y⟩:=wT (P:=az) (e:=33) (z:=.agg #[.int .i64 0,.string ⟨#[]⟩,.string ⟨#[]⟩,.string ⟨#[]⟩,.int .i64 0,.string ⟨#[]⟩,aP]) (size:=7) (bytes:=104) (by kernel_rfl);have p:=iA W us.toArray 33;have f:=MU (Cr e) r;have i:=S.below p;have q:Rs (W.alloc (.cells us.toArray 33)) (BM M N) (aB.cells e) us:=Rs.keep (BM.below (N':=N) p fun x U=>.inl U) _ _ r;obtain⟨cY,W',z,O,A,C⟩:=or_append (P:=az) (ty:=27) (c:=1) (a:=⟨W.heap.size,0,none⟩) vc k J s y rfl (by decide) i.H.l i.H.nb (r:=aB.cells e) (us:=us) rfl ((Rs.length r).trans rfl) (fun j d V=>q.get V) (fun j u X=>FC (w:=W) (xs:=us) (T:=33) j u X) f (by rw[di];exact I) (by decide);have O:OR M (fun x=>N x\/cY.ownBlock=some x) W' 33 7 ((g.log++[e]).map aB.cells) cY:=by rw[zC];exact O
 have F:=i.q6.grown A fun e=>(i.kv _ (.inr e.symm)).2 rfl;have G:=(bU.refl W' b6).set (0+4) cY;exact⟨cY,W',_,z,by obtain⟨a,c,rfl,_⟩:=O.len;rfl,F,fun h Y=>(h.below p h.lt).grown A Y,G,i.logged H A O C G (F.xN 4 cY)⟩
def Ki{n:Nat}{E:List (Nat×Value)}{o:Oper}{u a c f i k p:Value}(ho:o.op=.buildSlice 27 1 #[(0,x)]:=by rfl)(hx:ev E x=some (.agg #[u,a,c,f,i,k,p]):=by rfl):eI n az E o w (.slice (some ⟨w.heap.size,0,none⟩) 1 1) (w.alloc (.cells #[u,a,c,f,i,k,p] 33)):=by obtain⟨q,t,z,s,y⟩:=wT (P:=az) (e:=33) (z:=.agg #[.int .i64 0,.string ⟨#[]⟩,.string ⟨#[]⟩,.string ⟨#[]⟩,.int .i64 0,.string ⟨#[]⟩,aP]) (size:=7) (bytes:=104) (by kernel_rfl);exact am0 ho hx vc t s z
end
section
variable {n:Nat}{P:Program}{Q:Exit->Act->World->Prop}{E:List (Nat×Value)}{w:World}
def agn(n:Nat)(J:List (Nat×Value)->World->Prop)(Q:Exit->Act->World->Prop):Exit->Act->World->Prop
 |.normal,a,w=>∃E',J E' w/\Env n a E'
 |e,a,w=>Q e a w
def QS{c:Code}(J:List (Nat×Value)->World->Prop)(h:CW n P c (agn n J Q) E w)(r:∀E' w',J E' w'->NX n (Q .normal) E' w'):CW n P c Q E w:=fun a f=>
 A9 (h a f) fun e i w' q=>by
  cases e with
  |normal=>obtain⟨E',k,p⟩:=q;exact r E' w' k i p
  |exit id=>exact q
  |goto l=>exact q
  |ret=>exact q
  |panic s=>exact q
  |outgrown=>exact q
def AW{J:List (Nat×Value)->World->Prop}{E':List (Nat×Value)}(h:J E' w)(s:tf E E'):NX n (agn n J Q .normal) E w:=fun a c=>⟨E',h,c.sub s⟩
end
structure B0(w W:World)(l:List (Nat×TypeId×Array Value)):Prop where
 b:Below w.heap.size w W
 z:W.heap.size=w.heap.size+l.length
 m:∀x∈l,x.1<l.length/\aA W (w.heap.size+x.1) x.2.1 x.2.2
section
variable {n:Nat}{P:Program}{ops:Array Oper}{Q:Exit->Act->World->Prop}{E:List (Nat×Value)}{o:Oper}{rest:List Oper}{d:Nat}{w W:World}{l bx:List (Nat×TypeId×Array Value)}{T:TypeId}{cs:Array Value}
def B0.nil:B0 w w []:=⟨⟨rfl,rfl,rfl,bM _,fun _ _=>rfl⟩,rfl,fun x a=>(by cases a)⟩
def B0.al(B:B0 w W l)(cs:Array Value)(T:TypeId):B0 w (W.alloc (.cells cs T)) (l++[(l.length,T,cs)]):=by
 refine⟨bt B.b (iA W cs T),by rw[gb,B.z,iZ];rfl,fun x a=> ?_⟩;rw[iZ];rcases iJ.1 a with a|a
 ·exact⟨dS (B.m x a).1 (Nat.le_add_right _ _),(B.m x a).2.alloc _⟩
 ·simp only[fI,tZ,wU]at a;subst a;refine⟨Rv _,?_⟩;have:=aA.new W T cs;rw[B.z]at this;exact this
def CY(B:B0 w W l)(z:(P.info? T).bind (·.zero)=some (.agg cs))(h:∀W',B0 w W' (l++[(l.length,T,cs)])->WL n P ops Q rest ((d,PH (w.heap.size+l.length))::E) W')(ho:o.op=.alloc T:=by rfl)(hg:o.guard=none:=by rfl)(hd:o.dst=some d:=by rfl)(a:d<n:=by decide):WL n P ops Q (o::rest) E W:=by have:=h _ (B.al cs T);rw[<-B.z]at this;exact fD hg hd (eQ ho z) a this
def CZ(B:B0 w W l)(h:∀W',B0 w W' (l++[(l.length,T,cs)])->WL n P ops Q rest ((d,PH (w.heap.size+l.length))::E) W')(ho:o.op=.box T x:=by rfl)(hx:ev E x=some (.agg cs):=by rfl)(hg:o.guard=none:=by rfl)(hd:o.dst=some d:=by rfl)(a:d<n:=by decide):WL n P ops Q (o::rest) E W:=by have:=h _ (B.al cs T);rw[<-B.z]at this;exact fD hg hd (uG (ho:=ho) (hx:=hx)) a this
def B0.q0(B:B0 w W ((0,T,cs)::bx)):aA W w.heap.size T cs:=(B.m _ (.head _)).2
end
section
variable {L:Nat}{bx:List (Nat×TypeId×Array Value)}{M:Addr->Prop}{N:Nat->Prop}{w W:World}{b6:Nat}{g h:Host}{ve vp vu vs vl v:Value}
def SB.ask{f:FuncId}{ds:List D}{b:Bool}{vs':List Value}(S:SB L bx M N w W b6 g ve vp vu vs vl)(F:aH az f none ds (.bool b) [])(r:Rs W (BM M N) ds vs'):Calls az f vs'.toArray W fun e W'=>e=.returned (.bool b)/\SB L bx M N w W' b6 g ve vp vu vs vl :=
 (aH.calls F S.H.cM r).mono fun e W' ⟨v,a,c,i⟩=>by obtain rfl:=c;exact⟨a,S.below i⟩
def SB.kp{d:D}(S:SB L bx M N w W b6 g ve vp vu vs vl)(h:R w M d v):R W (BM M N) d v:=xy h S.bw S.nw
end
end
end Go.Proofs.YtoomhbopolalnabGreatDoor
