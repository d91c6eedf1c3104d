/- Walk: a host is copied (the reference's l7Copy); its parts, its names, its log lie in rows of their own then. -/
import Derived.Test.YtoomhbopolalnaaGreatDoorS21
set_option linter.all false
set_option maxRecDepth 100000
namespace Go.Proofs.YtoomhbopolalnaaGreatDoor
variable {M:Addr->Prop}{h:Host}{rows:List (List D)}{x:Operand}{P:Program}{T e t:TypeId}{i:TypeInfo}{A C f p u v y z:Value}{w w':World}
section
open Go.RowKit Go
variable [GC]
def axS(e:Event)(a:e.recipe.length<=1048576):dN az 54 none [enc e] (enc e) [] [(6,1)]:=by refine gu aqu aJF ⟨Cp e,trivial⟩ fun f=> ?_;unfold aqu;refine fD (MG e.recipe a) ?_;refine ay ?_;simp only[eS,tj];rfl
section
variable {M:Addr->Prop}{N N':Nat->Prop}{w w':World}{T m:Nat}{rows:List (List D)}{v:Value}{d:D}
def xy(h:R w M d v)(hb:Below w.heap.size w w')(a:∀x,N x->w.heap.size<=x):R w' (BM M N) d v :=
 R.keep (bR.below hb fun q c h=>h.elim id fun h=>by have:=a _ h;omega) _ _ h
def OR.GY(h:OR M N w T m rows v)(h1:∀x,N' x->N x)(h2:∀x,v.ownBlock=some x->¬N' x/\∀o,¬M ⟨x,o,none⟩):R w (BM M N') (.sl rows) v:=by
 obtain⟨a,J,c,f,k⟩:=id h;obtain⟨L,⟨rfl,z⟩|⟨b,cap,l,rfl,O,p,t,y,Q,A⟩⟩:=c
 ·have:rows=[]:=mM z;subst this;exact⟨none,0,0,rfl,rfl,bK _,fO _,fun _=>rfl,fun b o s h=>by cases h⟩
 ·refine JF a rfl t y (fun _=>rfl) fun i j r d C F=> ?_;obtain⟨u,q1,q2,q3⟩:=k i j r d C F;obtain⟨G,H⟩:=h2 b rfl;refine⟨u,?_,fun h=>h.elim (H _) G,R.less q3 fun q I=>I.imp id (h1 _)⟩;rw[nC];unfold World.cell?;simp only[p];rw[<-A,qe]at q1;split at q1
  ·simpa using q1
  ·cases q1
end
section
variable {n:Nat}{P:Program}{E:List (Nat×Value)}{w:World}{o:Oper}
def aE2{c k l r t:Value}(ho:o.op=.buildSlice T 1 #[(0,x)])(hx:ev E x=some (.agg #[u,c,f,k,l,p]))(F:P.underlying T=some (.slice e))(q:P.info? e=some i)(s:i.size=6)(G:i.zero=some (.agg #[z,r,t,y,A,C])) :
  eQ n P E o w (.slice (some ⟨w.heap.size,0,none⟩) 1 1) (w.alloc (.cells #[u,c,f,k,l,p] e)):=fun a H=>by
 have I:Array.range 6=#[0,1,2,3,4,5]:=by decide
 simp[execOp,ho,H.ev hx,Instr.buildSlice,run_underlying F,run_sizeOf q,s,zeroValue,run_typeInfo q,G,Value.cells,Instr.fill,newRow,I]
def ama{c k l q t F G:Value}(ho:o.op=.buildSlice T 1 #[(0,x)])(hx:ev E x=some (.agg #[u,c,f,k,l,p,q]))(H:P.underlying T=some (.slice e))(r:P.info? e=some i)(s:i.size=7)(I:i.zero=some (.agg #[z,t,y,A,C,F,G])) :
  eQ n P E o w (.slice (some ⟨w.heap.size,0,none⟩) 1 1) (w.alloc (.cells #[u,c,f,k,l,p,q] e)):=fun a J=>by
 have L:Array.range 7=#[0,1,2,3,4,5,6]:=by decide
 simp[execOp,ho,J.ev hx,Instr.buildSlice,run_underlying H,run_sizeOf r,s,zeroValue,run_typeInfo r,I,Value.cells,Instr.fill,newRow,L]
end
def aaa{e:Event}(h:R w M (enc e) v):∃S,v=.agg #[.int .i64 e.kind,.string e.name,.string e.call.method,.string e.call.key,.int .i64 e.call.val,.string e.call.text,S]/\R w M (ak e.recipe) S/\e.name.size<=maxLen:=by
 obtain⟨cs,rfl,v0,r0,a,⟨rfl,i⟩,v1,r1,rfl,⟨rfl,c⟩,k,r2,rfl,⟨rfl,l⟩,p,r3,rfl,⟨rfl,q⟩,v4,r4,rfl,⟨rfl,r⟩,s,r5,rfl,⟨rfl,t⟩,v6,u,rfl,f,rfl⟩:=h;have:cs=#[.int .i64 e.kind,.string e.name,.string e.call.method,.string e.call.key,.int .i64 e.call.val,.string e.call.text,v6]:=by rw[<-iT,a]
 exact⟨v6,by rw[this],f,c⟩
def Y5{ty:TypeId}{base:Option Addr}{n cap:Nat}(a:P.underlying t=some (.slice e))(c:P.info? e=some i)(l:n<=cap) :
  (Builtin.append_ #[t,t] ty #[.slice base n cap,aN]).run P w=.ok (.slice base n cap) w :=
 run_append_nothing w t t ty e i a c base n cap l aN (Src.ofNil w a 0)
set_option maxHeartbeats 1000000 in
def aKn{N:Nat->Prop}{l:List ByteArray}(hG:dZ w (BM M N))(h:R w (BM M N) (ak l) v)(hl:l.length<1048576) :
  Calls az 43 #[v] w fun e w'=>∃c,e=.returned c/\OR M (fun x=>N x\/c.ownBlock=some x) w' 9 1 (l.map aB.cells) c/\(∀x,c.ownBlock=some x->w.heap.size<=x)/\Below w.heap.size w w':=by
 obtain⟨a,cap,X,_,J⟩:=mQ (mI (n:=1) (fun _=>rfl) l) h;rw[dq]at X;subst X;have L:a=none->cap=0:=fun e=>by obtain⟨q,Y,Z,f,_,_,_,p,_⟩:=(show R w (BM M N) (.sl (l.map aB.cells)) _ from h);cases f;exact p e
 obtain⟨V,p,G,z,O⟩:=vD (P:=az) (e:=9) (z:=.string ⟨#[]⟩) (size:=1) (bytes:=16) (by kernel_rfl);refine oz (E:=[(0,.slice a l.length cap)]) Tryz.func43 rfl Tryz.ntmps43 (by simp) (by simp) ?_;refine aO ?_;refine ah bO ?_;refine bq ?_;refine bA (E':=[(0,.slice a l.length cap)]) ?_;refine aO ?_;refine ah (acF rfl fz p z G rfl) ?_;refine ah aI ?_;have q:=gh w #[] 9;have f:(w.alloc (.cells #[] 9)).heap.size=w.heap.size+1:=eB _ _;have I:(w.alloc (.cells #[] 9)).ownsRow 0 9 1 (.slice (some ⟨w.heap.size,0,none⟩) 0 0) 0 []:=⟨rfl,.inr ⟨w.heap.size,0,#[],rfl,fO _,vB w _,bK _,fO _,rfl,rfl⟩⟩;have t:∀k (f:k<l.length),(nth l k).size<=maxLen/\∃b o,a=some ⟨b,o,none⟩/\w.cell? ⟨b,o+k,none⟩=some (.string (nth l k)):=fun k f=>by obtain⟨b,o,A,rfl,r,⟨C,_,rfl,⟨rfl,z⟩,F⟩,y⟩:=J k _ (get_map l f);exact⟨z,b,o,rfl,by have:=y 0 _ rfl;simpa using this⟩
 have F:∀(c:Value) (w':World),w'.ownsRow 0 9 1 c l.length (l.map Value.string)->OR M (fun x=>N x\/c.ownBlock=some x) w' 9 1 (l.map aB.cells) c:=fun c w' r=>by
  refine⟨mI (fun _=>rfl) l,l.map Value.string,by rw[dq];exact r,fun x f=>.inr f,fun i j r d H A=> ?_⟩;rw[iq]at H;obtain⟨s,Q,rfl⟩:=kR.1 H;have A:[D.str s][j]? =some d:=A;have S:=(db.1 Q).1;have C:nth l i=s:=by rw[nth,List.getD,Q];rfl
  match j,A with
  |0,A=> cases A;exact⟨.string s,by rw[iq,show i*1+0=i by omega,Q];rfl,rfl,rfl,by rw[<-C];exact(t i S).1⟩
  |j+1,A=>simp at A
 rcases a with _|a
 ·have U:l=[]:=by
   rcases l with _|⟨s,l⟩
   ·rfl
   ·obtain⟨_,b,o,e,_⟩:=t 0 (by simp);cases e
  subst U;obtain rfl:=L rfl;refine ah (rn rfl rfl rfl (Y5 fz p (bK _))) ?_;refine ah bO ?_;exact WL.nil (aM (CW.ret (LM rfl rfl ⟨_,rfl,F _ _ I,fun x f=>(by cases f;exact bK _),q⟩)))
 ·obtain⟨c,w',q1,q2,q3,_,q5⟩:=run_append_own_at (P:=az) (w.alloc (.cells #[] 9)) 0 26 26 9 V (.string ⟨#[]⟩) 1 16 fz p G z O rfl (by decide) _ 0 _ I a l.length cap (l.map Value.string) (by simp)
   (fun j u I=>by
    rw[iq]at I;obtain⟨c,G,rfl⟩:=kR.1 I;have V:=(db.1 G).1;obtain⟨_,b,o,e,p⟩:=t j V;cases e;have C:nth l j=c:=by rw[nth,List.getD,G];rfl
    rw[tY,(q.cell (gf p)),p,C])
   (fun u I=>by obtain⟨c,_,rfl⟩:=fN.1 I;rfl) (by unfold maxLen;omega) (by omega) (fO _)
  refine ah (rn rfl rfl rfl q1) ?_;refine ah bO ?_;refine WL.nil (aM (CW.ret (LM rfl rfl ⟨_,rfl,F _ _ (by simpa using q2),fun x f=> ?_,⟨q3.os,q3.tape,q3.output,by have:=q3.size;omega,fun i H=>(q3.block i (by omega) (fun e=>by have c:i=w.heap.size:=jy e;omega)).trans (q.block i H)⟩⟩)));rcases q5 with e|e
  ·rw[e]at f;have c:w.heap.size=x:=jy f;omega
  ·rw[e]at f;have c:=jy f;omega
def Ds:mC az 29 3=some 3:=by kernel_rfl
def fH:Value:=aN
structure CF(M:Addr->Prop)(N:Nat->Prop)(w0 W:World)(h:Host)(cs:Array Value)(j:Nat)(ve vu vs:Value):Prop where
 bl:Below w0.heap.size w0 W
 b1:aA W w0.heap.size 29 cs
 b2:aA W (w0.heap.size+1) 29 #[aN,aN,aN,aN,aN]
 nw:∀x,N x->w0.heap.size<=x/\x<W.heap.size
 n1:N w0.heap.size
 n2:N (w0.heap.size+1)
 e:1<=j->R W (BM M N) (ak h.entries) ve
 u:2<=j->OR M N W 9 1 (h.up.map aB.cells) vu/\∀x,vu.ownBlock=some x->w0.heap.size+2<=x
 s:3<=j->R W (BM M N) (ak h.shut) vs
structure AL(N:Nat->Prop)(w0 W:World)(j:Nat)(vu:Value)(g:Nat):Prop where
 n:N g
 b:aA W g 29 #[aN,aN,aN,aN,aN]
 lo:w0.heap.size+2<=g
 u:2<=j->vu.ownBlock≠some g
section
variable {M:Addr->Prop}{N N':Nat->Prop}{w0 W W':World}{h:Host}{cs:Array Value}{j:Nat}{ve vu vs:Value}{g:Nat}
def CF.cF(H:CF M N w0 W h cs j ve vu vs)(G:dZ w0 M):dZ W (BM M N) :=
 ⟨fun q a=>a.elim (fun a=>ek (G.1 q a) H.bl.size) fun a=>(H.nw _ a).2,G.2.1.keep fun k c=>H.bl.block k (ek c G.2.2),dV G.2.2 H.bl.size⟩
def CF.below(H:CF M N w0 W h cs j ve vu vs)(hb:Below W.heap.size W W')(i:∀x,N' x->N x\/(W.heap.size<=x/\x<W'.heap.size))(a:∀x,N x->N' x):CF M N' w0 W' h cs j ve vu vs :=
 ⟨bt H.bl hb,H.b1.below hb H.b1.lt,H.b2.below hb H.b2.lt,fun x c=>(i x c).elim (fun h=>⟨(H.nw x h).1,ek (H.nw x h).2 hb.size⟩) (fun h=>⟨dV H.bl.size h.1,h.2⟩),a _ H.n1,a _ H.n2,
  fun f=>dH (H.e f) hb fun x c=>(i x c).imp id CY,fun f=>⟨(H.u f).1.below hb (fun x c=>(i x c).imp id CY) a,(H.u f).2⟩,fun f=>dH (H.s f) hb fun x c=>(i x c).imp id CY⟩
def AL.below(A:AL N w0 W j vu g)(hb:Below W.heap.size W W')(a:∀x,N x->N' x):AL N' w0 W' j vu g:=⟨a _ A.n,A.b.below hb A.b.lt,A.lo,A.u⟩
def xG(W:World):aA (W.alloc (.cells #[aN,aN,aN,aN,aN] 29)) W.heap.size 29 #[aN,aN,aN,aN,aN]:=aA.new W 29 #[aN,aN,aN,aN,aN]
end
def zC(o:Oper):Go.Call:=match o.op with
 |.call c=>c
 |_=>{callee:=.value (.const (.bool true)),args:=#[],argTypes:=#[]}
def pH(l:List Nat):Array Bool:=((List.range 12).map fun i=>l.any (Nat.beq i)).toArray
def agH(a1 a2 a:Option Addr)(n1 n2 n3 c1 c2 c:Nat):um az 29 [(0,.slice a1 n1 c1),(2,.slice a2 n2 c2),(3,.slice a n3 c)]=some (aC (.slice a1 n1 c1) fH (.slice a2 n2 c2) (.slice a n3 c) fH):=by kernel_rfl
def air{row:Option Nat}{b:Nat}(h:w.grownBy w' row)(hb:∀x,row=some x->x=b):dD (fun x=>x=b) w w':=⟨h.os,h.tape,h.output,h.size,fun i a c=>h.block i a fun e=>c (hb i e.symm)⟩
def azx{b:Nat}(h:bU w w' b):dD (fun x=>x=b) w w':=⟨h.os,h.tape,h.output,lF h.size.symm,fun i c a=>h.block i a⟩
section
variable {M:Addr->Prop}{N N':Nat->Prop}{w0 W W':World}{h:Host}{cs:Array Value}{j g b kp kl:Nat}{ve vu vs vp vl Er cZ:Value}
def BM.fr(f:dD (fun x=>x=b) W W')(hb:N b\/W.heap.size<=b)(i:∀x,N' x->N x\/W.heap.size<=x):bR W (BM M N) W' (BM M N'):=fun p u c a=>by
 have l:=gf c;have e:W'.heap[p.block]? =W.heap[p.block]? :=f.block p.block l fun e=>hb.elim (fun hb=>a (.inr (by show N p.block;rw[e];exact hb))) fun hb=>by omega
 exact⟨by unfold World.cell? at c ⊢;rw[e];exact c,fun h=>h.elim (fun h=>a (.inl h)) fun h=>(i _ h).elim (fun h=>a (.inr h)) fun h=>by omega⟩
def CF.aW(H:CF M N w0 W h cs j ve vu vs)(f:dD (fun x=>x=b) W W')(hb:N b\/W.heap.size<=b)(q:w0.heap.size+2<=b)(u:∀x,vu.ownBlock=some x->x≠b)(l:∀x,N' x->N x\/(W.heap.size<=x/\x<W'.heap.size))(k:∀x,N x->N' x):CF M N' w0 W' h cs j ve vu vs:=by
 have kp:=BM.fr (M:=M) (N':=N') f hb fun x a=>(l x a).imp id CY;have b2:=H.b2.lt;exact⟨⟨f.os.trans H.bl.os,f.tape.trans H.bl.tape,f.output.trans H.bl.output,dV H.bl.size f.size,fun i p=>(f.block i (ek p H.bl.size) (by omega)).trans (H.bl.block i p)⟩,(f.block _ H.b1.lt (by omega)).trans H.b1,(f.block _ H.b2.lt (by omega)).trans H.b2,
  fun x a=>(l x a).elim (fun h=>⟨(H.nw x h).1,ek (H.nw x h).2 f.size⟩) (fun h=>⟨dV H.bl.size h.1,h.2⟩),k _ H.n1,k _ H.n2,
  fun c=>R.keep kp _ _ (H.e c),fun c=>⟨(H.u c).1.keep (fun x a=>f.block x ((H.u c).1.lt x a).2 (u x a)) kp fun x a=>k x ((H.u c).1.lt x a).1,(H.u c).2⟩,fun c=>R.keep kp _ _ (H.s c)⟩
structure LS(M:Addr->Prop)(N:Nat->Prop)(w0 W:World)(h:Host)(cs:Array Value)(ve vu vs:Value)(g kp kl:Nat)(vp vl:Value):Prop where
 cf:CF M N w0 W h cs 3 ve vu vs
 n:N g
 lo:w0.heap.size+2<=g
 ug:vu.ownBlock≠some g
 p:OR M N W 51 6 ((h.parts.take kp).map aB.cells) vp
 pa:∀x,vp.ownBlock=some x->w0.heap.size+2<=x/\x≠g/\vu.ownBlock≠some x
 l:OR M N W 33 7 ((h.log.take kl).map aB.cells) vl
 la:∀x,vl.ownBlock=some x->w0.heap.size+2<=x/\x≠g/\vu.ownBlock≠some x/\vp.ownBlock≠some x
def LS.below(H:LS M N w0 W h cs ve vu vs g kp kl vp vl)(hb:Below W.heap.size W W'):LS M N w0 W' h cs ve vu vs g kp kl vp vl :=
 {H with
  cf:=H.cf.below hb (fun x a=>.inl a) fun x a=>a
  p:=H.p.below hb (fun x a=>.inl a) fun x a=>a
  l:=H.l.below hb (fun x a=>.inl a) fun x a=>a}
def LS.one(H:LS M N w0 W h cs ve vu vs g kp kl vp vl)(c:bU W W' g):LS M N w0 W' h cs ve vu vs g kp kl vp vl :=
 {H with
  cf:=H.cf.aW (azx c) (.inl H.n) H.lo (fun x a e=>H.ug (e▸a)) (fun x a=>.inl a) fun x a=>a
  p:=H.p.one c H.n fun e=>(H.pa g e).2.1 rfl
  l:=H.l.one c H.n fun e=>(H.la g e).2.1 rfl}
def alN{T m:Nat}(h:OR M N W T m rows v)(l:w0.heap.size+2<=W.heap.size)(c:∀x,v.ownBlock=some x->w0.heap.size+2<=x):∃b,(N b\/W.heap.size<=b)/\w0.heap.size+2<=b/\(∀x,v.ownBlock=some x->x=b)/\(v.ownBlock=some b\/b=W.heap.size):=by
 cases e:v.ownBlock with
 |none=>exact⟨W.heap.size,.inr (bK _),l,fun x a=>(by cases a),.inr rfl⟩
 |some b=>exact⟨b,.inl (h.lt b e).1,c b e,fun x a=>(by cases a;rfl),.inl rfl⟩
def LS.azI(H:LS M N w0 W h cs ve vu vs g kp kl vp vl)(hg:W.grownBy W' vp.ownBlock)(o:OR M (fun x=>N x\/Er.ownBlock=some x) W' 51 6 ((h.parts.take (kp+1)).map aB.cells) Er)(i:Er.ownBlock=vp.ownBlock\/Er.ownBlock=some W.heap.size) :
  LS M (fun x=>N x\/Er.ownBlock=some x) w0 W' h cs ve vu vs g (kp+1) kl Er vl:=by
 have z:=H.cf.b2.lt;obtain⟨b,q,l,r,k⟩:=alN H.p (by omega) fun x a=>(H.pa x a).1;have f:=air hg r;have s:∀x,(N x\/Er.ownBlock=some x)->N x\/(W.heap.size<=x/\x<W'.heap.size):=fun x a=>a.elim .inl fun e=>by
  rcases i with c|c
  ·exact .inl (H.p.lt x (c▸e)).1
  ·have:=(o.lt x e).2;rw[c]at e;have:=jy e;exact .inr ⟨by omega,by omega⟩
 have u:=(H.cf.u (by decide)).1.lt;have p:∀x,vu.ownBlock=some x->x≠b:=fun x a e=>by
  subst e;rcases k with c|c
  ·exact(H.pa _ c).2.2 a
  ·have:=(u x a).2;omega
 refine⟨H.cf.aW f q l p s fun x a=>.inl a,.inl H.n,H.lo,H.ug,o,fun x a=> ?_,?_,fun x a=> ?_⟩
 ·rcases i with c|c
  ·exact H.pa x (c▸a)
  ·rw[c]at a;have e:=jy a;have t:=(H.cf.nw g H.n).2;exact⟨by omega,by omega,fun y=>by have:=(u x y).2;omega⟩
 ·exact H.l.keep (fun x a=>f.block x (H.l.lt x a).2 fun e=>by
   subst e;rcases k with c|c
   ·exact(H.la _ a).2.2.2 c
   ·have:=(H.l.lt x a).2;omega) (BM.fr f q fun x a=>(s x a).imp id CY) fun x a=>.inl (H.l.lt x a).1
 ·obtain⟨q1,q2,q3,q4⟩:=H.la x a;refine⟨q1,q2,q3,fun e=> ?_⟩;rcases i with c|c
  ·exact q4 (c▸e)
  ·rw[c]at e;have:=jy e;have:=(H.l.lt x a).2;omega
def LS.aam(H:LS M N w0 W h cs ve vu vs g kp kl vp vl)(hg:W.grownBy W' vl.ownBlock)(o:OR M (fun x=>N x\/cZ.ownBlock=some x) W' 33 7 ((h.log.take (kl+1)).map aB.cells) cZ)(i:cZ.ownBlock=vl.ownBlock\/cZ.ownBlock=some W.heap.size) :
  LS M (fun x=>N x\/cZ.ownBlock=some x) w0 W' h cs ve vu vs g kp (kl+1) vp cZ:=by
 have z:=H.cf.b2.lt;obtain⟨b,s,l,r,k⟩:=alN H.l (by omega) fun x a=>(H.la x a).1;have f:=air hg r;have t:∀x,(N x\/cZ.ownBlock=some x)->N x\/(W.heap.size<=x/\x<W'.heap.size):=fun x a=>a.elim .inl fun e=>by
  rcases i with c|c
  ·exact .inl (H.l.lt x (c▸e)).1
  ·have:=(o.lt x e).2;rw[c]at e;have:=jy e;exact .inr ⟨by omega,by omega⟩
 have u:=(H.cf.u (by decide)).1.lt;have p:∀x,vu.ownBlock=some x->x≠b:=fun x a e=>by
  subst e;rcases k with c|c
  ·exact(H.la _ c).2.2.1 a
  ·have:=(u x a).2;omega
 refine⟨H.cf.aW f s l p t fun x a=>.inl a,.inl H.n,H.lo,H.ug,?_,H.pa,o,fun x a=> ?_⟩
 ·exact H.p.keep (fun x a=>f.block x (H.p.lt x a).2 fun e=>by
   subst e;rcases k with c|c
   ·exact(H.la _ c).2.2.2 a
   ·have:=(H.p.lt x a).2;omega) (BM.fr f s fun x a=>(t x a).imp id CY) fun x a=>.inl (H.p.lt x a).1
 ·rcases i with c|c
  ·exact H.la x (c▸a)
  ·rw[c]at a;have e:=jy a;have y:=(H.cf.nw g H.n).2;exact⟨by omega,by omega,fun q=>by have:=(u x q).2;omega,fun q=>by have:=(H.p.lt x q).2;omega⟩
end
def Gl(i:R w M (enc h) v):∃ae ap u a al,v=.agg (aC ae ap u a al)/\R w M (ak h.entries) ae/\R w M (ak h.parts) ap/\R w M (ak h.up) u/\R w M (ak h.shut) a/\R w M (ak h.log) al:=by
 obtain⟨cs,rfl,v0,r0,k,l,v1,r1,rfl,p,c,r2,rfl,q,f,r3,rfl,r,v4,r4,rfl,s,rfl⟩:=i;have:cs=aC v0 v1 c f v4:=by rw[<-iT,k];rfl
 exact⟨v0,v1,c,f,v4,by rw[this],l,p,q,r,s⟩
def VK{α:Type}[Inhabited α]{l:List α}{k:Nat}(h:k<l.length):l.take (k+1)=l.take k++[nth l k]:=by rw[Ma,nth,List.getD,bX h];rfl
def FR:vI az 25=some 6:=by kernel_rfl
def azf:vI az 27=some 7:=by kernel_rfl
def UE:(az.info? 33).map (·.size)=some 7:=by kernel_rfl
def tk:mC az 29 4=some 4:=by kernel_rfl
def Gz:(az.info? 51).bind (·.zero)=some (.agg #[.string ⟨#[]⟩,.bool false,.bool false,aN,.int .i64 0,aN]):=by kernel_rfl
def aCd:(az.info? 33).bind (·.zero)=some (.agg #[.int .i64 0,.string ⟨#[]⟩,.string ⟨#[]⟩,.string ⟨#[]⟩,.int .i64 0,.string ⟨#[]⟩,aN]):=by kernel_rfl
def mf(h:R w M (.sl rows) v):v.oneCell'=true:=by obtain⟨a,n,c,rfl,_⟩:=h;rfl
end
section
open Go.RowKit Go
def ayk(a:FuncId->FuncId)(c:Go.Call):Go.Call:={c with callee:=match c.callee with|.value (.func f)=>.value (.func (a f))|x=>x}
def aEH(a:FuncId->FuncId)(s:String)(o:Oper):Oper:={o with op:=match o.op with|.call c=>.call (ayk a c)|x=>x,pos:=s}
def acv(a:FuncId->FuncId)(π:Nat->String):Nat->List Oper->List Oper
 |_,[]=>[]
 |j,o::l=>aEH a (π j) o::acv a π (j+1) l
def ren(f:FuncId->FuncId)(π:Nat->Nat->String):Code->Code
 |.region i ops d=>.region i (acv f (π i) 0 ops.toList).toArray d
 |.seq a b=>.seq (ren f π a) (ren f π b)
 |.cond c a b=>.cond c (ren f π a) (ren f π b)
 |.block i b=>.block i (ren f π b)
 |.loop b=>.loop (ren f π b)
 |x=>x
noncomputable def bodyC:Code:=Tryz.f20.body.getD .skip
noncomputable def posOf(fn:Func)(i j:Nat):String:=(((G5 fn i).toList[j]?).map (·.pos)).getD ""
def aFo:Tryz.f20.body=some (ren id (posOf Tryz.f20) bodyC):=by kernel_rfl
def amx(f:FuncId):FuncId:=if f=52 then 46 else if f=43 then 47 else if f=53 then 48 else if f=54 then 49 else f
def aFp:Tryz.f15.body=some (ren amx (posOf Tryz.f15) bodyC):=by kernel_rfl
end
variable {π:Nat->Nat->String}
section
open Go.RowKit Go
variable [GC]
noncomputable def fI(a:FuncId->FuncId)(π:Nat->Nat->String):Array Oper:=(acv a (π 1) 0 (G5 Tryz.f20 1).toList).toArray
structure Qv(ρ:FuncId->FuncId):Prop where
 kc:rT az (ρ 43)=true
 kT:∀{M:Addr->Prop} {N:Nat->Prop} {w:World} {l:List ByteArray} {v:Value},dZ w (BM M N)->R w (BM M N) (ak l) v->l.length<1048576->Calls az (ρ 43) #[v] w fun e w'=>∃v',e=.returned v'/\OR M (fun x=>N x\/v'.ownBlock=some x) w' 9 1 (l.map aB.cells) v'/\(∀x,v'.ownBlock=some x->w.heap.size<=x)/\Below w.heap.size w w'
 kE:∀l:List Entry,l.length<=1048576->(∀e∈l,e.fit)->dN az (ρ 52) none [ak l] (ak l) [] [(0,5)]
 kV:∀e:Event,e.recipe.length<=1048576->dN az (ρ 54) none [enc e] (enc e) [] [(6,1)]
 kP:∀p:Part,p.core.cells.length<=4294967296->p.ai.length<=4294967296->dN az (ρ 53) none [enc p] (enc p) [] [(3,2),(5,2)]
set_option maxHeartbeats 4000000 in
def aFh{k:FuncId->FuncId}(K:Qv k){M:Addr->Prop}{w0:World}{h:Host}{ae ap l s al:Value}{Q:Exit->Act->World->Prop}(L:∀c a t v w,Q (.panic c) (Act.put a t v) w->Q (.panic c) a w)(I:dZ w0 M)(S:R w0 M (ak h.entries) ae)(U:R w0 M (ak h.up) l)(has:R w0 M (ak h.shut) s)
  (hl:h.entries.length<=1048576) (hf:∀e∈h.entries,e.fit) (V:h.up.length<1048576) (X:h.shut.length<1048576)
  (fin:∀(N:Nat->Prop) (W:World) (g:Nat) (ve vu vs:Value),CF M N w0 W h (aC ae ap l s al) 3 ve vu vs->N g->aA W g 29 (aC ve fH vu vs fH)->w0.heap.size+2<=g->vu.ownBlock≠some g->NX 49 (Q .normal) [(1,PH w0.heap.size),(2,PH (w0.heap.size+1)),(3,PH g)] W)
  (N:Nat->Prop) (W:World) (H:CF M N w0 W h (aC ae ap l s al) 0 fH fH fH) :
  AU 49 az (fI k π) Q (fun W=>aA W w0.heap.size 29 (aC ae ap l s al)) 11 12 (Array.replicate 12 false) [(1,PH w0.heap.size),(2,PH (w0.heap.size+1))] W:=by
 have sl:∀{W:World} {M:Addr->Prop} {rows:List (List D)} {v:Value},R W M (.sl rows) v->∃a n c,v=.slice a n c:=fun h=>by obtain⟨a,n,c,rfl,_⟩:=h;exact⟨a,n,c,rfl⟩
 have Y:∀(N:Nat->Prop) (W:World) (ve:Value) (vu:Value) (vs:Value) (g:Nat),CF M N w0 W h (aC ae ap l s al) 3 ve vu vs->AL N w0 W 3 vu g->AU 49 az (fI k π) Q (fun W=>aA W w0.heap.size 29 (aC ae ap l s al)) 11 1 (pH [0,1,2,3,4,5,6,7,8,9,10]) [(1,PH w0.heap.size),(2,PH (w0.heap.size+1)),(9,ae),(12,l),(15,s),(17,.agg (aC ve fH vu vs fH)),(3,PH g)] W:=by intro N W ve vu vs g H A;obtain⟨a2,c2,rfl,_⟩:=(H.u (by decide)).1.len;obtain⟨Z,F,G,rfl⟩:=sl (show R W _ (.sl (h.entries.map aB.cells)) ve from H.e (by decide));obtain⟨J,n3,c3,rfl⟩:=sl (show R W _ (.sl (h.shut.map aB.cells)) vs from H.s (by decide));refine iK (o:=opAt (fI k π) 11) 11 (by kernel_rfl) (hg:=(by kernel_rfl)) (hd:=(by kernel_rfl)) (T:=29) (x:=.tmp 3) (y:=.tmp 17) (C:=#[.slice none 0 0,.slice none 0 0,.slice none 0 0,.slice none 0 0,.slice none 0 0]) (hop:=(by kernel_rfl)) rfl A.b (by intro u f;simp[aC,fH]at f;rcases f with rfl|rfl|rfl|rfl|rfl<;>rfl) bI (fun _ _ h=>absurd rfl h) fun p r O=> ?_;refine ij (by kernel_rfl) ?_;have z:=A.lo;have q:=O.size;have f:=H.bl.size;have y:CF M N w0 p h (aC ae ap l s al) 3 (.slice Z F G) _ (.slice J n3 c3):=⟨⟨O.os.trans H.bl.os,O.tape.trans H.bl.tape,O.output.trans H.bl.output,by omega,fun i C=>(O.block i (by omega)).trans (H.bl.block i C)⟩,(O.block _ (by omega)).trans H.b1,(O.block _ (by omega)).trans H.b2,fun x f=>by rw[q];exact H.nw x f,H.n1,H.n2,fun q=>iO (H.e q) O A.n,fun q=>⟨(H.u q).1.one O A.n (A.u q),(H.u q).2⟩,fun q=>iO (H.s q) O A.n⟩;exact fun C O=>fin N p g _ _ _ y A.n r A.lo (A.u (by decide)) C (O.sub ⟨rfl,rfl,rfl,trivial⟩)
 have s4B:∀(N:Nat->Prop) (W:World) (ve:Value) (vu:Value) (vs:Value),CF M N w0 W h (aC ae ap l s al) 3 ve vu vs->AU 49 az (fI k π) Q (fun W=>aA W w0.heap.size 29 (aC ae ap l s al)) 11 2 (pH [0,1,2,3,4,5,6,7,8,9]) [(1,PH w0.heap.size),(2,PH (w0.heap.size+1)),(9,ae),(12,l),(15,s),(17,.agg (aC ve fH vu vs fH))] W:=by
  intro N W ve vu vs H;refine CH (show Region.ready .any (fI k π) (pH [0,1,2,3,4,5,6,7,8,9])=[10] by kernel_rfl) ?_
  ·have r:=gh W #[.slice none 0 0,.slice none 0 0,.slice none 0 0,.slice none 0 0,.slice none 0 0] 29;have hz:=eB W (.cells #[.slice none 0 0,.slice none 0 0,.slice none 0 0,.slice none 0 0,.slice none 0 0] 29);have p:=H.below (N':=fun x=>N x\/x=W.heap.size) r (fun x f=>f.imp id fun f=>by omega) fun x f=>.inl f;have z:=H.b2.lt;have C:AL (fun x=>N x\/x=W.heap.size) w0 (W.alloc (.cells #[.slice none 0 0,.slice none 0 0,.slice none 0 0,.slice none 0 0,.slice none 0 0] 29)) 3 vu W.heap.size:=⟨.inr rfl,xG W,by omega,fun q e=>by have:=((H.u (by decide)).1.lt _ e).2;omega⟩;refine nW (o:=opAt (fI k π) 10) (d:=3) (w':=W.alloc (.cells #[.slice none 0 0,.slice none 0 0,.slice none 0 0,.slice none 0 0,.slice none 0 0] 29)) (eV (z:=.agg #[.slice none 0 0,.slice none 0 0,.slice none 0 0,.slice none 0 0,.slice none 0 0]) (by kernel_rfl) oM) p.b1 ?_;exact ju (Y _ _ _ _ _ _ p C)
 have O:∀(N:Nat->Prop) (W:World) (ve:Value) (vu:Value) (vs:Value) (g:Nat),CF M N w0 W h (aC ae ap l s al) 3 ve vu vs->AL N w0 W 3 vu g->AU 49 az (fI k π) Q (fun W=>aA W w0.heap.size 29 (aC ae ap l s al)) 11 2 (pH [0,1,2,3,4,5,6,7,8,10]) [(1,PH w0.heap.size),(2,PH (w0.heap.size+1)),(9,ae),(12,l),(15,s),(10,ve),(13,vu),(16,vs),(3,PH g)] W:=by
  intro N W ve vu vs g H A;refine CH (show Region.ready .any (fI k π) (pH [0,1,2,3,4,5,6,7,8,10])=[9] by kernel_rfl) ?_
  ·obtain⟨Z,F,G,rfl⟩:=sl (show R W _ (.sl (h.entries.map aB.cells)) ve from H.e (by decide));obtain⟨a2,c2,rfl,_⟩:=(H.u (by decide)).1.len;obtain⟨J,n3,c3,rfl⟩:=sl (show R W _ (.sl (h.shut.map aB.cells)) vs from H.s (by decide));refine nW (o:=opAt (fI k π) 9) (d:=17) (kI (parts:=#[(0,.tmp 10),(2,.tmp 13),(3,.tmp 16)]) (ho:=(by kernel_rfl)) (agH Z a2 J F _ n3 G c2 c3)) H.b1 ?_;exact ju (Y _ _ _ _ _ _ H A)
 have Y:∀(N:Nat->Prop) (W:World) (ve:Value) (vu:Value) (vs:Value),CF M N w0 W h (aC ae ap l s al) 3 ve vu vs->AU 49 az (fI k π) Q (fun W=>aA W w0.heap.size 29 (aC ae ap l s al)) 11 3 (pH [0,1,2,3,4,5,6,7,8]) [(1,PH w0.heap.size),(2,PH (w0.heap.size+1)),(9,ae),(12,l),(15,s),(10,ve),(13,vu),(16,vs)] W:=by
  intro N W ve vu vs H;refine CI (show Region.ready .any (fI k π) (pH [0,1,2,3,4,5,6,7,8])=[9,10] by kernel_rfl) ?_ ?_
  ·obtain⟨Z,F,G,rfl⟩:=sl (show R W _ (.sl (h.entries.map aB.cells)) ve from H.e (by decide));obtain⟨a2,c2,rfl,_⟩:=(H.u (by decide)).1.len;obtain⟨J,n3,c3,rfl⟩:=sl (show R W _ (.sl (h.shut.map aB.cells)) vs from H.s (by decide));refine nW (o:=opAt (fI k π) 9) (d:=17) (kI (parts:=#[(0,.tmp 10),(2,.tmp 13),(3,.tmp 16)]) (ho:=(by kernel_rfl)) (agH Z a2 J F _ n3 G c2 c3)) H.b1 ?_;exact ju (s4B _ _ _ _ _ H)
  ·have r:=gh W #[.slice none 0 0,.slice none 0 0,.slice none 0 0,.slice none 0 0,.slice none 0 0] 29;have hz:=eB W (.cells #[.slice none 0 0,.slice none 0 0,.slice none 0 0,.slice none 0 0,.slice none 0 0] 29);have p:=H.below (N':=fun x=>N x\/x=W.heap.size) r (fun x f=>f.imp id fun f=>by omega) fun x f=>.inl f;have z:=H.b2.lt;have C:AL (fun x=>N x\/x=W.heap.size) w0 (W.alloc (.cells #[.slice none 0 0,.slice none 0 0,.slice none 0 0,.slice none 0 0,.slice none 0 0] 29)) 3 vu W.heap.size:=⟨.inr rfl,xG W,by omega,fun q e=>by have:=((H.u (by decide)).1.lt _ e).2;omega⟩;refine nW (o:=opAt (fI k π) 10) (d:=3) (w':=W.alloc (.cells #[.slice none 0 0,.slice none 0 0,.slice none 0 0,.slice none 0 0,.slice none 0 0] 29)) (eV (z:=.agg #[.slice none 0 0,.slice none 0 0,.slice none 0 0,.slice none 0 0,.slice none 0 0]) (by kernel_rfl) oM) p.b1 ?_;exact ju (O _ _ _ _ _ _ p C)
 have J:∀(N:Nat->Prop) (W:World) (ve:Value) (vu:Value) (g:Nat),CF M N w0 W h (aC ae ap l s al) 2 ve vu fH->AL N w0 W 2 vu g->AU 49 az (fI k π) Q (fun W=>aA W w0.heap.size 29 (aC ae ap l s al)) 11 3 (pH [0,1,2,3,4,5,6,7,10]) [(1,PH w0.heap.size),(2,PH (w0.heap.size+1)),(9,ae),(12,l),(15,s),(10,ve),(13,vu),(3,PH g)] W:=by
  intro N W ve vu g H A;refine CH (show Region.ready .any (fI k π) (pH [0,1,2,3,4,5,6,7,10])=[8] by kernel_rfl) ?_
  ·refine xX (o:=opAt (fI k π) 8) (d:=16) (pL (cl:=zC (opAt (fI k π) 8)) (args:=#[s]) K.kc (by kernel_rfl) (by kernel_rfl) rfl) (K.kT (H.cF I) (xy has H.bl fun x f=>(H.nw x f).1) X) ?_;rintro _ W' ⟨vs,rfl,F,G,r⟩;have p:=H.below (N':=N) r (fun x f=>.inl f) fun x f=>f;have y:CF M N w0 W' h (aC ae ap l s al) 3 ve vu vs:={p with e:=fun _=>p.e (by decide),u:=fun _=>p.u (by decide),s:=fun _=>F.GY (fun x f=>.inl f) fun x f=>⟨fun h=>by have:=G x f;have:=(H.nw x h).2;omega,fun o Z=>by have h1:=G x f;have h2:x<w0.heap.size:=I.1 _ Z;have:=H.bl.size;omega⟩};have C:AL N w0 W' 3 vu g:={A.below (N':=N) r (fun x f=>f)with u:=fun _=>A.u (by decide)};refine⟨_,rfl,y.b1,?_⟩;exact ju (O _ _ _ _ _ _ y C)
 have s2B:∀(N:Nat->Prop) (W:World) (ve:Value) (vu:Value),CF M N w0 W h (aC ae ap l s al) 2 ve vu fH->AU 49 az (fI k π) Q (fun W=>aA W w0.heap.size 29 (aC ae ap l s al)) 11 4 (pH [0,1,2,3,4,5,6,7]) [(1,PH w0.heap.size),(2,PH (w0.heap.size+1)),(9,ae),(12,l),(15,s),(10,ve),(13,vu)] W:=by
  intro N W ve vu H;refine CI (show Region.ready .any (fI k π) (pH [0,1,2,3,4,5,6,7])=[8,10] by kernel_rfl) ?_ ?_
  ·refine xX (o:=opAt (fI k π) 8) (d:=16) (pL (cl:=zC (opAt (fI k π) 8)) (args:=#[s]) K.kc (by kernel_rfl) (by kernel_rfl) rfl) (K.kT (H.cF I) (xy has H.bl fun x f=>(H.nw x f).1) X) ?_;rintro _ W' ⟨vs,rfl,F,G,r⟩;have p:=H.below (N':=N) r (fun x f=>.inl f) fun x f=>f;have y:CF M N w0 W' h (aC ae ap l s al) 3 ve vu vs:={p with e:=fun _=>p.e (by decide),u:=fun _=>p.u (by decide),s:=fun _=>F.GY (fun x f=>.inl f) fun x f=>⟨fun h=>by have:=G x f;have:=(H.nw x h).2;omega,fun o Z=>by have h1:=G x f;have h2:x<w0.heap.size:=I.1 _ Z;have:=H.bl.size;omega⟩};refine⟨_,rfl,y.b1,?_⟩;exact ju (Y _ _ _ _ _ y)
  ·have r:=gh W #[.slice none 0 0,.slice none 0 0,.slice none 0 0,.slice none 0 0,.slice none 0 0] 29;have hz:=eB W (.cells #[.slice none 0 0,.slice none 0 0,.slice none 0 0,.slice none 0 0,.slice none 0 0] 29);have p:=H.below (N':=fun x=>N x\/x=W.heap.size) r (fun x f=>f.imp id fun f=>by omega) fun x f=>.inl f;have z:=H.b2.lt;have C:AL (fun x=>N x\/x=W.heap.size) w0 (W.alloc (.cells #[.slice none 0 0,.slice none 0 0,.slice none 0 0,.slice none 0 0,.slice none 0 0] 29)) 2 vu W.heap.size:=⟨.inr rfl,xG W,by omega,fun q e=>by have:=((H.u (by decide)).1.lt _ e).2;omega⟩;refine nW (o:=opAt (fI k π) 10) (d:=3) (w':=W.alloc (.cells #[.slice none 0 0,.slice none 0 0,.slice none 0 0,.slice none 0 0,.slice none 0 0] 29)) (eV (z:=.agg #[.slice none 0 0,.slice none 0 0,.slice none 0 0,.slice none 0 0,.slice none 0 0]) (by kernel_rfl) oM) p.b1 ?_;exact ju (J _ _ _ _ _ p C)
 have O:∀(N:Nat->Prop) (W:World) (ve:Value) (g:Nat),CF M N w0 W h (aC ae ap l s al) 1 ve fH fH->AL N w0 W 1 fH g->AU 49 az (fI k π) Q (fun W=>aA W w0.heap.size 29 (aC ae ap l s al)) 11 4 (pH [0,1,2,3,4,6,7,10]) [(1,PH w0.heap.size),(2,PH (w0.heap.size+1)),(9,ae),(12,l),(15,s),(10,ve),(3,PH g)] W:=by
  intro N W ve g H A;refine CH (show Region.ready .any (fI k π) (pH [0,1,2,3,4,6,7,10])=[5] by kernel_rfl) ?_
  ·refine xX (o:=opAt (fI k π) 5) (d:=13) (pL (cl:=zC (opAt (fI k π) 5)) (args:=#[l]) K.kc (by kernel_rfl) (by kernel_rfl) rfl) (K.kT (H.cF I) (xy U H.bl fun x f=>(H.nw x f).1) V) ?_;rintro _ W' ⟨vu,rfl,F,G,r⟩;have p:=H.below (N':=fun x=>N x\/vu.ownBlock=some x) r (fun x f=>f.imp id fun f=>⟨G x f,(F.lt x f).2⟩) fun x f=>.inl f;have z:=H.b2.lt;have y:CF M (fun x=>N x\/vu.ownBlock=some x) w0 W' h (aC ae ap l s al) 2 ve vu fH:={p with e:=fun _=>p.e (by decide),u:=fun _=>⟨F,fun x f=>by have:=G x f;omega⟩,s:=fun q=>absurd q (by decide)};have C:AL (fun x=>N x\/vu.ownBlock=some x) w0 W' 2 vu g:={A.below (N':=fun x=>N x\/vu.ownBlock=some x) r (fun x f=>.inl f)with u:=fun _ e=>by have:=G g e;have:=A.b.lt;omega};refine⟨_,rfl,y.b1,?_⟩;exact ju (J _ _ _ _ _ y C)
 have J:∀(N:Nat->Prop) (W:World) (ve:Value),CF M N w0 W h (aC ae ap l s al) 1 ve fH fH->AU 49 az (fI k π) Q (fun W=>aA W w0.heap.size 29 (aC ae ap l s al)) 11 5 (pH [0,1,2,3,4,6,7]) [(1,PH w0.heap.size),(2,PH (w0.heap.size+1)),(9,ae),(12,l),(15,s),(10,ve)] W:=by
  intro N W ve H;refine CI (show Region.ready .any (fI k π) (pH [0,1,2,3,4,6,7])=[5,10] by kernel_rfl) ?_ ?_
  ·refine xX (o:=opAt (fI k π) 5) (d:=13) (pL (cl:=zC (opAt (fI k π) 5)) (args:=#[l]) K.kc (by kernel_rfl) (by kernel_rfl) rfl) (K.kT (H.cF I) (xy U H.bl fun x f=>(H.nw x f).1) V) ?_;rintro _ W' ⟨vu,rfl,F,G,r⟩;have p:=H.below (N':=fun x=>N x\/vu.ownBlock=some x) r (fun x f=>f.imp id fun f=>⟨G x f,(F.lt x f).2⟩) fun x f=>.inl f;have z:=H.b2.lt;have y:CF M (fun x=>N x\/vu.ownBlock=some x) w0 W' h (aC ae ap l s al) 2 ve vu fH:={p with e:=fun _=>p.e (by decide),u:=fun _=>⟨F,fun x f=>by have:=G x f;omega⟩,s:=fun q=>absurd q (by decide)};refine⟨_,rfl,y.b1,?_⟩;exact ju (s2B _ _ _ _ y)
  ·have r:=gh W #[.slice none 0 0,.slice none 0 0,.slice none 0 0,.slice none 0 0,.slice none 0 0] 29;have hz:=eB W (.cells #[.slice none 0 0,.slice none 0 0,.slice none 0 0,.slice none 0 0,.slice none 0 0] 29);have p:=H.below (N':=fun x=>N x\/x=W.heap.size) r (fun x f=>f.imp id fun f=>by omega) fun x f=>.inl f;have z:=H.b2.lt;have C:AL (fun x=>N x\/x=W.heap.size) w0 (W.alloc (.cells #[.slice none 0 0,.slice none 0 0,.slice none 0 0,.slice none 0 0,.slice none 0 0] 29)) 1 fH W.heap.size:=⟨.inr rfl,xG W,by omega,fun q e=>absurd q (by decide)⟩;refine nW (o:=opAt (fI k π) 10) (d:=3) (w':=W.alloc (.cells #[.slice none 0 0,.slice none 0 0,.slice none 0 0,.slice none 0 0,.slice none 0 0] 29)) (eV (z:=.agg #[.slice none 0 0,.slice none 0 0,.slice none 0 0,.slice none 0 0,.slice none 0 0]) (by kernel_rfl) oM) p.b1 ?_;exact ju (O _ _ _ _ p C)
 have G:∀(N:Nat->Prop) (W:World) (g:Nat),CF M N w0 W h (aC ae ap l s al) 0 fH fH fH->AL N w0 W 0 fH g->AU 49 az (fI k π) Q (fun W=>aA W w0.heap.size 29 (aC ae ap l s al)) 11 5 (pH [0,1,3,4,6,7,10]) [(1,PH w0.heap.size),(2,PH (w0.heap.size+1)),(9,ae),(12,l),(15,s),(3,PH g)] W:=by
  intro N W  g H A;refine CH (show Region.ready .any (fI k π) (pH [0,1,3,4,6,7,10])=[2] by kernel_rfl) ?_
  ·refine xX (o:=opAt (fI k π) 2) (d:=10) (pL (cl:=zC (opAt (fI k π) 2)) (args:=#[ae]) (K.kE h.entries hl hf).1 (by kernel_rfl) (by kernel_rfl) rfl) (aG.calls (aG.fZ (K.kE h.entries hl hf)) (H.cF I) (vs:=[ae]) ⟨_,[],rfl,xy S H.bl fun x f=>(H.nw x f).1,rfl⟩) ?_;rintro _ W' ⟨ve,rfl,F,r⟩;have p:=H.below (N':=N) r (fun x f=>.inl f) fun x f=>f;have y:CF M N w0 W' h (aC ae ap l s al) 1 ve fH fH:={p with e:=fun _=>F,u:=fun q=>absurd q (by decide),s:=fun q=>absurd q (by decide)};have C:AL N w0 W' 1 fH g:={A.below (N':=N) r (fun x f=>f)with u:=fun q=>absurd q (by decide)};refine⟨_,rfl,y.b1,?_⟩;exact ju (O _ _ _ _ y C)
 have O:∀(N:Nat->Prop) (W:World),CF M N w0 W h (aC ae ap l s al) 0 fH fH fH->AU 49 az (fI k π) Q (fun W=>aA W w0.heap.size 29 (aC ae ap l s al)) 11 6 (pH [0,1,3,4,6,7]) [(1,PH w0.heap.size),(2,PH (w0.heap.size+1)),(9,ae),(12,l),(15,s)] W:=by
  intro N W  H;refine CI (show Region.ready .any (fI k π) (pH [0,1,3,4,6,7])=[2,10] by kernel_rfl) ?_ ?_
  ·refine xX (o:=opAt (fI k π) 2) (d:=10) (pL (cl:=zC (opAt (fI k π) 2)) (args:=#[ae]) (K.kE h.entries hl hf).1 (by kernel_rfl) (by kernel_rfl) rfl) (aG.calls (aG.fZ (K.kE h.entries hl hf)) (H.cF I) (vs:=[ae]) ⟨_,[],rfl,xy S H.bl fun x f=>(H.nw x f).1,rfl⟩) ?_;rintro _ W' ⟨ve,rfl,F,r⟩;have p:=H.below (N':=N) r (fun x f=>.inl f) fun x f=>f;have y:CF M N w0 W' h (aC ae ap l s al) 1 ve fH fH:={p with e:=fun _=>F,u:=fun q=>absurd q (by decide),s:=fun q=>absurd q (by decide)};refine⟨_,rfl,y.b1,?_⟩;exact ju (J _ _ _ y)
  ·have r:=gh W #[.slice none 0 0,.slice none 0 0,.slice none 0 0,.slice none 0 0,.slice none 0 0] 29;have hz:=eB W (.cells #[.slice none 0 0,.slice none 0 0,.slice none 0 0,.slice none 0 0,.slice none 0 0] 29);have p:=H.below (N':=fun x=>N x\/x=W.heap.size) r (fun x f=>f.imp id fun f=>by omega) fun x f=>.inl f;have z:=H.b2.lt;have C:AL (fun x=>N x\/x=W.heap.size) w0 (W.alloc (.cells #[.slice none 0 0,.slice none 0 0,.slice none 0 0,.slice none 0 0,.slice none 0 0] 29)) 0 fH W.heap.size:=⟨.inr rfl,xG W,by omega,fun q e=>absurd q (by decide)⟩;refine nW (o:=opAt (fI k π) 10) (d:=3) (w':=W.alloc (.cells #[.slice none 0 0,.slice none 0 0,.slice none 0 0,.slice none 0 0,.slice none 0 0] 29)) (eV (z:=.agg #[.slice none 0 0,.slice none 0 0,.slice none 0 0,.slice none 0 0,.slice none 0 0]) (by kernel_rfl) oM) p.b1 ?_;exact ju (G _ _  _ p C)
 refine iE (o:=opAt (fI k π) 0) (d:=8) 0 L (fun W J=>br (k:=0) (x:=.tmp 1) (ho:=(by kernel_rfl)) rY) H.b1 ?_;refine iE (o:=opAt (fI k π) 1) (d:=9) 1 L (fun W J=>bB (x:=.tmp 8) (ho:=(by kernel_rfl)) pj (v:=ae) ((J.cell 0).trans rfl)) H.b1 ?_;refine iE (o:=opAt (fI k π) 3) (d:=11) 3 L (fun W J=>br (k:=2) (x:=.tmp 1) (ho:=(by kernel_rfl)) qi) H.b1 ?_;refine iE (o:=opAt (fI k π) 4) (d:=12) 4 L (fun W J=>bB (x:=.tmp 11) (ho:=(by kernel_rfl)) fz (v:=l) ((J.cell 2).trans rfl)) H.b1 ?_;refine iE (o:=opAt (fI k π) 6) (d:=14) 6 L (fun W J=>br (k:=3) (x:=.tmp 1) (ho:=(by kernel_rfl)) Ds) H.b1 ?_;refine iE (o:=opAt (fI k π) 7) (d:=15) 7 L (fun W J=>bB (x:=.tmp 14) (ho:=(by kernel_rfl)) fz (v:=s) ((J.cell 3).trans rfl)) H.b1 ?_;exact ju (O _ _  H)
set_option maxHeartbeats 4000000 in
def at6{ρ:FuncId->FuncId}(K:Qv ρ){f:FuncId}{fn:Func}(hfn:az.funcs[f]? =some fn)(l:fn.body=some (ren ρ π bodyC))(hnt:fn.ntmps=Tryz.f20.ntmps)(hres:fn.results=Tryz.f20.results){M:Addr->Prop}{w:World}{h:Host}{v:Value}(hG:dZ w M)(hv:R w M (enc h) v)(hl:h.entries.length<=1048576)(hf:∀e∈h.entries,e.fit)(jN:h.up.length<1048576)(hsl:h.shut.length<1048576)(hpl:h.parts.length<1048576)(mV:∀p∈h.parts,p.core.cells.length<=4294967296/\p.ai.length<=4294967296)(hll:h.log.length<1048576)(hlr:∀e∈h.log,e.recipe.length<=1048576) :
  Calls az f #[v] w fun e w'=>∃N ve vp vu vs vl,e=.returned (.agg (aC ve vp vu vs vl))/\HX M N w' h ve vp vs vl/\OR M N w' 9 1 (h.up.map aB.cells) vu/\(∀x,vu.ownBlock=some x->¬KV vp vl x)/\(∀x,N x->w.heap.size<=x)/\Below w.heap.size w w':=by
 obtain⟨ae,ap,r,s,al,rfl,G,A,I,has,C⟩:=Gl hv;obtain⟨V,Q,z,_,Gm⟩:=mQ (mI (n:=6) (fun _=>rfl) h.parts) A;rw[dq]at z;subst z;obtain⟨X,U,z,_,H⟩:=mQ (mI (n:=7) (fun _=>rfl) h.log) C;rw[dq]at z;subst z;refine oz (E:=[(0,.agg (aC ae (.slice V h.parts.length Q) r s (.slice X h.log.length U)))]) hfn l hnt (by simp) (by simp) ?_;refine aO ?_;refine ah uJ ?_;refine ah (eV rfl oM) ?_;refine bq ?_;change CW _ az _ _ _ ((w.alloc (.cells (aC ae (.slice V h.parts.length Q) r s (.slice X h.log.length U)) 29)).alloc (.cells #[.slice none 0 0,.slice none 0 0,.slice none 0 0,.slice none 0 0,.slice none 0 0] 29));refine CW.sub (E':=[(1,.pointer (some ⟨w.heap.size,0,none⟩)),(2,.pointer (some ⟨w.heap.size+1,0,none⟩))]) ⟨rfl,by simp only[eB];rfl,trivial⟩ ?_;have q2:aA ((w.alloc (.cells (aC ae (.slice V h.parts.length Q) r s (.slice X h.log.length U)) 29)).alloc (.cells #[.slice none 0 0,.slice none 0 0,.slice none 0 0,.slice none 0 0,.slice none 0 0] 29)) w.heap.size 29 (aC ae (.slice V h.parts.length Q) r s (.slice X h.log.length U)):=(aA.new w _ _).alloc _;have q4:aA ((w.alloc (.cells (aC ae (.slice V h.parts.length Q) r s (.slice X h.log.length U)) 29)).alloc (.cells #[.slice none 0 0,.slice none 0 0,.slice none 0 0,.slice none 0 0,.slice none 0 0] 29)) (w.heap.size+1) 29 #[.slice none 0 0,.slice none 0 0,.slice none 0 0,.slice none 0 0,.slice none 0 0]:=by have:=xG (w.alloc (.cells (aC ae (.slice V h.parts.length Q) r s (.slice X h.log.length U)) 29));rw[eB]at this;exact this
 have A:Below w.heap.size w ((w.alloc (.cells (aC ae (.slice V h.parts.length Q) r s (.slice X h.log.length U)) 29)).alloc (.cells #[.slice none 0 0,.slice none 0 0,.slice none 0 0,.slice none 0 0,.slice none 0 0] 29)):=bt (gh _ _ _) (gh _ _ _);have C:((w.alloc (.cells (aC ae (.slice V h.parts.length Q) r s (.slice X h.log.length U)) 29)).alloc (.cells #[.slice none 0 0,.slice none 0 0,.slice none 0 0,.slice none 0 0,.slice none 0 0] 29)).heap.size=w.heap.size+2:=by simp only[eB]
 generalize (w.alloc (.cells (aC ae (.slice V h.parts.length Q) r s (.slice X h.log.length U)) 29)).alloc (.cells #[.slice none 0 0,.slice none 0 0,.slice none 0 0,.slice none 0 0,.slice none 0 0] 29)=z at q2 q4 A C ⊢;have Y:CF M (fun x=>x=w.heap.size\/x=w.heap.size+1) w z h (aC ae (.slice V h.parts.length Q) r s (.slice X h.log.length U)) 0 fH fH fH :=
  ⟨A,q2,q4,fun x z=>by rcases z with z|z<;>omega,.inl rfl,.inr rfl,fun hj=>absurd hj (by decide),fun hj=>absurd hj (by decide),fun hj=>absurd hj (by decide)⟩
 refine CW.seq (CW.any (fun W=>aA W w.heap.size 29 (aC ae (.slice V h.parts.length Q) r s (.slice X h.log.length U))) 11 mo fun wd hwd l=>⟨q2.below l q2.lt,?_⟩);refine aFh (π:=π) K (fun _ _ t _ _ h=>by cases t<;>exact h) hG G I has hl hf jN hsl (fun N2 J g ve vu vs F Z R2 O S=> ?_) _ wd (Y.below l (fun x z=>.inl z) fun x z=>z);clear Y q2 q4 A C l;refine aM ?_;have A:LS M N2 w J h (aC ae (.slice V h.parts.length Q) r s (.slice X h.log.length U)) ve vu vs g 0 0 fH fH:=⟨F,Z,O,S,by rw[QX];exact OR.nil,fun x z=>(by cases z),by rw[QX];exact OR.nil,fun x z=>(by cases z)⟩;have C:vu.oneCell'=true:=by obtain⟨a,c,rfl,_⟩:=(F.u (by decide)).1.len;rfl
 have C:ve.oneCell'=true:=mf (show R J _ (.sl (h.entries.map aB.cells)) ve from F.e (by decide));have C:vs.oneCell'=true:=mf (show R J _ (.sl (h.shut.map aB.cells)) vs from F.s (by decide));clear F Z;refine CW.seq (aO ?_);refine ah (br rZ) ?_;refine ah (bB qf (v:=(.slice V h.parts.length Q)) ((A.cf.b1.cell 1).trans rfl)) ?_;refine ah (Aa rfl rfl rfl rfl qf rfl) ?_;refine ah aI ?_;refine bq ?_;refine bA (E':=[(1,.pointer (some ⟨w.heap.size,0,none⟩)),(2,.pointer (some ⟨w.heap.size+1,0,none⟩)),(3,.pointer (some ⟨g,0,none⟩)),(19,(.slice V h.parts.length Q)),(20,.int .i64 (h.parts.length:Int)),(21,.int .i64 ((0:Nat):Int))]) ?_;refine CW.block (CW.loop (fun m C wr=>∃(k:Nat) (N:Nat->Prop) (vp:Value),m+k=h.parts.length/\C=[(1,.pointer (some ⟨w.heap.size,0,none⟩)),(2,.pointer (some ⟨w.heap.size+1,0,none⟩)),(3,.pointer (some ⟨g,0,none⟩)),(19,(.slice V h.parts.length Q)),(20,.int .i64 (h.parts.length:Int)),(21,.int .i64 (k:Int))] /\
  LS M N w wr h (aC ae (.slice V h.parts.length Q) r s (.slice X h.log.length U)) ve vu vs g k 0 vp fH/\aA wr g 29 (aC ve vp vu vs fH)) h.parts.length ⟨0,_,fH,rfl,rfl,A,R2⟩ ?_)
 clear A R2;rintro m C wr ⟨k,N,vp,F,rfl,L,q⟩;have J1:¬N wr.heap.size:=fun h=>by have:=(L.cf.nw _ h).2;omega
 refine aO ?_;rcases ue m with A|A
 ·subst A;obtain rfl:k=h.parts.length:=by omega
  refine ah (iB (b:=false) (hb:=by simp[bg])) ?_;refine WL.nil (aM (CW.seq (CW.no (CW.exit (rM (rM (CO (aM ?_))))))));have G:=q;refine CW.seq (aO ?_);refine ah (br tk) ?_;refine ah (bB vz (v:=(.slice X h.log.length U)) ((L.cf.b1.cell 4).trans rfl)) ?_;refine ah (Aa rfl rfl rfl rfl vz rfl) ?_;refine ah aI ?_;refine bq ?_;refine bA (E':=[(1,.pointer (some ⟨w.heap.size,0,none⟩)),(2,.pointer (some ⟨w.heap.size+1,0,none⟩)),(3,.pointer (some ⟨g,0,none⟩)),(34,(.slice X h.log.length U)),(35,.int .i64 (h.log.length:Int)),(36,.int .i64 ((0:Nat):Int))]) ?_;refine CW.block (CW.loop (fun m C wr=>∃(k:Nat) (N:Nat->Prop) (vl:Value),m+k=h.log.length/\C=[(1,.pointer (some ⟨w.heap.size,0,none⟩)),(2,.pointer (some ⟨w.heap.size+1,0,none⟩)),(3,.pointer (some ⟨g,0,none⟩)),(34,(.slice X h.log.length U)),(35,.int .i64 (h.log.length:Int)),(36,.int .i64 (k:Int))] /\
   LS M N w wr h (aC ae (.slice V h.parts.length Q) r s (.slice X h.log.length U)) ve vu vs g h.parts.length k vp vl/\aA wr g 29 (aC ve vp vu vs vl)) h.log.length ⟨0,_,fH,rfl,rfl,L,q⟩ ?_)
  clear L q;rintro m C wr ⟨k,N,vl,F,rfl,L,q⟩;have J1:¬N wr.heap.size:=fun h=>by have:=(L.cf.nw _ h).2;omega
  refine aO ?_;rcases ue m with A|A
  ·subst A;obtain rfl:k=h.log.length:=by omega
   refine ah (iB (b:=false) (hb:=by simp[bg])) ?_;refine WL.nil (aM (CW.seq (CW.no (CW.exit (rM (rM (CO (aM ?_))))))));have J:h.parts.take h.parts.length=h.parts:=wU;have O:h.log.take h.log.length=h.log:=wU;have op:vp.oneCell'=true:=by obtain⟨a,c,rfl,_⟩:=L.p.len;rfl
   have ol:vl.oneCell'=true:=by obtain⟨a,c,rfl,_⟩:=L.l.len;rfl
   have r:=L.lo;refine aO ?_;refine ah (bG cX q bI) ?_;refine bW rfl (cs:=aC ve vp vu vs vl) rfl L.cf.b2 (by intro u C;simp[aC]at C;rcases C with rfl|rfl|rfl|rfl|rfl<;>assumption) bI fun w9 V r=> ?_;have S:=L.cf.nw;have s:=L.cf.n2;have I:=(L.cf.u (by decide)).1;have X:=(L.cf.u (by decide)).2;have G:=r.size;have A:=L.cf.bl;have F:=L.cf.b2.lt;refine WL.nil (aM (CW.ret (LL hres rfl V cX rfl bI ⟨N,ve,vp,vu,vs,vl,rfl,⟨⟨?_,?_⟩,fun y F=> ?_,fun y F=>by rw[G];exact(S y F).2,iO (L.cf.e (by decide)) r s,?_,iO (L.cf.s (by decide)) r s,?_,fun y F e=>(L.la y e).2.2.2 F,fun y F=> ?_,fun y F=> ?_⟩,I.one r s fun e=>by have:=X _ e;omega,fun y F hk=>hk.elim (fun e=>(L.pa y e).2.2 F) fun e=>(L.la y e).2.2.1 F,fun y F=>(S y F).1,?_⟩)))
   ·exact((L.cf.cF hG).2.1).keep fun i S=>r.block i (by have:=hG.2.2;omega)
   ·rw[G];exact(L.cf.cF hG).2.2
   ·rw[G];have:=hG.1 y F;omega
   ·have I:=L.p;rw[J]at I;exact I.one r s fun e=>by have:=(L.pa _ e).1;omega
   ·have I:=L.l;rw[O]at I;exact I.one r s fun e=>by have:=(L.la _ e).1;omega
   ·have:=(L.pa y F).1;have:=hG.2.2;omega
   ·have:=(L.la y F).1;have:=hG.2.2;omega
   ·exact⟨r.os.trans A.os,r.tape.trans A.tape,r.output.trans A.output,by omega,fun i S=>(r.block i (by omega)).trans (A.block i S)⟩
  obtain⟨m',rfl⟩:∃m',m=m'+1:=⟨m-1,by omega⟩;have hk:k<h.log.length:=by omega
  refine ah (iB (b:=true) (hb:=by simp[bg];omega)) ?_;refine WL.nil (aM (CW.seq (eG (CW.skip (aM ?_)))));obtain⟨pb,po,Y,rfl,jO,lW,s⟩:=H k _ (get_map h.log hk);obtain⟨x,z⟩:∃x,nth h.log k=x:=⟨_,rfl⟩;have V:x∈h.log:=by rw[<-z];exact gF hk
  rw[z]at lW;have nO:R w M (enc x) (.agg Y.toArray):=⟨_,rfl,lW⟩;have zN:∀(j:Nat) (u:Value),Y[j]? =some u->wr.cell? ((⟨pb,po+k*7,none⟩:Addr).add j)=some u:=fun j u C=>by rw[tY];have hc:=s j u C;rw[L.cf.bl.cell (gf hc)];exact hc
  refine CW.seq (CW.block ?_);refine aO ?_;refine ah (oO hk azf) ?_;refine ah (Ab (cs:=Y) rfl rfl YS rfl (by rw[jO];exact UE) zN) ?_;refine ah (eV rfl aCd) ?_;obtain⟨S1,hsv,h1,_⟩:=aaa nO;have H:Y.toArray=#[.int .i64 x.kind,.string x.name,.string x.call.method,.string x.call.key,.int .i64 x.call.val,.string x.call.text,S1]:=by simpa using hsv
  refine bW rfl (cs:=Y.toArray) rfl (aA.new wr _ _) (hC:=(by rw[H];rfl)) (by rw[H];intro u C;simp at C;rcases C with rfl|rfl|rfl|rfl|rfl|rfl|rfl<;>first|rfl|exact mf (show R w _ (.sl _) _ from(by assumption))) (by rw[H];exact UE) fun w5 q5 oN=> ?_;have X:=Mt oN;have L5:=L.below X;have q6:=q.below X q.lt;refine bq ?_;refine bA (E':=[(1,.pointer (some ⟨w.heap.size,0,none⟩)),(2,.pointer (some ⟨w.heap.size+1,0,none⟩)),(3,.pointer (some ⟨g,0,none⟩)),(34,(.slice (some ⟨pb,po,none⟩) h.log.length U)),(35,.int .i64 (h.log.length:Int)),(36,.int .i64 (k:Int)),(7,.pointer (some ⟨wr.heap.size,0,none⟩))]) ?_;clear L q X oN;refine CW.any (fun W=>aA W g 29 (aC ve vp vu vs vl)/\aA W wr.heap.size 33 Y.toArray) 7 mo fun w6 hwd l=>⟨⟨q6.below l q6.lt,q5.below l q5.lt⟩,?_⟩;have L6:=L5.below l;have q7:=q6.below l q6.lt;have q8:=q5.below l q5.lt;clear L5 q6 q5 l;refine aX 0 rfl (fun W hW=>br tk) ⟨q7,q8⟩ ?_;refine aX 1 rfl (fun W hW=>bB vz (v:=vl) ((hW.1.cell 4).trans rfl)) ⟨q7,q8⟩ ?_;refine aX 2 rfl (fun W hW=>bG YS hW.2 (by rw[H];exact UE)) ⟨q7,q8⟩ ?_;refine AU.c 3 (args:=#[.agg Y.toArray]) rfl (by kernel_rfl) rfl rfl (pL (K.kV x (hlr x V)).1 rfl rfl rfl) (by decide) (aG.calls (aG.fZ (K.kV x (hlr x V))) (L6.cf.cF hG) (vs:=[.agg Y.toArray]) ⟨_,[],rfl,xy nO L6.cf.bl fun y F=>(L6.cf.nw y F).1,rfl⟩) ?_;rintro _ w7 ⟨cv,rfl,hcv,I⟩;obtain⟨S,rfl,h1',_⟩:=aaa hcv;have L7:=L6.below I;have r7:=q7.below I q7.lt;have r8:=q8.below I q8.lt;clear L6 q7 q8 I;refine⟨_,rfl,fun _=>⟨r7,r8⟩,?_⟩;obtain⟨ti,aK,hz,G,hby⟩:=vD (P:=az) (e:=33) (z:=.agg #[.int .i64 0,.string ⟨#[]⟩,.string ⟨#[]⟩,.string ⟨#[]⟩,.int .i64 0,.string ⟨#[]⟩,.slice none 0 0]) (size:=7) (bytes:=104) (by kernel_rfl);have A:=gh w7 #[.int .i64 x.kind,.string x.name,.string x.call.method,.string x.call.key,.int .i64 x.call.val,.string x.call.text,S] 33;refine gI 4 rfl (ama rfl rfl vz aK G hz) (fun _=>⟨r7.below A r7.lt,r8.below A r8.lt⟩) ?_;have Z:∀(j:Nat) (u:Value),([.int .i64 x.kind,.string x.name,.string x.call.method,.string x.call.key,.int .i64 x.call.val,.string x.call.text,S])[j]? =some u->(w7.alloc (.cells #[.int .i64 x.kind,.string x.name,.string x.call.method,.string x.call.key,.int .i64 x.call.val,.string x.call.text,S] 33)).cell? ((⟨w7.heap.size,0,none⟩:Addr).add j)=some u:=fun j u C=>FI (w:=w7) (xs:=[.int .i64 x.kind,.string x.name,.string x.call.method,.string x.call.key,.int .i64 x.call.val,.string x.call.text,S]) (T:=33) j u C
  generalize w7.alloc (.cells #[.int .i64 x.kind,.string x.name,.string x.call.method,.string x.call.key,.int .i64 x.call.val,.string x.call.text,S] 33)=w8 at A Z ⊢;have L8:=L7.below A;have s7:=r7.below A r7.lt;have s8:=r8.below A r8.lt;have aaO:=R.keep (BM.below (N':=N) A fun x z=>.inl z) _ _ hcv;obtain⟨ccs,FN,U⟩:=aaO;have U:Rs w8 (BM M N) (aB.cells x) ([.int .i64 x.kind,.string x.name,.string x.call.method,.string x.call.key,.int .i64 x.call.val,.string x.call.text,S]):=by cases FN;exact U
  have Bv:((h.log.take k).map (aB.cells (α:=Event))).length=k:=by rw[dq,mO];omega
  obtain⟨J,w9,F8,O,Gg,abq⟩:=or_append (P:=az) (ty:=27) (c:=1) (a:=⟨w7.heap.size,0,none⟩) vz aK hz G hby rfl (by decide) L8.l (fun y F=>(L8.cf.nw y F).2) (r:=aB.cells x) (us:=[.int .i64 x.kind,.string x.name,.string x.call.method,.string x.call.key,.int .i64 x.call.val,.string x.call.text,S]) rfl rfl (fun j d hj=>U.get hj) Z (by intro u C;simp at C;rcases C with rfl|rfl|rfl|rfl|rfl|rfl|rfl<;>first|rfl|exact mf (show R w8 _ (.sl _) _ from R.keep (BM.below (N':=N) A fun x z=>.inl z) _ _ (by assumption))) (by rw[Bv];omega) (by decide);have O:OR M (fun y=>N y\/J.ownBlock=some y) w9 33 7 ((h.log.take (k+1)).map aB.cells) J:=by rw[VK hk,z,AR];exact O
  have mc:J.oneCell'=true:=by obtain⟨a,c,rfl,_⟩:=O.len;rfl
  have L9:=L8.aam Gg O abq;have aa5:some g≠vl.ownBlock:=fun e=>(L8.la g e.symm).2.1 rfl;have s9:=s7.grown Gg aa5;have abJ:some wr.heap.size≠vl.ownBlock:=fun e=>by have h1:=(L8.l.lt _ e.symm).1;exact J1 h1
  have s10:=s8.grown Gg abJ;refine gI 5 rfl (rn rfl rfl rfl F8) (fun _=>⟨s9,s10⟩) ?_;refine gI 6 rfl (br tk) (fun _=>⟨s9,s10⟩) ?_;refine Ax 7 rfl (by kernel_rfl) rfl rfl (pM rfl rfl rfl (by kernel_rfl) mc ((s9.cell 4).trans rfl) (s9.frozen 4)) (fun h=>absurd rfl h) ?_;refine ij (by kernel_rfl) ?_;have z9:aA (w9.setCell ⟨g,0+4,none⟩ J) g 29 (aC ve vp vu vs J):=s9.xK 4 J;have r:bU w9 (w9.setCell ⟨g,0+4,none⟩ J) g:=(bU.refl w9 g).set (0+4) J;have X6:=L9.one r;refine sU (aM (CW.region ?_));refine ah (iA (r:=((k+1:Nat):Int)) (hb:=by rw[bF];omega)) ?_;refine ah aI ?_;exact WL.nil (NX.ag m' ⟨k+1,_,J,by omega,rfl,X6,z9⟩)
 obtain⟨m',rfl⟩:∃m',m=m'+1:=⟨m-1,by omega⟩;have hk:k<h.parts.length:=by omega
 refine ah (iB (b:=true) (hb:=by simp[bg];omega)) ?_;refine WL.nil (aM (CW.seq (eG (CW.skip (aM ?_)))));obtain⟨pb,po,Y,rfl,jO,lW,s⟩:=Gm k _ (get_map h.parts hk);obtain⟨x,z⟩:∃x,nth h.parts k=x:=⟨_,rfl⟩;have V:x∈h.parts:=by rw[<-z];exact gF hk
 rw[z]at lW;have nO:R w M (enc x) (.agg Y.toArray):=⟨_,rfl,lW⟩;have zN:∀(j:Nat) (u:Value),Y[j]? =some u->wr.cell? ((⟨pb,po+k*6,none⟩:Addr).add j)=some u:=fun j u C=>by rw[tY];have hc:=s j u C;rw[L.cf.bl.cell (gf hc)];exact hc
 refine CW.seq (CW.block ?_);refine aO ?_;refine ah (oO hk FR) ?_;refine ah (Ab (cs:=Y) rfl rfl dF rfl (by rw[jO];exact l8) zN) ?_;refine ah (eV rfl Gz) ?_;obtain⟨S1,s,hsv,h1,h2,_⟩:=DW nO;have H:Y.toArray=#[.string x.core.kind,.bool x.core.on,.bool x.core.broken,S1,.int .i64 x.core.count,s]:=by simpa using hsv
 refine bW rfl (cs:=Y.toArray) rfl (aA.new wr _ _) (hC:=(by rw[H];rfl)) (by rw[H];intro u C;simp at C;rcases C with rfl|rfl|rfl|rfl|rfl|rfl<;>first|rfl|exact mf (show R w _ (.sl _) _ from(by assumption))) (by rw[H];exact l8) fun w5 q5 oN=> ?_;have X:=Mt oN;have L5:=L.below X;have q6:=q.below X q.lt;refine bq ?_;refine bA (E':=[(1,.pointer (some ⟨w.heap.size,0,none⟩)),(2,.pointer (some ⟨w.heap.size+1,0,none⟩)),(3,.pointer (some ⟨g,0,none⟩)),(19,(.slice (some ⟨pb,po,none⟩) h.parts.length Q)),(20,.int .i64 (h.parts.length:Int)),(21,.int .i64 (k:Int)),(5,.pointer (some ⟨wr.heap.size,0,none⟩))]) ?_;clear L q X oN;refine CW.any (fun W=>aA W g 29 (aC ve vp vu vs fH)/\aA W wr.heap.size 51 Y.toArray) 7 mo fun w6 hwd l=>⟨⟨q6.below l q6.lt,q5.below l q5.lt⟩,?_⟩;have L6:=L5.below l;have q7:=q6.below l q6.lt;have q8:=q5.below l q5.lt;clear L5 q6 q5 l;refine aX 0 rfl (fun W hW=>br rZ) ⟨q7,q8⟩ ?_;refine aX 1 rfl (fun W hW=>bB qf (v:=vp) ((hW.1.cell 1).trans rfl)) ⟨q7,q8⟩ ?_;refine aX 2 rfl (fun W hW=>bG dF hW.2 (by rw[H];exact l8)) ⟨q7,q8⟩ ?_;refine AU.c 3 (args:=#[.agg Y.toArray]) rfl (by kernel_rfl) rfl rfl (pL (K.kP x (mV x V).1 (mV x V).2).1 rfl rfl rfl) (by decide) (aG.calls (aG.fZ (K.kP x (mV x V).1 (mV x V).2)) (L6.cf.cF hG) (vs:=[.agg Y.toArray]) ⟨_,[],rfl,xy nO L6.cf.bl fun y F=>(L6.cf.nw y F).1,rfl⟩) ?_;rintro _ w7 ⟨cv,rfl,hcv,I⟩;obtain⟨S,s,rfl,h1',H,_⟩:=DW hcv;have L7:=L6.below I;have r7:=q7.below I q7.lt;have r8:=q8.below I q8.lt;clear L6 q7 q8 I;refine⟨_,rfl,fun _=>⟨r7,r8⟩,?_⟩;obtain⟨ti,aK,hz,G,hby⟩:=vD (P:=az) (e:=51) (z:=.agg #[.string ⟨#[]⟩,.bool false,.bool false,.slice none 0 0,.int .i64 0,.slice none 0 0]) (size:=6) (bytes:=80) (by kernel_rfl);have A:=gh w7 #[.string x.core.kind,.bool x.core.on,.bool x.core.broken,S,.int .i64 x.core.count,s] 51;refine gI 4 rfl (aE2 rfl rfl qf aK G hz) (fun _=>⟨r7.below A r7.lt,r8.below A r8.lt⟩) ?_;have Z:∀(j:Nat) (u:Value),([.string x.core.kind,.bool x.core.on,.bool x.core.broken,S,.int .i64 x.core.count,s])[j]? =some u->(w7.alloc (.cells #[.string x.core.kind,.bool x.core.on,.bool x.core.broken,S,.int .i64 x.core.count,s] 51)).cell? ((⟨w7.heap.size,0,none⟩:Addr).add j)=some u:=fun j u C=>FI (w:=w7) (xs:=[.string x.core.kind,.bool x.core.on,.bool x.core.broken,S,.int .i64 x.core.count,s]) (T:=51) j u C
 generalize w7.alloc (.cells #[.string x.core.kind,.bool x.core.on,.bool x.core.broken,S,.int .i64 x.core.count,s] 51)=w8 at A Z ⊢;have L8:=L7.below A;have s7:=r7.below A r7.lt;have s8:=r8.below A r8.lt;have aaO:=R.keep (BM.below (N':=N) A fun x z=>.inl z) _ _ hcv;obtain⟨ccs,FN,U⟩:=aaO;have U:Rs w8 (BM M N) (aB.cells x) ([.string x.core.kind,.bool x.core.on,.bool x.core.broken,S,.int .i64 x.core.count,s]):=by cases FN;exact U
 have Bv:((h.parts.take k).map (aB.cells (α:=Part))).length=k:=by rw[dq,mO];omega
 obtain⟨J,w9,F8,O,Gg,abq⟩:=or_append (P:=az) (ty:=25) (c:=1) (a:=⟨w7.heap.size,0,none⟩) qf aK hz G hby rfl (by decide) L8.p (fun y F=>(L8.cf.nw y F).2) (r:=aB.cells x) (us:=[.string x.core.kind,.bool x.core.on,.bool x.core.broken,S,.int .i64 x.core.count,s]) rfl rfl (fun j d hj=>U.get hj) Z (by intro u C;simp at C;rcases C with rfl|rfl|rfl|rfl|rfl|rfl<;>first|rfl|exact mf (show R w8 _ (.sl _) _ from R.keep (BM.below (N':=N) A fun x z=>.inl z) _ _ (by assumption))) (by rw[Bv];omega) (by decide);have O:OR M (fun y=>N y\/J.ownBlock=some y) w9 51 6 ((h.parts.take (k+1)).map aB.cells) J:=by rw[VK hk,z,AR];exact O
 have mc:J.oneCell'=true:=by obtain⟨a,c,rfl,_⟩:=O.len;rfl
 have L9:=L8.azI Gg O abq;have aa5:some g≠vp.ownBlock:=fun e=>(L8.pa g e.symm).2.1 rfl;have s9:=s7.grown Gg aa5;have abJ:some wr.heap.size≠vp.ownBlock:=fun e=>by have h1:=(L8.p.lt _ e.symm).1;exact J1 h1
 have s10:=s8.grown Gg abJ;refine gI 5 rfl (rn rfl rfl rfl F8) (fun _=>⟨s9,s10⟩) ?_;refine gI 6 rfl (br rZ) (fun _=>⟨s9,s10⟩) ?_;refine Ax 7 rfl (by kernel_rfl) rfl rfl (pM rfl rfl rfl (by kernel_rfl) mc ((s9.cell 1).trans rfl) (s9.frozen 1)) (fun h=>absurd rfl h) ?_;refine ij (by kernel_rfl) ?_;have z9:aA (w9.setCell ⟨g,0+1,none⟩ J) g 29 (aC ve J vu vs fH):=s9.xK 1 J;have r:bU w9 (w9.setCell ⟨g,0+1,none⟩ J) g:=(bU.refl w9 g).set (0+1) J;have X6:=L9.one r;refine sU (aM (CW.region ?_));refine ah (iA (r:=((k+1:Nat):Int)) (hb:=by rw[bF];omega)) ?_;refine ah aI ?_;exact WL.nil (NX.ag m' ⟨k+1,_,J,by omega,rfl,X6,z9⟩)
def cpC:Qv id:=⟨by kernel_rfl,aKn,ag8,axS,Zs⟩
def aKq(G:dZ w M)(f:R w M (enc h) v)(i:h.entries.length<=1048576)(k:∀e∈h.entries,e.fit)(u:h.up.length<1048576)(s:h.shut.length<1048576)(l:h.parts.length<1048576)(c:∀p∈h.parts,p.core.cells.length<=4294967296/\p.ai.length<=4294967296)(a:h.log.length<1048576)(r:∀e∈h.log,e.recipe.length<=1048576) :
  Calls az 20 #[v] w fun e w'=>∃N ve vp vu vs vl,e=.returned (.agg (aC ve vp vu vs vl))/\HX M N w' h ve vp vs vl/\OR M N w' 9 1 (h.up.map aB.cells) vu/\(∀x,vu.ownBlock=some x->¬KV vp vl x)/\(∀x,N x->w.heap.size<=x)/\Below w.heap.size w w':=at6 cpC Tryz.func20 aFo rfl rfl G f i k u s l c a r
structure ny(h:Host):Prop where
 el:h.entries.length<=1048576
 ef:∀e∈h.entries,e.fit
 ul:h.up.length<=1000000
 sl:h.shut.length<1048576
 pl:h.parts.length<1048576
 pc:∀p∈h.parts,p.core.cells.length<=4294967296/\p.ai.length<=1048576
 ll:h.log.length<1048576
 lr:∀e∈h.log,e.recipe.length<=1048576
def ny.isH(H:ny h):∀i,i<h.parts.length->(nth h.parts i).ai.length<=1048576:=fun i a=>(H.pc _ (gF a)).2
def MI(h:Host)(s:ByteArray)(c:ny h):aG az 21 none [enc h,.str s] (.bool (gV h s)) []:=by
 refine bZ aqv aJG ⟨pT h,trivial,trivial⟩ fun f=> ?_;unfold aqv;have u:h.up.length<=4294967296:=dV c.ul (by decide);refine aH (axr h c.el c.isH u) ?_;refine wZ (r:=.int .i64 (cN h.entries s)) (xs:=[ak h.entries,.str s]) ?_ (fun i=>qM h.entries s) rfl ?_
 ·simp only[eS,bo]
 refine ay ?_;simp only[eS,bo];unfold gV;rcases LY (cN h.entries s) 0 with a|a
 ·simp[a,Int.not_le.2 a]
 ·simp[Int.not_lt.2 a,a,ak];congr 1;simp only[YZ];omega
def DR(p:Part):Prop:=p.core.cells.length<=4/\p.ai.length<=3
def B6{p:Part}(h:dw p=true):DR p:=by obtain⟨a,c,_⟩:=pK.1 h;exact⟨ym (rU.1 a).2.1,c⟩
def Vz{p:Part}(h:dw p=true)(m:ByteArray):dw (mZ p m)=true:=by
 unfold mZ;split
 ·exact(MK h _).1
 ·exact h
def tA(H:uS h):∀p∈h.parts,dw p=true:=fun p f=>by obtain⟨i,a,rfl⟩:=L0.1 f;have:=H.nk i (by rw[<-H.len];exact a);unfold partAt at this;simp only[aY]at this;have c:=this.1;rw[nth,List.getD,bX a]at c;exact c
def JA{h:Host}(f:∀p∈h.parts,dw p=true)(k:∀x∈h.up,cD h x<h.parts.length)(d:List ByteArray):∀j,j<=h.up.length->∀p∈(dc h d j).1,dw p=true
 |0,_=>f
 |j+1,i=>by
  have ih:=JA f k d j (by omega);have l:=(Dp h d j).1;unfold dc;simp only;split
  ·intro p a;rcases sY a with c|c
   ·exact ih p c
   ·rw[c];refine Vz (ih _ (gF ?_)) _;rw[l];exact k _ (gF (by omega))
  ·exact ih
def KG(H:uS h):∀x∈h.up,0<=cN h.entries x/\cD h x<h.parts.length:=fun x l=>by
 obtain⟨j,c,rfl⟩:=L0.1 l;have u:=H.ze;unfold sL at u;have a:=kC.1 u j c;have p:nth h.up j=h.up[j]:=by rw[nth,List.getD,bX c];rfl
 unfold sJ at a;rw[p]at a;split at a
 ·cases a
 ·rename_i k q;have f:cN h.entries h.up[j]=(k:Int):=by unfold cN;rw[q]
  obtain⟨i,r,s,_⟩:=vK (l:=h.entries) (s:=h.up[j]) (by rw[f];omega);refine⟨by rw[f];omega,?_⟩;unfold cD;rw[r,H.len];simpa using s
section
variable {M:Addr->Prop}{B N N':Nat->Prop}{w w':World}{h:Host}{ve vp vu vs vl cZ:Value}{T m:Nat}{rows:List (List D)}{v:Value}{d:D}{e:Event}
def Y8(h:R w (BM (BM M B) N) d v):R w (BM M fun x=>N x\/B x) d v:=R.less h fun q a=>by
 rcases a with a|a|a
 ·exact .inl (.inl a)
 ·exact .inr a
 ·exact .inl (.inr a)
def OR.shift(h:OR (BM M B) N w T m rows v):OR M (fun x=>N x\/B x) w T m rows v:=by obtain⟨a,s,c,f,k⟩:=h;refine⟨a,s,c,fun x l=>.inl (f x l),fun i j r d p q=> ?_⟩;obtain⟨u,q1,q2,q3⟩:=k i j r d p q;exact⟨u,q1,q2,Y8 q3⟩
def HX.shift(H:HX (BM M B) N w h ve vp vs vl)(a:∀x,B x->x<w.heap.size):HX M (fun x=>N x\/B x) w h ve vp vs vl :=
 ⟨H.gi,fun q c=>H.mb q (.inl c),fun x f=>f.elim (H.nb x) (a x),Y8 H.e,H.p.shift,Y8 H.s,H.l.shift,H.pl,H.gp,H.gl⟩
def Mu(h:R w (BM M N) d v):R w M d v:=R.less h fun q a=>.inl a
def HX.done(H:HX M N w h ve vp vs vl)(u:R w M (ak h.up) vu)(c:∀x,KV vp vl x->∀o,¬M ⟨x,o,none⟩):R w M (enc h) (.agg (aC ve vp vu vs vl)):=by
 refine⟨_,rfl,_,_,rfl,Mu H.e,_,_,rfl,?_,_,_,rfl,u,_,_,rfl,Mu H.s,_,_,rfl,?_,rfl⟩
 ·exact Mu (H.p.GY (N':=fun _=>False) (fun _ h=>h.elim) fun x a=>⟨id,c x (.inl a)⟩)
 ·exact Mu (H.l.GY (N':=fun _=>False) (fun _ h=>h.elim) fun x a=>⟨id,c x (.inr a)⟩)
def HX.aam(H:HX M N w h ve vp vs vl)(hg:w.grownBy w' vl.ownBlock)(O:OR M (fun x=>N x\/cZ.ownBlock=some x) w' 33 7 ((h.log++[e]).map aB.cells) cZ)(f:cZ.ownBlock=vl.ownBlock\/cZ.ownBlock=some w.heap.size) :
  HX M (fun x=>N x\/cZ.ownBlock=some x) w' (qo h e) ve vp vs cZ:=by
 have s:∀x,(N x\/cZ.ownBlock=some x)->N x\/w.heap.size<=x:=fun x a=>a.elim .inl fun e=>by
  rcases f with c|c
  ·exact .inl (H.l.lt x (c▸e)).1
  ·rw[c]at e;have:=jy e;exact .inr (by omega)
 have kp:bR w (BM M N) w' (BM M fun x=>N x\/cZ.ownBlock=some x):=fun p u i l=>by have r:=gf i;have t:w'.heap[p.block]? =w.heap[p.block]? :=hg.block p.block r fun e=>l (.inr (H.l.lt _ e.symm).1);exact⟨by unfold World.cell? at i ⊢;rw[t];exact i,fun h=>h.elim (fun h=>l (.inl h)) fun h=>(s _ h).elim (fun h=>l (.inr h)) fun h=>by omega⟩
 exact⟨⟨H.gi.1.keep fun k y=>hg.block k (ek y H.gi.2) fun e=>by have:=H.gl _ e.symm;omega,dV H.gi.2 hg.size⟩,fun q z=>ek (H.mb q z) hg.size,
  fun x a=>a.elim (fun a=>ek (H.nb x a) hg.size) fun a=>(O.lt x a).2,R.keep kp _ _ H.e,
  H.p.keep (fun x a=>hg.block x (H.p.lt x a).2 fun e=>H.pl x a e.symm) kp fun x a=>.inl (H.p.lt x a).1,R.keep kp _ _ H.s,O,
  fun x a e=>by
   rcases f with c|c
   ·exact H.pl x a (c▸e)
   ·rw[c]at e;have:=jy e;have:=(H.p.lt x a).2;omega,
  H.gp,fun x a=>by
   rcases f with c|c
   ·exact H.gl x (c▸a)
   ·rw[c]at a;have:=jy a;have:=H.gi.2;omega⟩
end
def Tj{k:Int}{s:ByteArray}(c:IntKind.i64.min<=k/\k<=IntKind.i64.max)(f:s.size<=maxLen):Rs w M (aB.cells (jj k s)) [.int .i64 k,.string s,.string ⟨#[]⟩,.string ⟨#[]⟩,.int .i64 0,.string ⟨#[]⟩,aN]:=by
 have a:(⟨#[]⟩:ByteArray).size<=maxLen:=by decide
 have i:IntKind.i64.min<=(0:Int)/\(0:Int)<=IntKind.i64.max:=by decide
 exact⟨_,_,rfl,⟨rfl,c⟩,_,_,rfl,⟨rfl,f⟩,_,_,rfl,⟨rfl,a⟩,_,_,rfl,⟨rfl,a⟩,_,_,rfl,⟨rfl,i⟩,_,_,rfl,⟨rfl,a⟩,_,_,rfl,⟨none,0,0,rfl,rfl,bK _,fO _,fun _=>rfl,fun b o s h=>by cases h⟩,rfl⟩
def R7(k:Int)(s:ByteArray):um az 33 [(0,.int .i64 k),(1,.string s)]=some #[.int .i64 k,.string s,.string ⟨#[]⟩,.string ⟨#[]⟩,.int .i64 0,.string ⟨#[]⟩,aN]:=by kernel_rfl
def aFu{fn:Func}{p u:Tmp}{ty:TypeId}(h:fn.results=#[.cell p ty,.tmp u])(tmps:Array Value)(w:World){g:Nat}{t:TypeId}{cs:Array Value}(d:TypeDesc)
  (c:tmps.getD p undef=PH g) (hg:aA w g t cs) (f:P.underlying ty=some d) (hd:(match d with|.struct _|.array _ _=>true|_=>false)=true) (i:(P.info? ty).map (·.size)=some cs.size) :
  (results fn tmps).run P w=.ok (.tuple #[.agg cs,tmps.getD u undef]) w:=by
 have a:tmps[p]?.getD undef=PH g:=by simpa using c
 simp[results,h,a,asAddr,IZ w g t ty cs (0,0) d hg f hd i,mw,Result.andThen]
def rL{n:Nat}{E:List (Nat×Value)}{fn:Func}{R:Ending->World->Prop}{p u:Tmp}{ty:TypeId}{g:Nat}{cs:Array Value}{d:TypeDesc}(h:fn.results=#[.cell p ty,.tmp u])(f:lk E p=some (PH g))(i:lk E u=some v)
  (hg:aA w g t cs) (k:P.underlying ty=some d) (hd:(match d with|.struct _|.array _ _=>true|_=>false)=true) (l:(P.info? ty).map (·.size)=some cs.size) (q:R (.returned (.tuple #[.agg cs,v])) w):NX n (bodyPost P fn R .ret) E w :=
 fun a c=>⟨c.df,_,aFu h a.tmps w d (c.at' p _ f) hg k hd l,by rw[c.at' u _ i];exact q⟩
end
end Go.Proofs.YtoomhbopolalnaaGreatDoor
