/- Walk: a host is copied (the reference's l7Copy); its parts, its names, its log lie in rows of their own then. -/
import Derived.Test.YtekplmpbkgchfaaGreatDoorE20
import Derived.Test.YtekplmpbkgchfaaGreatDoorE14
set_option linter.all false
set_option maxRecDepth 100000
namespace Go.Proofs.YtekplmpbkgchfaaGreatDoor
section
open Go.RowKit Go
variable [GC]
def av2(e:Event)(he:e.recipe.length<=1048576):eA ay 100 none [enc e] (enc e) [] [(6,1)]:=by refine iT aoH aHw ⟨zA e,trivial⟩ fun hfit=> ?_;unfold aoH;refine fQ (LC e.recipe he) ?_;refine az ?_;simp only [eS,fP];rfl
section
variable {M:Addr->Prop}{N N':Nat->Prop}{w w':World}{T m:Nat}{rows:List (List D)}{v:Value}{d:D}
def pF(h:R w M d v)(hb:Below w.heap.size w w')(hN: ∀x,N x->w.heap.size<=x):R w' (BM M N) d v :=
 R.keep (bY.below hb fun q hq h=>h.elim id fun h=>by have:=hN _ h;omega) _ _ h
def OR.xV(h:OR M N w T m rows v)(h1: ∀x,N' x->N x)(h2: ∀x,v.ownBlock=some x-> ¬N' x/\ ∀o,¬M ⟨x,o,none⟩):R w (BM M N') (.sl rows) v:=by
 obtain ⟨hn,xs,ho,h2',h6⟩:=id h;obtain ⟨h0,⟨rfl,hz⟩|⟨b,cap,cur,rfl,p1,p2,p3,p4,p5,p6⟩⟩:=ho
 ·have:rows=[]:=oR hz;subst this;exact ⟨none,0,0,rfl,rfl,bU _,fX _,fun _=>rfl,fun b o s h=>by cases h⟩
 ·refine Ma hn rfl p3 p4 (fun _=>rfl) fun i j r d hi hj=> ?_;obtain ⟨u,q1,q2,q3⟩:=h6 i j r d hi hj;obtain ⟨g1,g2⟩:=h2 b rfl;refine ⟨u,?_,fun h=>h.elim (g2 _) g1,R.less q3 fun q hq=>hq.imp id (h1 _)⟩;rw [qE];unfold World.cell?;simp only [p2];rw [<-p6,pV] at q1;split at q1
  ·simpa using q1
  ·cases q1
end
section
variable {n:Nat}{P:Program}{E:List (Nat×Value)}{w:World}{o:Oper}
def aC8{T e:TypeId}{i:TypeInfo}{x:Operand}{u0 u1 u2 u3 u4 u5 z0 z1 z2 z3 z4 z5:Value}(ho:o.op= .buildSlice T 1 #[(0,x)])(hx:ev E x=some (.agg #[u0,u1,u2,u3,u4,u5]))(hT:P.underlying T=some (.slice e))(hi:P.info? e=some i)(hsz:i.size=6)(hz:i.zero=some (.agg #[z0,z1,z2,z3,z4,z5])) :
  fu n P E o w (.slice (some ⟨w.heap.size,0,none⟩) 1 1) (w.alloc (.cells #[u0,u1,u2,u3,u4,u5] e)):=fun a hE=>by
 have hr:Array.range 6= #[0,1,2,3,4,5]:=by decide
 simp [execOp,ho,hE.ev hx,Instr.buildSlice,run_underlying hT,run_sizeOf hi,hsz,zeroValue,run_typeInfo hi,hz,Value.cells,Instr.fill,newRow,hr]
def Js{T e:TypeId}{i:TypeInfo}{x:Operand}{u0 u1 u2 u3 u4 u5 u6 z0 z1 z2 z3 z4 z5 z6:Value}(ho:o.op= .buildSlice T 1 #[(0,x)])(hx:ev E x=some (.agg #[u0,u1,u2,u3,u4,u5,u6]))(hT:P.underlying T=some (.slice e))(hi:P.info? e=some i)(hsz:i.size=7)(hz:i.zero=some (.agg #[z0,z1,z2,z3,z4,z5,z6])) :
  fu n P E o w (.slice (some ⟨w.heap.size,0,none⟩) 1 1) (w.alloc (.cells #[u0,u1,u2,u3,u4,u5,u6] e)):=fun a hE=>by
 have hr:Array.range 7= #[0,1,2,3,4,5,6]:=by decide
 simp [execOp,ho,hE.ev hx,Instr.buildSlice,run_underlying hT,run_sizeOf hi,hsz,zeroValue,run_typeInfo hi,hz,Value.cells,Instr.fill,newRow,hr]
end
def agB{w:World}{M:Addr->Prop}{e:Event}{v:Value}(h:R w M (enc e) v): ∃S,v= .agg #[.int .i64 e.kind,.string e.name,.string e.call.method,.string e.call.key,.int .i64 e.call.val,.string e.call.text,S]/\R w M (ax e.recipe) S/\e.name.size<=maxLen:=by
 obtain ⟨cs,rfl,v0,r0,e0,⟨rfl,h0⟩,v1,r1,rfl,⟨rfl,h1⟩,v2,r2,rfl,⟨rfl,h2⟩,v3,r3,rfl,⟨rfl,h3⟩,v4,r4,rfl,⟨rfl,h4⟩,v5,r5,rfl,⟨rfl,h5⟩,v6,r6,rfl,h6,rfl⟩:=h;have:cs= #[.int .i64 e.kind,.string e.name,.string e.call.method,.string e.call.key,.int .i64 e.call.val,.string e.call.text,v6]:=by rw [<-kJ,e0]
 exact ⟨v6,by rw [this],h6,h1⟩
def auQ{P:Program}{t e ty:TypeId}{i:TypeInfo}{base:Option Addr}{n cap:Nat}{w:World}(ht:P.underlying t=some (.slice e))(hi:P.info? e=some i)(hle:n<=cap) :
  (Builtin.append_ #[t,t] ty #[.slice base n cap,ai]).run P w= .ok (.slice base n cap) w :=
 run_append_nothing w t t ty e i ht hi base n cap hle ai (Src.ofNil w ht 0)
set_option maxHeartbeats 1000000 in
def WA{M:Addr->Prop}{N:Nat->Prop}{w:World}{l:List ByteArray}{v:Value}(hG:fN w (BM M N))(h:R w (BM M N) (ax l) v)(hl:l.length<1048576) :
  Calls ay 88 #[v] w fun e w'=> ∃v',e= .returned v'/\OR M (fun x=>N x\/v'.ownBlock=some x) w' 9 1 (l.map aE.cells) v'/\(∀x,v'.ownBlock=some x->w.heap.size<=x)/\Below w.heap.size w w':=by
 obtain ⟨a,cap,hv,_,hel⟩:=oW (nL (n:=1) (fun _=>rfl) l) h;rw [cV] at hv;subst hv;have hc0:a=none->cap=0:=fun e=>by obtain ⟨a',len',cap',e',_,_,_,h0,_⟩:=(show R w (BM M N) (.sl (l.map aE.cells)) _ from h);cases e';exact h0 e
 obtain ⟨ti,aO,hz,hsz,hby⟩:=uq (P:=ay) (e:=9) (z:= .string ⟨#[]⟩) (size:=1) (bytes:=16) (by kernel_rfl);refine tj (E:=[(0,.slice a l.length cap)]) Tryz.func88 rfl Tryz.ntmps88 (by simp) (by simp) ?_;refine aT ?_;refine ah cy ?_;refine bQ ?_;refine bq (E':=[(0,.slice a l.length cap)]) ?_;refine aT ?_;refine ah (abc rfl fY aO hsz hz rfl) ?_;refine ah aN ?_;have hb4:=eK w #[] 9;have aiz:(w.alloc (.cells #[] 9)).heap.size=w.heap.size+1:=dI _ _;have ow:(w.alloc (.cells #[] 9)).ownsRow 0 9 1 (.slice (some ⟨w.heap.size,0,none⟩) 0 0) 0 []:=⟨rfl,.inr ⟨w.heap.size,0,#[],rfl,fX _,xn w _,bU _,fX _,rfl,rfl⟩⟩;have aae: ∀k (hk:k<l.length),(nth l k).size<=maxLen/\ ∃b o,a=some ⟨b,o,none⟩/\w.cell? ⟨b,o+k,none⟩=some (.string (nth l k)):=fun k hk=>by obtain ⟨b,o,us,rfl,nJ,⟨c0,_,rfl,⟨rfl,hsz⟩,hq⟩,hcell⟩:=hel k _ (get_map l hk);exact ⟨hsz,b,o,rfl,by have:=hcell 0 _ rfl;simpa using this⟩
 have fin: ∀(v':Value) (w':World),w'.ownsRow 0 9 1 v' l.length (l.map Value.string)->OR M (fun x=>N x\/v'.ownBlock=some x) w' 9 1 (l.map aE.cells) v':=fun v' w' ho=>by
  refine ⟨nL (fun _=>rfl) l,l.map Value.string,by rw [cV];exact ho,fun x hx=> .inr hx,fun i j r d hi hj=> ?_⟩;rw [iI] at hi;obtain ⟨s,hs,rfl⟩:=lJ.1 hi;have hj:[D.str s][j]? =some d:=hj;have hil:=(dQ.1 hs).1;have rT:nth l i=s:=by rw [nth,List.getD,hs];rfl
  match j,hj with
  | 0,hj => cases hj;exact ⟨.string s,by rw [iI,show i*1+0=i by omega,hs];rfl,rfl,rfl,by rw [<-rT];exact (aae i hil).1⟩
  | j+1,hj=>simp at hj
 rcases a with _|a
 ·have hl0:l=[]:=by
   rcases l with _|⟨s,l⟩
   ·rfl
   ·obtain ⟨_,b,o,e,_⟩:=aae 0 (by simp);cases e
  subst hl0;obtain rfl:=hc0 rfl;refine ah (uS rfl rfl rfl (auQ fY aO (bU _))) ?_;refine ah cy ?_;exact WL.nil (aK (CW.ret (WY rfl rfl ⟨_,rfl,fin _ _ ow,fun x hx=>(by cases hx;exact bU _),hb4⟩)))
 ·obtain ⟨v',w',q1,q2,q3,_,q5⟩:=run_append_own_at (P:=ay) (w.alloc (.cells #[] 9)) 0 26 26 9 ti (.string ⟨#[]⟩) 1 16 fY aO hz hsz hby rfl (by decide) _ 0 _ ow a l.length cap (l.map Value.string) (by simp)
   (fun j u hu=>by
    rw [iI] at hu;obtain ⟨s',hs',rfl⟩:=lJ.1 hu;have hjl:=(dQ.1 hs').1;obtain ⟨_,b,o,e,hc⟩:=aae j hjl;cases e;have rT:nth l j=s':=by rw [nth,List.getD,hs'];rfl
    rw [vK,(hb4.cell (gR hc)),hc,rT])
   (fun u hu=>by obtain ⟨s',_,rfl⟩:=gD.1 hu;rfl) (by unfold maxLen;omega) (by omega) (fX _)
  refine ah (uS rfl rfl rfl q1) ?_;refine ah cy ?_;refine WL.nil (aK (CW.ret (WY rfl rfl ⟨_,rfl,fin _ _ (by simpa using q2),fun x hx=> ?_,⟨q3.os,q3.tape,q3.output,by have:=q3.size;omega,fun i hi=>(q3.block i (by omega) (fun e=>by have e2:i=w.heap.size:=gh e;omega)).trans (hb4.block i hi)⟩⟩)));rcases q5 with e|e
  ·rw [e] at hx;have e2:w.heap.size=x:=gh hx;omega
  ·rw [e] at hx;have e2:=gh hx;omega
def CB:n9 ay 40 3=some 3:=by kernel_rfl
def fe:Value:=ai
structure CF(M:Addr->Prop)(N:Nat->Prop)(w0 W:World)(h:Host)(cs:Array Value)(j:Nat)(ve vu vs:Value):Prop where
 bl:Below w0.heap.size w0 W
 b1:aC W w0.heap.size 40 cs
 b2:aC W (w0.heap.size+1) 40 #[ai,ai,ai,ai,ai]
 nw: ∀x,N x->w0.heap.size<=x/\x<W.heap.size
 n1:N w0.heap.size
 n2:N (w0.heap.size+1)
 e:1<=j->R W (BM M N) (ax h.entries) ve
 u:2<=j->OR M N W 9 1 (h.up.map aE.cells) vu/\ ∀x,vu.ownBlock=some x->w0.heap.size+2<=x
 s:3<=j->R W (BM M N) (ax h.shut) vs
structure AL(N:Nat->Prop)(w0 W:World)(j:Nat)(vu:Value)(g:Nat):Prop where
 n:N g
 b:aC W g 40 #[ai,ai,ai,ai,ai]
 lo:w0.heap.size+2<=g
 u:2<=j->vu.ownBlock≠some g
section
variable {M:Addr->Prop}{N N':Nat->Prop}{w0 W W':World}{h:Host}{cs:Array Value}{j:Nat}{ve vu vs:Value}{g:Nat}
def CF.cE(H:CF M N w0 W h cs j ve vu vs)(hG:fN w0 M):fN W (BM M N) :=
 ⟨fun q hq=>hq.elim (fun hq=>dm (hG.1 q hq) H.bl.size) fun hq=>(H.nw _ hq).2,hG.2.1.keep fun k hk=>H.bl.block k (dm hk hG.2.2),dq hG.2.2 H.bl.size⟩
def CF.below(H:CF M N w0 W h cs j ve vu vs)(hb:Below W.heap.size W W')(hN: ∀x,N' x->N x\/(W.heap.size<=x/\x<W'.heap.size))(iz: ∀x,N x->N' x):CF M N' w0 W' h cs j ve vu vs :=
 ⟨bt H.bl hb,H.b1.below hb H.b1.lt,H.b2.below hb H.b2.lt,fun x hx=>(hN x hx).elim (fun h=>⟨(H.nw x h).1,dm (H.nw x h).2 hb.size⟩) (fun h=>⟨dq H.bl.size h.1,h.2⟩),iz _ H.n1,iz _ H.n2,
  fun hj=>da (H.e hj) hb fun x hx=>(hN x hx).imp id Cd,fun hj=>⟨(H.u hj).1.below hb (fun x hx=>(hN x hx).imp id Cd) iz,(H.u hj).2⟩,fun hj=>da (H.s hj) hb fun x hx=>(hN x hx).imp id Cd⟩
def AL.below(A:AL N w0 W j vu g)(hb:Below W.heap.size W W')(iz: ∀x,N x->N' x):AL N' w0 W' j vu g:=⟨iz _ A.n,A.b.below hb A.b.lt,A.lo,A.u⟩
def uX(W:World):aC (W.alloc (.cells #[ai,ai,ai,ai,ai] 40)) W.heap.size 40 #[ai,ai,ai,ai,ai]:=aC.new W 40 #[ai,ai,ai,ai,ai]
end
noncomputable def fg:Array Oper:=NA Tryz.f48 1
def yK(o:Oper):Go.Call:=match o.op with
 | .call c=>c
 | _=>{callee:= .value (.const (.bool true)),args:= #[],argTypes:= #[]}
def oz(l:List Nat):Array Bool:=((List.range 12).map fun i=>l.any (Nat.beq i)).toArray
def afe(a1 a2 a3:Option Addr)(n1 n2 n3 c1 c2 c3:Nat):tg ay 40 [(0,.slice a1 n1 c1),(2,.slice a2 n2 c2),(3,.slice a3 n3 c3)]=some (aD (.slice a1 n1 c1) fe (.slice a2 n2 c2) (.slice a3 n3 c3) fe):=by kernel_rfl
set_option maxHeartbeats 4000000 in
def aDr{M:Addr->Prop}{w0:World}{h:Host}{ae ap au aU al:Value}{Q:Exit->Act->World->Prop}(hQ: ∀c a t v w,Q (.panic c) (Act.put a t v) w->Q (.panic c) a w)(hG:fN w0 M)(pu:R w0 M (ax h.entries) ae)(xD:R w0 M (ax h.up) au)(has:R w0 M (ax h.shut) aU)
  (hl:h.entries.length<=1048576) (hf: ∀e∈h.entries,e.fit) (nJ:h.up.length<1048576) (hsl:h.shut.length<1048576)
  (fin: ∀(N:Nat->Prop) (W:World) (g:Nat) (ve vu vs:Value),CF M N w0 W h (aD ae ap au aU al) 3 ve vu vs->N g->aC W g 40 (aD ve fe vu vs fe)->w0.heap.size+2<=g->vu.ownBlock≠some g->NX 49 (Q .normal) [(1,PH w0.heap.size),(2,PH (w0.heap.size+1)),(3,PH g)] W)
  (N:Nat->Prop) (W:World) (H:CF M N w0 W h (aD ae ap au aU al) 0 fe fe fe) :
  AU 49 ay fg Q (fun W=>aC W w0.heap.size 40 (aD ae ap au aU al)) 11 12 (Array.replicate 12 false) [(1,PH w0.heap.size),(2,PH (w0.heap.size+1))] W:=by
 have sl: ∀{W:World} {M:Addr->Prop} {rows:List (List D)} {v:Value},R W M (.sl rows) v-> ∃a n c,v= .slice a n c:=fun h=>by obtain ⟨a,n,c,rfl,_⟩:=h;exact ⟨a,n,c,rfl⟩
 have s4A: ∀(N:Nat->Prop) (W:World) (ve:Value) (vu:Value) (vs:Value) (g:Nat),CF M N w0 W h (aD ae ap au aU al) 3 ve vu vs->AL N w0 W 3 vu g->AU 49 ay fg Q (fun W=>aC W w0.heap.size 40 (aD ae ap au aU al)) 11 1 (oz [0,1,2,3,4,5,6,7,8,9,10]) [(1,PH w0.heap.size),(2,PH (w0.heap.size+1)),(9,ae),(12,au),(15,aU),(17,.agg (aD ve fe vu vs fe)),(3,PH g)] W:=by intro N W ve vu vs g H A;obtain ⟨a2,c2,rfl,_⟩:=(H.u (by decide)).1.len;obtain ⟨a1,n1,c1,rfl⟩:=sl (show R W _ (.sl (h.entries.map aE.cells)) ve from H.e (by decide));obtain ⟨a3,n3,c3,rfl⟩:=sl (show R W _ (.sl (h.shut.map aE.cells)) vs from H.s (by decide));refine iE (o:=opAt fg 11) 11 (by kernel_rfl) (hg:=(by kernel_rfl)) (hd:=(by kernel_rfl)) (T:=40) (x:= .tmp 3) (y:= .tmp 17) (C:= #[ai,ai,ai,ai,ai]) (hop:=(by kernel_rfl)) rfl A.b (by intro u hu;simp [aD,fe] at hu;rcases hu with rfl|rfl|rfl|rfl|rfl<;>rfl) bK (fun _ _ h=>absurd rfl h) fun W1 R1 O1=> ?_;refine jd (by kernel_rfl) ?_;have hlo:=A.lo;have hs:=O1.size;have hwz:=H.bl.size;have HH:CF M N w0 W1 h (aD ae ap au aU al) 3 (.slice a1 n1 c1) _ (.slice a3 n3 c3):=⟨⟨O1.os.trans H.bl.os,O1.tape.trans H.bl.tape,O1.output.trans H.bl.output,by omega,fun i hi=>(O1.block i (by omega)).trans (H.bl.block i hi)⟩,(O1.block _ (by omega)).trans H.b1,(O1.block _ (by omega)).trans H.b2,fun x hx=>by rw [hs];exact H.nw x hx,H.n1,H.n2,fun hj=>gz (H.e hj) O1 A.n,fun hj=>⟨(H.u hj).1.one O1 A.n (A.u hj),(H.u hj).2⟩,fun hj=>gz (H.s hj) O1 A.n⟩;exact fun ac hE=>fin N W1 g _ _ _ HH A.n R1 A.lo (A.u (by decide)) ac (hE.sub ⟨rfl,rfl,rfl,trivial⟩)
 have s4B: ∀(N:Nat->Prop) (W:World) (ve:Value) (vu:Value) (vs:Value),CF M N w0 W h (aD ae ap au aU al) 3 ve vu vs->AU 49 ay fg Q (fun W=>aC W w0.heap.size 40 (aD ae ap au aU al)) 11 2 (oz [0,1,2,3,4,5,6,7,8,9]) [(1,PH w0.heap.size),(2,PH (w0.heap.size+1)),(9,ae),(12,au),(15,aU),(17,.agg (aD ve fe vu vs fe))] W:=by
  intro N W ve vu vs H;refine tV (show Region.ready .any fg (oz [0,1,2,3,4,5,6,7,8,9])=[10] by kernel_rfl) ?_
  ·have hb:=eK W #[ai,ai,ai,ai,ai] 40;have hz:=dI W (.cells #[ai,ai,ai,ai,ai] 40);have H':=H.below (N':=fun x=>N x\/x=W.heap.size) hb (fun x hx=>hx.imp id fun hx=>by omega) fun x hx=> .inl hx;have hlo:=H.b2.lt;have AA:AL (fun x=>N x\/x=W.heap.size) w0 (W.alloc (.cells #[ai,ai,ai,ai,ai] 40)) 3 vu W.heap.size:=⟨.inr rfl,uX W,by omega,fun hj e=>by have:=((H.u (by decide)).1.lt _ e).2;omega⟩;refine gu (o:=opAt fg 10) (d:=3) (w':=W.alloc (.cells #[ai,ai,ai,ai,ai] 40)) (cY (z:= .agg #[ai,ai,ai,ai,ai]) (by kernel_rfl) pE) H'.b1 ?_;exact dM (s4A _ _ _ _ _ _ H' AA)
 have s3A: ∀(N:Nat->Prop) (W:World) (ve:Value) (vu:Value) (vs:Value) (g:Nat),CF M N w0 W h (aD ae ap au aU al) 3 ve vu vs->AL N w0 W 3 vu g->AU 49 ay fg Q (fun W=>aC W w0.heap.size 40 (aD ae ap au aU al)) 11 2 (oz [0,1,2,3,4,5,6,7,8,10]) [(1,PH w0.heap.size),(2,PH (w0.heap.size+1)),(9,ae),(12,au),(15,aU),(10,ve),(13,vu),(16,vs),(3,PH g)] W:=by
  intro N W ve vu vs g H A;refine tV (show Region.ready .any fg (oz [0,1,2,3,4,5,6,7,8,10])=[9] by kernel_rfl) ?_
  ·obtain ⟨a1,n1,c1,rfl⟩:=sl (show R W _ (.sl (h.entries.map aE.cells)) ve from H.e (by decide));obtain ⟨a2,c2,rfl,_⟩:=(H.u (by decide)).1.len;obtain ⟨a3,n3,c3,rfl⟩:=sl (show R W _ (.sl (h.shut.map aE.cells)) vs from H.s (by decide));refine gu (o:=opAt fg 9) (d:=17) (jK (parts:= #[(0,.tmp 10),(2,.tmp 13),(3,.tmp 16)]) (ho:=(by kernel_rfl)) (afe a1 a2 a3 n1 _ n3 c1 c2 c3)) H.b1 ?_;exact dM (s4A _ _ _ _ _ _ H A)
 have s3B: ∀(N:Nat->Prop) (W:World) (ve:Value) (vu:Value) (vs:Value),CF M N w0 W h (aD ae ap au aU al) 3 ve vu vs->AU 49 ay fg Q (fun W=>aC W w0.heap.size 40 (aD ae ap au aU al)) 11 3 (oz [0,1,2,3,4,5,6,7,8]) [(1,PH w0.heap.size),(2,PH (w0.heap.size+1)),(9,ae),(12,au),(15,aU),(10,ve),(13,vu),(16,vs)] W:=by
  intro N W ve vu vs H;refine sL (show Region.ready .any fg (oz [0,1,2,3,4,5,6,7,8])=[9,10] by kernel_rfl) ?_ ?_
  ·obtain ⟨a1,n1,c1,rfl⟩:=sl (show R W _ (.sl (h.entries.map aE.cells)) ve from H.e (by decide));obtain ⟨a2,c2,rfl,_⟩:=(H.u (by decide)).1.len;obtain ⟨a3,n3,c3,rfl⟩:=sl (show R W _ (.sl (h.shut.map aE.cells)) vs from H.s (by decide));refine gu (o:=opAt fg 9) (d:=17) (jK (parts:= #[(0,.tmp 10),(2,.tmp 13),(3,.tmp 16)]) (ho:=(by kernel_rfl)) (afe a1 a2 a3 n1 _ n3 c1 c2 c3)) H.b1 ?_;exact dM (s4B _ _ _ _ _ H)
  ·have hb:=eK W #[ai,ai,ai,ai,ai] 40;have hz:=dI W (.cells #[ai,ai,ai,ai,ai] 40);have H':=H.below (N':=fun x=>N x\/x=W.heap.size) hb (fun x hx=>hx.imp id fun hx=>by omega) fun x hx=> .inl hx;have hlo:=H.b2.lt;have AA:AL (fun x=>N x\/x=W.heap.size) w0 (W.alloc (.cells #[ai,ai,ai,ai,ai] 40)) 3 vu W.heap.size:=⟨.inr rfl,uX W,by omega,fun hj e=>by have:=((H.u (by decide)).1.lt _ e).2;omega⟩;refine gu (o:=opAt fg 10) (d:=3) (w':=W.alloc (.cells #[ai,ai,ai,ai,ai] 40)) (cY (z:= .agg #[ai,ai,ai,ai,ai]) (by kernel_rfl) pE) H'.b1 ?_;exact dM (s3A _ _ _ _ _ _ H' AA)
 have s2A: ∀(N:Nat->Prop) (W:World) (ve:Value) (vu:Value) (g:Nat),CF M N w0 W h (aD ae ap au aU al) 2 ve vu fe->AL N w0 W 2 vu g->AU 49 ay fg Q (fun W=>aC W w0.heap.size 40 (aD ae ap au aU al)) 11 3 (oz [0,1,2,3,4,5,6,7,10]) [(1,PH w0.heap.size),(2,PH (w0.heap.size+1)),(9,ae),(12,au),(15,aU),(10,ve),(13,vu),(3,PH g)] W:=by
  intro N W ve vu g H A;refine tV (show Region.ready .any fg (oz [0,1,2,3,4,5,6,7,10])=[8] by kernel_rfl) ?_
  ·refine sM (o:=opAt fg 8) (d:=16) (pI (cl:=yK (opAt fg 8)) (args:= #[aU]) (by kernel_rfl) (by kernel_rfl) (by kernel_rfl) rfl) (WA (H.cE hG) (pF has H.bl fun x hx=>(H.nw x hx).1) hsl) ?_;rintro _ W' ⟨vs,rfl,hv,hn,hb⟩;have H':=H.below (N':=N) hb (fun x hx=> .inl hx) fun x hx=>hx;have HH:CF M N w0 W' h (aD ae ap au aU al) 3 ve vu vs:={H' with e:=fun _=>H'.e (by decide),u:=fun _=>H'.u (by decide),s:=fun _=>hv.xV (fun x hx=> .inl hx) fun x hx=>⟨fun h=>by have:=hn x hx;have:=(H.nw x h).2;omega,fun o hm=>by have h1:=hn x hx;have h2:x<w0.heap.size:=hG.1 _ hm;have:=H.bl.size;omega⟩};have AA:AL N w0 W' 3 vu g:={A.below (N':=N) hb (fun x hx=>hx) with u:=fun _=>A.u (by decide)};refine ⟨_,rfl,HH.b1,?_⟩;exact dM (s3A _ _ _ _ _ _ HH AA)
 have s2B: ∀(N:Nat->Prop) (W:World) (ve:Value) (vu:Value),CF M N w0 W h (aD ae ap au aU al) 2 ve vu fe->AU 49 ay fg Q (fun W=>aC W w0.heap.size 40 (aD ae ap au aU al)) 11 4 (oz [0,1,2,3,4,5,6,7]) [(1,PH w0.heap.size),(2,PH (w0.heap.size+1)),(9,ae),(12,au),(15,aU),(10,ve),(13,vu)] W:=by
  intro N W ve vu H;refine sL (show Region.ready .any fg (oz [0,1,2,3,4,5,6,7])=[8,10] by kernel_rfl) ?_ ?_
  ·refine sM (o:=opAt fg 8) (d:=16) (pI (cl:=yK (opAt fg 8)) (args:= #[aU]) (by kernel_rfl) (by kernel_rfl) (by kernel_rfl) rfl) (WA (H.cE hG) (pF has H.bl fun x hx=>(H.nw x hx).1) hsl) ?_;rintro _ W' ⟨vs,rfl,hv,hn,hb⟩;have H':=H.below (N':=N) hb (fun x hx=> .inl hx) fun x hx=>hx;have HH:CF M N w0 W' h (aD ae ap au aU al) 3 ve vu vs:={H' with e:=fun _=>H'.e (by decide),u:=fun _=>H'.u (by decide),s:=fun _=>hv.xV (fun x hx=> .inl hx) fun x hx=>⟨fun h=>by have:=hn x hx;have:=(H.nw x h).2;omega,fun o hm=>by have h1:=hn x hx;have h2:x<w0.heap.size:=hG.1 _ hm;have:=H.bl.size;omega⟩};refine ⟨_,rfl,HH.b1,?_⟩;exact dM (s3B _ _ _ _ _ HH)
  ·have hb:=eK W #[ai,ai,ai,ai,ai] 40;have hz:=dI W (.cells #[ai,ai,ai,ai,ai] 40);have H':=H.below (N':=fun x=>N x\/x=W.heap.size) hb (fun x hx=>hx.imp id fun hx=>by omega) fun x hx=> .inl hx;have hlo:=H.b2.lt;have AA:AL (fun x=>N x\/x=W.heap.size) w0 (W.alloc (.cells #[ai,ai,ai,ai,ai] 40)) 2 vu W.heap.size:=⟨.inr rfl,uX W,by omega,fun hj e=>by have:=((H.u (by decide)).1.lt _ e).2;omega⟩;refine gu (o:=opAt fg 10) (d:=3) (w':=W.alloc (.cells #[ai,ai,ai,ai,ai] 40)) (cY (z:= .agg #[ai,ai,ai,ai,ai]) (by kernel_rfl) pE) H'.b1 ?_;exact dM (s2A _ _ _ _ _ H' AA)
 have s1A: ∀(N:Nat->Prop) (W:World) (ve:Value) (g:Nat),CF M N w0 W h (aD ae ap au aU al) 1 ve fe fe->AL N w0 W 1 fe g->AU 49 ay fg Q (fun W=>aC W w0.heap.size 40 (aD ae ap au aU al)) 11 4 (oz [0,1,2,3,4,6,7,10]) [(1,PH w0.heap.size),(2,PH (w0.heap.size+1)),(9,ae),(12,au),(15,aU),(10,ve),(3,PH g)] W:=by
  intro N W ve g H A;refine tV (show Region.ready .any fg (oz [0,1,2,3,4,6,7,10])=[5] by kernel_rfl) ?_
  ·refine sM (o:=opAt fg 5) (d:=13) (pI (cl:=yK (opAt fg 5)) (args:= #[au]) (by kernel_rfl) (by kernel_rfl) (by kernel_rfl) rfl) (WA (H.cE hG) (pF xD H.bl fun x hx=>(H.nw x hx).1) nJ) ?_;rintro _ W' ⟨vu,rfl,hv,hn,hb⟩;have H':=H.below (N':=fun x=>N x\/vu.ownBlock=some x) hb (fun x hx=>hx.imp id fun hx=>⟨hn x hx,(hv.lt x hx).2⟩) fun x hx=> .inl hx;have hlo:=H.b2.lt;have HH:CF M (fun x=>N x\/vu.ownBlock=some x) w0 W' h (aD ae ap au aU al) 2 ve vu fe:={H' with e:=fun _=>H'.e (by decide),u:=fun _=>⟨hv,fun x hx=>by have:=hn x hx;omega⟩,s:=fun hj=>absurd hj (by decide)};have AA:AL (fun x=>N x\/vu.ownBlock=some x) w0 W' 2 vu g:={A.below (N':=fun x=>N x\/vu.ownBlock=some x) hb (fun x hx=> .inl hx) with u:=fun _ e=>by have:=hn g e;have:=A.b.lt;omega};refine ⟨_,rfl,HH.b1,?_⟩;exact dM (s2A _ _ _ _ _ HH AA)
 have s1B: ∀(N:Nat->Prop) (W:World) (ve:Value),CF M N w0 W h (aD ae ap au aU al) 1 ve fe fe->AU 49 ay fg Q (fun W=>aC W w0.heap.size 40 (aD ae ap au aU al)) 11 5 (oz [0,1,2,3,4,6,7]) [(1,PH w0.heap.size),(2,PH (w0.heap.size+1)),(9,ae),(12,au),(15,aU),(10,ve)] W:=by
  intro N W ve H;refine sL (show Region.ready .any fg (oz [0,1,2,3,4,6,7])=[5,10] by kernel_rfl) ?_ ?_
  ·refine sM (o:=opAt fg 5) (d:=13) (pI (cl:=yK (opAt fg 5)) (args:= #[au]) (by kernel_rfl) (by kernel_rfl) (by kernel_rfl) rfl) (WA (H.cE hG) (pF xD H.bl fun x hx=>(H.nw x hx).1) nJ) ?_;rintro _ W' ⟨vu,rfl,hv,hn,hb⟩;have H':=H.below (N':=fun x=>N x\/vu.ownBlock=some x) hb (fun x hx=>hx.imp id fun hx=>⟨hn x hx,(hv.lt x hx).2⟩) fun x hx=> .inl hx;have hlo:=H.b2.lt;have HH:CF M (fun x=>N x\/vu.ownBlock=some x) w0 W' h (aD ae ap au aU al) 2 ve vu fe:={H' with e:=fun _=>H'.e (by decide),u:=fun _=>⟨hv,fun x hx=>by have:=hn x hx;omega⟩,s:=fun hj=>absurd hj (by decide)};refine ⟨_,rfl,HH.b1,?_⟩;exact dM (s2B _ _ _ _ HH)
  ·have hb:=eK W #[ai,ai,ai,ai,ai] 40;have hz:=dI W (.cells #[ai,ai,ai,ai,ai] 40);have H':=H.below (N':=fun x=>N x\/x=W.heap.size) hb (fun x hx=>hx.imp id fun hx=>by omega) fun x hx=> .inl hx;have hlo:=H.b2.lt;have AA:AL (fun x=>N x\/x=W.heap.size) w0 (W.alloc (.cells #[ai,ai,ai,ai,ai] 40)) 1 fe W.heap.size:=⟨.inr rfl,uX W,by omega,fun hj e=>absurd hj (by decide)⟩;refine gu (o:=opAt fg 10) (d:=3) (w':=W.alloc (.cells #[ai,ai,ai,ai,ai] 40)) (cY (z:= .agg #[ai,ai,ai,ai,ai]) (by kernel_rfl) pE) H'.b1 ?_;exact dM (s1A _ _ _ _ H' AA)
 have s0A: ∀(N:Nat->Prop) (W:World) (g:Nat),CF M N w0 W h (aD ae ap au aU al) 0 fe fe fe->AL N w0 W 0 fe g->AU 49 ay fg Q (fun W=>aC W w0.heap.size 40 (aD ae ap au aU al)) 11 5 (oz [0,1,3,4,6,7,10]) [(1,PH w0.heap.size),(2,PH (w0.heap.size+1)),(9,ae),(12,au),(15,aU),(3,PH g)] W:=by
  intro N W  g H A;refine tV (show Region.ready .any fg (oz [0,1,3,4,6,7,10])=[2] by kernel_rfl) ?_
  ·refine sM (o:=opAt fg 2) (d:=10) (pI (cl:=yK (opAt fg 2)) (args:= #[ae]) (by kernel_rfl) (by kernel_rfl) (by kernel_rfl) rfl) (aH.calls (aH.fD (Yh h.entries hl hf)) (H.cE hG) (vs:=[ae]) ⟨_,[],rfl,pF pu H.bl fun x hx=>(H.nw x hx).1,rfl⟩) ?_;rintro _ W' ⟨ve,rfl,hv,hb⟩;have H':=H.below (N':=N) hb (fun x hx=> .inl hx) fun x hx=>hx;have HH:CF M N w0 W' h (aD ae ap au aU al) 1 ve fe fe:={H' with e:=fun _=>hv,u:=fun hj=>absurd hj (by decide),s:=fun hj=>absurd hj (by decide)};have AA:AL N w0 W' 1 fe g:={A.below (N':=N) hb (fun x hx=>hx) with u:=fun hj=>absurd hj (by decide)};refine ⟨_,rfl,HH.b1,?_⟩;exact dM (s1A _ _ _ _ HH AA)
 have s0B: ∀(N:Nat->Prop) (W:World),CF M N w0 W h (aD ae ap au aU al) 0 fe fe fe->AU 49 ay fg Q (fun W=>aC W w0.heap.size 40 (aD ae ap au aU al)) 11 6 (oz [0,1,3,4,6,7]) [(1,PH w0.heap.size),(2,PH (w0.heap.size+1)),(9,ae),(12,au),(15,aU)] W:=by
  intro N W  H;refine sL (show Region.ready .any fg (oz [0,1,3,4,6,7])=[2,10] by kernel_rfl) ?_ ?_
  ·refine sM (o:=opAt fg 2) (d:=10) (pI (cl:=yK (opAt fg 2)) (args:= #[ae]) (by kernel_rfl) (by kernel_rfl) (by kernel_rfl) rfl) (aH.calls (aH.fD (Yh h.entries hl hf)) (H.cE hG) (vs:=[ae]) ⟨_,[],rfl,pF pu H.bl fun x hx=>(H.nw x hx).1,rfl⟩) ?_;rintro _ W' ⟨ve,rfl,hv,hb⟩;have H':=H.below (N':=N) hb (fun x hx=> .inl hx) fun x hx=>hx;have HH:CF M N w0 W' h (aD ae ap au aU al) 1 ve fe fe:={H' with e:=fun _=>hv,u:=fun hj=>absurd hj (by decide),s:=fun hj=>absurd hj (by decide)};refine ⟨_,rfl,HH.b1,?_⟩;exact dM (s1B _ _ _ HH)
  ·have hb:=eK W #[ai,ai,ai,ai,ai] 40;have hz:=dI W (.cells #[ai,ai,ai,ai,ai] 40);have H':=H.below (N':=fun x=>N x\/x=W.heap.size) hb (fun x hx=>hx.imp id fun hx=>by omega) fun x hx=> .inl hx;have hlo:=H.b2.lt;have AA:AL (fun x=>N x\/x=W.heap.size) w0 (W.alloc (.cells #[ai,ai,ai,ai,ai] 40)) 0 fe W.heap.size:=⟨.inr rfl,uX W,by omega,fun hj e=>absurd hj (by decide)⟩;refine gu (o:=opAt fg 10) (d:=3) (w':=W.alloc (.cells #[ai,ai,ai,ai,ai] 40)) (cY (z:= .agg #[ai,ai,ai,ai,ai]) (by kernel_rfl) pE) H'.b1 ?_;exact dM (s0A _ _  _ H' AA)
 refine eu (o:=opAt fg 0) (d:=8) 0 hQ (fun W hW=>bD (k:=0) (x:= .tmp 1) (ho:=(by kernel_rfl)) tv) H.b1 ?_;refine eu (o:=opAt fg 1) (d:=9) 1 hQ (fun W hW=>bM (x:= .tmp 8) (ho:=(by kernel_rfl)) pY (v:=ae) ((hW.cell 0).trans rfl)) H.b1 ?_;refine eu (o:=opAt fg 3) (d:=11) 3 hQ (fun W hW=>bD (k:=2) (x:= .tmp 1) (ho:=(by kernel_rfl)) uz) H.b1 ?_;refine eu (o:=opAt fg 4) (d:=12) 4 hQ (fun W hW=>bM (x:= .tmp 11) (ho:=(by kernel_rfl)) fY (v:=au) ((hW.cell 2).trans rfl)) H.b1 ?_;refine eu (o:=opAt fg 6) (d:=14) 6 hQ (fun W hW=>bD (k:=3) (x:= .tmp 1) (ho:=(by kernel_rfl)) CB) H.b1 ?_;refine eu (o:=opAt fg 7) (d:=15) 7 hQ (fun W hW=>bM (x:= .tmp 14) (ho:=(by kernel_rfl)) fY (v:=aU) ((hW.cell 3).trans rfl)) H.b1 ?_;exact dM (s0B _ _  H)
def agZ{w w':World}{row:Option Nat}{b:Nat}(h:w.grownBy w' row)(hb: ∀x,row=some x->x=b):dF (fun x=>x=b) w w':=⟨h.os,h.tape,h.output,h.size,fun i hi hn=>h.block i hi fun e=>hn (hb i e.symm)⟩
def axM{w w':World}{b:Nat}(h:bN w w' b):dF (fun x=>x=b) w w':=⟨h.os,h.tape,h.output,kW h.size.symm,fun i hi hn=>h.block i hn⟩
section
variable {M:Addr->Prop}{N N':Nat->Prop}{w0 W W':World}{h:Host}{cs:Array Value}{j g b kp kl:Nat}{ve vu vs vp vl Dz bG:Value}
def BM.fr(f:dF (fun x=>x=b) W W')(hb:N b\/W.heap.size<=b)(hN: ∀x,N' x->N x\/W.heap.size<=x):bY W (BM M N) W' (BM M N'):=fun p u hc I1=>by
 have hpl:=gR hc;have e:W'.heap[p.block]? =W.heap[p.block]? :=f.block p.block hpl fun e=>hb.elim (fun hb=>I1 (.inr (by show N p.block;rw [e];exact hb))) fun hb=>by omega
 exact ⟨by unfold World.cell? at hc ⊢;rw [e];exact hc,fun h=>h.elim (fun h=>I1 (.inl h)) fun h=>(hN _ h).elim (fun h=>I1 (.inr h)) fun h=>by omega⟩
def CF.bF(H:CF M N w0 W h cs j ve vu vs)(f:dF (fun x=>x=b) W W')(hb:N b\/W.heap.size<=b)(hlo:w0.heap.size+2<=b)(hu: ∀x,vu.ownBlock=some x->x≠b)(hN: ∀x,N' x->N x\/(W.heap.size<=x/\x<W'.heap.size))(iz: ∀x,N x->N' x):CF M N' w0 W' h cs j ve vu vs:=by
 have kp:=BM.fr (M:=M) (N':=N') f hb fun x hx=>(hN x hx).imp id Cd;have b2:=H.b2.lt;exact ⟨⟨f.os.trans H.bl.os,f.tape.trans H.bl.tape,f.output.trans H.bl.output,dq H.bl.size f.size,fun i hi=>(f.block i (dm hi H.bl.size) (by omega)).trans (H.bl.block i hi)⟩,(f.block _ H.b1.lt (by omega)).trans H.b1,(f.block _ H.b2.lt (by omega)).trans H.b2,
  fun x hx=>(hN x hx).elim (fun h=>⟨(H.nw x h).1,dm (H.nw x h).2 f.size⟩) (fun h=>⟨dq H.bl.size h.1,h.2⟩),iz _ H.n1,iz _ H.n2,
  fun hj=>R.keep kp _ _ (H.e hj),fun hj=>⟨(H.u hj).1.keep (fun x hx=>f.block x ((H.u hj).1.lt x hx).2 (hu x hx)) kp fun x hx=>iz x ((H.u hj).1.lt x hx).1,(H.u hj).2⟩,fun hj=>R.keep kp _ _ (H.s hj)⟩
structure LS(M:Addr->Prop)(N:Nat->Prop)(w0 W:World)(h:Host)(cs:Array Value)(ve vu vs:Value)(g kp kl:Nat)(vp vl:Value):Prop where
 cf:CF M N w0 W h cs 3 ve vu vs
 n:N g
 lo:w0.heap.size+2<=g
 ug:vu.ownBlock≠some g
 p:OR M N W 58 6 ((h.parts.take kp).map aE.cells) vp
 pa: ∀x,vp.ownBlock=some x->w0.heap.size+2<=x/\x≠g/\vu.ownBlock≠some x
 l:OR M N W 28 7 ((h.log.take kl).map aE.cells) vl
 la: ∀x,vl.ownBlock=some x->w0.heap.size+2<=x/\x≠g/\vu.ownBlock≠some x/\vp.ownBlock≠some x
def LS.below(H:LS M N w0 W h cs ve vu vs g kp kl vp vl)(hb:Below W.heap.size W W'):LS M N w0 W' h cs ve vu vs g kp kl vp vl :=
 {H with
  cf:=H.cf.below hb (fun x hx=> .inl hx) fun x hx=>hx
  p:=H.p.below hb (fun x hx=> .inl hx) fun x hx=>hx
  l:=H.l.below hb (fun x hx=> .inl hx) fun x hx=>hx}
def LS.one(H:LS M N w0 W h cs ve vu vs g kp kl vp vl)(ob:bN W W' g):LS M N w0 W' h cs ve vu vs g kp kl vp vl :=
 {H with
  cf:=H.cf.bF (axM ob) (.inl H.n) H.lo (fun x hx e=>H.ug (e▸hx)) (fun x hx=> .inl hx) fun x hx=>hx
  p:=H.p.one ob H.n fun e=>(H.pa g e).2.1 rfl
  l:=H.l.one ob H.n fun e=>(H.la g e).2.1 rfl}
def akk{T m:Nat}{rows:List (List D)}{v:Value}(h:OR M N W T m rows v)(hlt:w0.heap.size+2<=W.heap.size)(hw: ∀x,v.ownBlock=some x->w0.heap.size+2<=x): ∃b,(N b\/W.heap.size<=b)/\w0.heap.size+2<=b/\(∀x,v.ownBlock=some x->x=b)/\(v.ownBlock=some b\/b=W.heap.size):=by
 cases e:v.ownBlock with
 | none=>exact ⟨W.heap.size,.inr (bU _),hlt,fun x hx=>(by cases hx),.inr rfl⟩
 | some b=>exact ⟨b,.inl (h.lt b e).1,hw b e,fun x hx=>(by cases hx;rfl),.inl rfl⟩
def LS.axY(H:LS M N w0 W h cs ve vu vs g kp kl vp vl)(hg:W.grownBy W' vp.ownBlock)(o:OR M (fun x=>N x\/Dz.ownBlock=some x) W' 58 6 ((h.parts.take (kp+1)).map aE.cells) Dz)(how:Dz.ownBlock=vp.ownBlock\/Dz.ownBlock=some W.heap.size) :
  LS M (fun x=>N x\/Dz.ownBlock=some x) w0 W' h cs ve vu vs g (kp+1) kl Dz vl:=by
 have h2:=H.cf.b2.lt;obtain ⟨b,hb,ZA,Ft,hbc⟩:=akk H.p (by omega) fun x hx=>(H.pa x hx).1;have f:=agZ hg Ft;have hN: ∀x,(N x\/Dz.ownBlock=some x)->N x\/(W.heap.size<=x/\x<W'.heap.size):=fun x hx=>hx.elim .inl fun e=>by
  rcases how with h1|h1
  ·exact .inl (H.p.lt x (h1▸e)).1
  ·have:=(o.lt x e).2;rw [h1] at e;have:=gh e;exact .inr ⟨by omega,by omega⟩
 have nJ:=(H.cf.u (by decide)).1.lt;have I3: ∀x,vu.ownBlock=some x->x≠b:=fun x hx e=>by
  subst e;rcases hbc with h1|h1
  ·exact (H.pa _ h1).2.2 hx
  ·have:=(nJ x hx).2;omega
 refine ⟨H.cf.bF f hb ZA I3 hN fun x hx=> .inl hx,.inl H.n,H.lo,H.ug,o,fun x hx=> ?_,?_,fun x hx=> ?_⟩
 ·rcases how with h1|h1
  ·exact H.pa x (h1▸hx)
  ·rw [h1] at hx;have e:=gh hx;have hgl:=(H.cf.nw g H.n).2;exact ⟨by omega,by omega,fun hq=>by have:=(nJ x hq).2;omega⟩
 ·exact H.l.keep (fun x hx=>f.block x (H.l.lt x hx).2 fun e=>by
   subst e;rcases hbc with h1|h1
   ·exact (H.la _ hx).2.2.2 h1
   ·have:=(H.l.lt x hx).2;omega) (BM.fr f hb fun x hx=>(hN x hx).imp id Cd) fun x hx=> .inl (H.l.lt x hx).1
 ·obtain ⟨q1,q2,q3,q4⟩:=H.la x hx;refine ⟨q1,q2,q3,fun e=> ?_⟩;rcases how with h1|h1
  ·exact q4 (h1▸e)
  ·rw [h1] at e;have:=gh e;have:=(H.l.lt x hx).2;omega
def LS.Me(H:LS M N w0 W h cs ve vu vs g kp kl vp vl)(hg:W.grownBy W' vl.ownBlock)(o:OR M (fun x=>N x\/bG.ownBlock=some x) W' 28 7 ((h.log.take (kl+1)).map aE.cells) bG)(how:bG.ownBlock=vl.ownBlock\/bG.ownBlock=some W.heap.size) :
  LS M (fun x=>N x\/bG.ownBlock=some x) w0 W' h cs ve vu vs g kp (kl+1) vp bG:=by
 have h2:=H.cf.b2.lt;obtain ⟨b,hb,ZA,Ft,hbc⟩:=akk H.l (by omega) fun x hx=>(H.la x hx).1;have f:=agZ hg Ft;have hN: ∀x,(N x\/bG.ownBlock=some x)->N x\/(W.heap.size<=x/\x<W'.heap.size):=fun x hx=>hx.elim .inl fun e=>by
  rcases how with h1|h1
  ·exact .inl (H.l.lt x (h1▸e)).1
  ·have:=(o.lt x e).2;rw [h1] at e;have:=gh e;exact .inr ⟨by omega,by omega⟩
 have nJ:=(H.cf.u (by decide)).1.lt;have I3: ∀x,vu.ownBlock=some x->x≠b:=fun x hx e=>by
  subst e;rcases hbc with h1|h1
  ·exact (H.la _ h1).2.2.1 hx
  ·have:=(nJ x hx).2;omega
 refine ⟨H.cf.bF f hb ZA I3 hN fun x hx=> .inl hx,.inl H.n,H.lo,H.ug,?_,H.pa,o,fun x hx=> ?_⟩
 ·exact H.p.keep (fun x hx=>f.block x (H.p.lt x hx).2 fun e=>by
   subst e;rcases hbc with h1|h1
   ·exact (H.la _ h1).2.2.2 hx
   ·have:=(H.p.lt x hx).2;omega) (BM.fr f hb fun x hx=>(hN x hx).imp id Cd) fun x hx=> .inl (H.p.lt x hx).1
 ·rcases how with h1|h1
  ·exact H.la x (h1▸hx)
  ·rw [h1] at hx;have e:=gh hx;have hgl:=(H.cf.nw g H.n).2;exact ⟨by omega,by omega,fun hq=>by have:=(nJ x hq).2;omega,fun hq=>by have:=(H.p.lt x hq).2;omega⟩
end
def CM{w:World}{M:Addr->Prop}{h:Host}{v:Value}(hv:R w M (enc h) v): ∃ae ap au aU al,v= .agg (aD ae ap au aU al)/\R w M (ax h.entries) ae/\R w M (ax h.parts) ap/\R w M (ax h.up) au/\R w M (ax h.shut) aU/\R w M (ax h.log) al:=by
 obtain ⟨cs,rfl,v0,r0,e0,h0,v1,r1,rfl,h1,v2,r2,rfl,h2,v3,r3,rfl,h3,v4,r4,rfl,h4,rfl⟩:=hv;have:cs=aD v0 v1 v2 v3 v4:=by rw [<-kJ,e0];rfl
 exact ⟨v0,v1,v2,v3,v4,by rw [this],h0,h1,h2,h3,h4⟩
def UE{α:Type}[Inhabited α]{l:List α}{k:Nat}(h:k<l.length):l.take (k+1)=l.take k++[nth l k]:=by rw [KF,nth,List.getD,cO h];rfl
def RA:xz ay 37=some 6:=by kernel_rfl
def axw:xz ay 38=some 7:=by kernel_rfl
def aas:(ay.info? 28).map (·.size)=some 7:=by kernel_rfl
def uA:n9 ay 40 4=some 4:=by kernel_rfl
def FP:(ay.info? 58).bind (·.zero)=some (.agg #[.string ⟨#[]⟩,.bool false,.bool false,ai,.int .i64 0,ai]):=by kernel_rfl
def aAn:(ay.info? 28).bind (·.zero)=some (.agg #[.int .i64 0,.string ⟨#[]⟩,.string ⟨#[]⟩,.string ⟨#[]⟩,.int .i64 0,.string ⟨#[]⟩,ai]):=by kernel_rfl
def kD{w:World}{M:Addr->Prop}{rows:List (List D)}{v:Value}(h:R w M (.sl rows) v):v.oneCell'=true:=by obtain ⟨a,n,c,rfl,_⟩:=h;rfl
set_option maxHeartbeats 4000000 in
def ad9{M:Addr->Prop}{w:World}{h:Host}{v:Value}(hG:fN w M)(hv:R w M (enc h) v)(hl:h.entries.length<=1048576)(hf: ∀e∈h.entries,e.fit)(nJ:h.up.length<1048576)(hsl:h.shut.length<1048576)(hpl:h.parts.length<1048576)(qP: ∀p∈h.parts,p.core.cells.length<=4294967296/\p.aw.length<=4294967296)(hll:h.log.length<1048576)(hlr: ∀e∈h.log,e.recipe.length<=1048576) :
  Calls ay 48 #[v] w fun e w'=> ∃N ve vp vu vs vl,e= .returned (.agg (aD ve vp vu vs vl))/\HX M N w' h ve vp vs vl/\OR M N w' 9 1 (h.up.map aE.cells) vu/\(∀x,vu.ownBlock=some x-> ¬KV vp vl x)/\(∀x,N x->w.heap.size<=x)/\Below w.heap.size w w':=by
 obtain ⟨ae,ap,au,aU,al,rfl,pu,hap,xD,has,hal⟩:=CM hv;obtain ⟨pa,pc,epv,_,FD⟩:=oW (nL (n:=6) (fun _=>rfl) h.parts) hap;rw [cV] at epv;subst epv;obtain ⟨la,lc,elv,_,ay7⟩:=oW (nL (n:=7) (fun _=>rfl) h.log) hal;rw [cV] at elv;subst elv;refine tj (E:=[(0,.agg (aD ae (.slice pa h.parts.length pc) au aU (.slice la h.log.length lc)))]) Tryz.func48 rfl Tryz.ntmps48 (by simp) (by simp) ?_;refine aT ?_;refine ah uT ?_;refine ah (cY rfl pE) ?_;refine bQ ?_;change CW _ ay _ _ _ ((w.alloc (.cells (aD ae (.slice pa h.parts.length pc) au aU (.slice la h.log.length lc)) 40)).alloc (.cells #[ai,ai,ai,ai,ai] 40));refine CW.sub (E':=[(1,PH w.heap.size),(2,PH (w.heap.size+1))]) ⟨rfl,by simp only [dI];rfl,trivial⟩ ?_;have q2:aC ((w.alloc (.cells (aD ae (.slice pa h.parts.length pc) au aU (.slice la h.log.length lc)) 40)).alloc (.cells #[ai,ai,ai,ai,ai] 40)) w.heap.size 40 (aD ae (.slice pa h.parts.length pc) au aU (.slice la h.log.length lc)):=(aC.new w _ _).alloc _;have q4:aC ((w.alloc (.cells (aD ae (.slice pa h.parts.length pc) au aU (.slice la h.log.length lc)) 40)).alloc (.cells #[ai,ai,ai,ai,ai] 40)) (w.heap.size+1) 40 #[ai,ai,ai,ai,ai]:=by have:=uX (w.alloc (.cells (aD ae (.slice pa h.parts.length pc) au aU (.slice la h.log.length lc)) 40));rw [dI] at this;exact this
 have hb1:Below w.heap.size w ((w.alloc (.cells (aD ae (.slice pa h.parts.length pc) au aU (.slice la h.log.length lc)) 40)).alloc (.cells #[ai,ai,ai,ai,ai] 40)):=bt (eK _ _ _) (eK _ _ _);have hz1:((w.alloc (.cells (aD ae (.slice pa h.parts.length pc) au aU (.slice la h.log.length lc)) 40)).alloc (.cells #[ai,ai,ai,ai,ai] 40)).heap.size=w.heap.size+2:=by simp only [dI]
 generalize (w.alloc (.cells (aD ae (.slice pa h.parts.length pc) au aU (.slice la h.log.length lc)) 40)).alloc (.cells #[ai,ai,ai,ai,ai] 40)=w1 at q2 q4 hb1 hz1 ⊢;have H1:CF M (fun x=>x=w.heap.size\/x=w.heap.size+1) w w1 h (aD ae (.slice pa h.parts.length pc) au aU (.slice la h.log.length lc)) 0 fe fe fe :=
  ⟨hb1,q2,q4,fun x hx=>by rcases hx with hx|hx<;>omega,.inl rfl,.inr rfl,fun hj=>absurd hj (by decide),fun hj=>absurd hj (by decide),fun hj=>absurd hj (by decide)⟩
 refine CW.seq (CW.any (fun W=>aC W w.heap.size 40 (aD ae (.slice pa h.parts.length pc) au aU (.slice la h.log.length lc))) 11 mo fun wd hwd hbd=>⟨q2.below hbd q2.lt,?_⟩);refine aDr (fun _ _ t _ _ h=>by cases t<;>exact h) hG pu xD has hl hf nJ hsl (fun N2 W2 g ve vu vs H2 hg R2 hlo hug=> ?_) _ wd (H1.below hbd (fun x hx=> .inl hx) fun x hx=>hx);clear H1 q2 q4 hb1 hz1 hbd;refine aK ?_;have L2:LS M N2 w W2 h (aD ae (.slice pa h.parts.length pc) au aU (.slice la h.log.length lc)) ve vu vs g 0 0 fe fe:=⟨H2,hg,hlo,hug,by rw [PZ];exact OR.nil,fun x hx=>(by cases hx),by rw [PZ];exact OR.nil,fun x hx=>(by cases hx)⟩;have ou:vu.oneCell'=true:=by obtain ⟨a,c,rfl,_⟩:=(H2.u (by decide)).1.len;rfl
 have oe:ve.oneCell'=true:=kD (show R W2 _ (.sl (h.entries.map aE.cells)) ve from H2.e (by decide));have os:vs.oneCell'=true:=kD (show R W2 _ (.sl (h.shut.map aE.cells)) vs from H2.s (by decide));clear H2 hg;refine CW.seq (aT ?_);refine ah (bD uy) ?_;refine ah (bM rE (v:=(.slice pa h.parts.length pc)) ((L2.cf.b1.cell 1).trans rfl)) ?_;refine ah (Bk rfl rfl rfl rfl rE rfl) ?_;refine ah aN ?_;refine bQ ?_;refine bq (E':=[(1,PH w.heap.size),(2,PH (w.heap.size+1)),(3,PH g),(19,(.slice pa h.parts.length pc)),(20,.int .i64 (h.parts.length:Int)),(21,.int .i64 ((0:Nat):Int))]) ?_;refine CW.block (CW.loop (fun m E' wr=> ∃(k:Nat) (N:Nat->Prop) (vp:Value),m+k=h.parts.length/\E'=[(1,PH w.heap.size),(2,PH (w.heap.size+1)),(3,PH g),(19,(.slice pa h.parts.length pc)),(20,.int .i64 (h.parts.length:Int)),(21,.int .i64 (k:Int))] /\
  LS M N w wr h (aD ae (.slice pa h.parts.length pc) au aU (.slice la h.log.length lc)) ve vu vs g k 0 vp fe/\aC wr g 40 (aD ve vp vu vs fe)) h.parts.length ⟨0,_,fe,rfl,rfl,L2,R2⟩ ?_)
 clear L2 R2;rintro m E' wr ⟨k,N,vp,hmk,rfl,L,q⟩;have SY: ¬N wr.heap.size:=fun h=>by have:=(L.cf.nw _ h).2;omega
 refine aT ?_;rcases vP m with hm0|hm0
 ·subst hm0;obtain rfl:k=h.parts.length:=by omega
  refine ah (jC (b:=false) (hb:=by simp [ba])) ?_;refine WL.nil (aK (CW.seq (CW.no (CW.exit (sQ (sQ (Ed (aK ?_))))))));have oq:=q;refine CW.seq (aT ?_);refine ah (bD uA) ?_;refine ah (bM mY (v:=(.slice la h.log.length lc)) ((L.cf.b1.cell 4).trans rfl)) ?_;refine ah (Bk rfl rfl rfl rfl mY rfl) ?_;refine ah aN ?_;refine bQ ?_;refine bq (E':=[(1,PH w.heap.size),(2,PH (w.heap.size+1)),(3,PH g),(34,(.slice la h.log.length lc)),(35,.int .i64 (h.log.length:Int)),(36,.int .i64 ((0:Nat):Int))]) ?_;refine CW.block (CW.loop (fun m E' wr=> ∃(k:Nat) (N:Nat->Prop) (vl:Value),m+k=h.log.length/\E'=[(1,PH w.heap.size),(2,PH (w.heap.size+1)),(3,PH g),(34,(.slice la h.log.length lc)),(35,.int .i64 (h.log.length:Int)),(36,.int .i64 (k:Int))] /\
   LS M N w wr h (aD ae (.slice pa h.parts.length pc) au aU (.slice la h.log.length lc)) ve vu vs g h.parts.length k vp vl/\aC wr g 40 (aD ve vp vu vs vl)) h.log.length ⟨0,_,fe,rfl,rfl,L,q⟩ ?_)
  clear L q;rintro m E' wr ⟨k,N,vl,hmk,rfl,L,q⟩;have SY: ¬N wr.heap.size:=fun h=>by have:=(L.cf.nw _ h).2;omega
  refine aT ?_;rcases vP m with hm0|hm0
  ·subst hm0;obtain rfl:k=h.log.length:=by omega
   refine ah (jC (b:=false) (hb:=by simp [ba])) ?_;refine WL.nil (aK (CW.seq (CW.no (CW.exit (sQ (sQ (Ed (aK ?_))))))));have ht1:h.parts.take h.parts.length=h.parts:=vO;have yZ:h.log.take h.log.length=h.log:=vO;have op:vp.oneCell'=true:=by obtain ⟨a,c,rfl,_⟩:=L.p.len;rfl
   have ol:vl.oneCell'=true:=by obtain ⟨a,c,rfl,_⟩:=L.l.len;rfl
   have hlo2:=L.lo;refine aT ?_;refine ah (bE cZ q bK) ?_;refine cj rfl (cs:=aD ve vp vu vs vl) rfl L.cf.b2 (by intro u hu;simp [aD] at hu;rcases hu with rfl|rfl|rfl|rfl|rfl<;>assumption) bK fun w9 z5 iq=> ?_;have nb:=L.cf.nw;have CD:=L.cf.n2;have ule:=(L.cf.u (by decide)).1;have ua:=(L.cf.u (by decide)).2;have hsz:=iq.size;have hbl:=L.cf.bl;have hbs:=L.cf.b2.lt;refine WL.nil (aK (CW.ret (WX rfl rfl z5 cZ rfl bK ⟨N,ve,vp,vu,vs,vl,rfl,⟨⟨?_,?_⟩,fun y hy=> ?_,fun y hy=>by rw [hsz];exact (nb y hy).2,gz (L.cf.e (by decide)) iq CD,?_,gz (L.cf.s (by decide)) iq CD,?_,fun y hy e=>(L.la y e).2.2.2 hy,fun y hy=> ?_,fun y hy=> ?_⟩,ule.one iq CD fun e=>by have:=ua _ e;omega,fun y hy hk=>hk.elim (fun e=>(L.pa y e).2.2 hy) fun e=>(L.la y e).2.2.1 hy,fun y hy=>(nb y hy).1,?_⟩)))
   ·exact ((L.cf.cE hG).2.1).keep fun i hi=>iq.block i (by have:=hG.2.2;omega)
   ·rw [hsz];exact (L.cf.cE hG).2.2
   ·rw [hsz];have:=hG.1 y hy;omega
   ·have L':=L.p;rw [ht1] at L';exact L'.one iq CD fun e=>by have:=(L.pa _ e).1;omega
   ·have L':=L.l;rw [yZ] at L';exact L'.one iq CD fun e=>by have:=(L.la _ e).1;omega
   ·have:=(L.pa y hy).1;have:=hG.2.2;omega
   ·have:=(L.la y hy).1;have:=hG.2.2;omega
   ·exact ⟨iq.os.trans hbl.os,iq.tape.trans hbl.tape,iq.output.trans hbl.output,by omega,fun i hi=>(iq.block i (by omega)).trans (hbl.block i hi)⟩
  obtain ⟨m',rfl⟩: ∃m',m=m'+1:=⟨m-1,by omega⟩;have hk:k<h.log.length:=by omega
  refine ah (jC (b:=true) (hb:=by simp [ba];omega)) ?_;refine WL.nil (aK (CW.seq (fq (CW.skip (aK ?_)))));obtain ⟨pb,po,us,rfl,lD,nA,hcell⟩:=ay7 k _ (get_map h.log hk);obtain ⟨x,hx⟩: ∃x,nth h.log k=x:=⟨_,rfl⟩;have hxm:x∈h.log:=by rw [<-hx];exact iC hk
  rw [hx] at nA;have oo:R w M (enc x) (.agg us.toArray):=⟨_,rfl,nA⟩;have yX: ∀(j:Nat) (u:Value),us[j]? =some u->wr.cell? ((⟨pb,po+k*7,none⟩:Addr).add j)=some u:=fun j u hu=>by rw [vK];have hc:=hcell j u hu;rw [L.cf.bl.cell (gR hc)];exact hc
  refine CW.seq (CW.block ?_);refine aT ?_;refine ah (qX hk axw) ?_;refine ah (Dg (cs:=us) rfl rfl Tryz.underlying28 rfl (by rw [lD];exact aas) yX) ?_;refine ah (cY rfl aAn) ?_;obtain ⟨S1,hsv,h1,_⟩:=agB oo;have hsa:us.toArray= #[.int .i64 x.kind,.string x.name,.string x.call.method,.string x.call.key,.int .i64 x.call.val,.string x.call.text,S1]:=by simpa using hsv
  refine cj rfl (cs:=us.toArray) rfl (aC.new wr _ _) (hC:=(by rw [hsa];rfl)) (by rw [hsa];intro u hu;simp at hu;rcases hu with rfl|rfl|rfl|rfl|rfl|rfl|rfl<;>first|rfl|exact kD (show R w _ (.sl _) _ from (by assumption))) (by rw [hsa];exact aas) fun w5 q5 dw=> ?_;have hb5:=HY dw;have L5:=L.below hb5;have q6:=q.below hb5 q.lt;refine bQ ?_;refine bq (E':=[(1,PH w.heap.size),(2,PH (w.heap.size+1)),(3,PH g),(34,(.slice (some ⟨pb,po,none⟩) h.log.length lc)),(35,.int .i64 (h.log.length:Int)),(36,.int .i64 (k:Int)),(7,PH wr.heap.size)]) ?_;clear L q hb5 dw;refine CW.any (fun W=>aC W g 40 (aD ve vp vu vs vl)/\aC W wr.heap.size 28 us.toArray) 7 mo fun w6 hwd hbd=>⟨⟨q6.below hbd q6.lt,q5.below hbd q5.lt⟩,?_⟩;have L6:=L5.below hbd;have q7:=q6.below hbd q6.lt;have q8:=q5.below hbd q5.lt;clear L5 q6 q5 hbd;refine bh 0 rfl (fun W hW=>bD uA) ⟨q7,q8⟩ ?_;refine bh 1 rfl (fun W hW=>bM mY (v:=vl) ((hW.1.cell 4).trans rfl)) ⟨q7,q8⟩ ?_;refine bh 2 rfl (fun W hW=>bE Tryz.underlying28 hW.2 (by rw [hsa];exact aas)) ⟨q7,q8⟩ ?_;refine pO 3 rfl (aH.calls (aH.fD (av2 x (hlr x hxm))) (L6.cf.cE hG) (vs:=[.agg us.toArray]) ⟨_,[],rfl,pF oo L6.cf.bl fun y hy=>(L6.cf.nw y hy).1,rfl⟩) ?_;rintro _ w7 ⟨cv,rfl,hcv,jg⟩;obtain ⟨jM,rfl,h1',_⟩:=agB hcv;have L7:=L6.below jg;have r7:=q7.below jg q7.lt;have r8:=q8.below jg q8.lt;clear L6 q7 q8 jg;refine ⟨_,rfl,fun _=>⟨r7,r8⟩,?_⟩;obtain ⟨ti,aO,hz,hsz,hby⟩:=uq (P:=ay) (e:=28) (z:= .agg #[.int .i64 0,.string ⟨#[]⟩,.string ⟨#[]⟩,.string ⟨#[]⟩,.int .i64 0,.string ⟨#[]⟩,ai]) (size:=7) (bytes:=104) (by kernel_rfl);have cR:=eK w7 #[.int .i64 x.kind,.string x.name,.string x.call.method,.string x.call.key,.int .i64 x.call.val,.string x.call.text,jM] 28;refine jo 4 rfl (Js rfl rfl mY aO hsz hz) (fun _=>⟨r7.below cR r7.lt,r8.below cR r8.lt⟩) ?_;have hnew: ∀(j:Nat) (u:Value),([.int .i64 x.kind,.string x.name,.string x.call.method,.string x.call.key,.int .i64 x.call.val,.string x.call.text,jM])[j]? =some u->(w7.alloc (.cells #[.int .i64 x.kind,.string x.name,.string x.call.method,.string x.call.key,.int .i64 x.call.val,.string x.call.text,jM] 28)).cell? ((⟨w7.heap.size,0,none⟩:Addr).add j)=some u:=fun j u hu=>yJ (w:=w7) (xs:=[.int .i64 x.kind,.string x.name,.string x.call.method,.string x.call.key,.int .i64 x.call.val,.string x.call.text,jM]) (T:=28) j u hu
  generalize w7.alloc (.cells #[.int .i64 x.kind,.string x.name,.string x.call.method,.string x.call.key,.int .i64 x.call.val,.string x.call.text,jM] 28)=w8 at cR hnew ⊢;have L8:=L7.below cR;have s7:=r7.below cR r7.lt;have s8:=r8.below cR r8.lt;have ZD:=R.keep (BM.below (N':=N) cR fun x hx=> .inl hx) _ _ hcv;obtain ⟨ccs,LP,tz⟩:=ZD;have tz:Rs w8 (BM M N) (aE.cells x) ([.int .i64 x.kind,.string x.name,.string x.call.method,.string x.call.key,.int .i64 x.call.val,.string x.call.text,jM]):=by cases LP;exact tz
  have AF:((h.log.take k).map (aE.cells (α:=Event))).length=k:=by rw [cV,lX];omega
  obtain ⟨v',w9,Fq,mL,jU,rR⟩:=or_append (P:=ay) (ty:=38) (c:=1) (a:=⟨w7.heap.size,0,none⟩) mY aO hz hsz hby rfl (by decide) L8.l (fun y hy=>(L8.cf.nw y hy).2) (r:=aE.cells x) (us:=[.int .i64 x.kind,.string x.name,.string x.call.method,.string x.call.key,.int .i64 x.call.val,.string x.call.text,jM]) rfl rfl (fun j d hj=>tz.get hj) hnew (by intro u hu;simp at hu;rcases hu with rfl|rfl|rfl|rfl|rfl|rfl|rfl<;>first|rfl|exact kD (show R w8 _ (.sl _) _ from R.keep (BM.below (N':=N) cR fun x hx=> .inl hx) _ _ (by assumption))) (by rw [AF];omega) (by decide);have mL:OR M (fun y=>N y\/v'.ownBlock=some y) w9 28 7 ((h.log.take (k+1)).map aE.cells) v':=by rw [UE hk,hx,uj];exact mL
  have ov':v'.oneCell'=true:=by obtain ⟨a,c,rfl,_⟩:=mL.len;rfl
  have L9:=L8.Me jU mL rR;have ZS:some g≠vl.ownBlock:=fun e=>(L8.la g e.symm).2.1 rfl;have s9:=s7.grown jU ZS;have aal:some wr.heap.size≠vl.ownBlock:=fun e=>by have h1:=(L8.l.lt _ e.symm).1;exact SY h1
  have s10:=s8.grown jU aal;refine jo 5 rfl (uS rfl rfl rfl Fq) (fun _=>⟨s9,s10⟩) ?_;refine jo 6 rfl (bD uA) (fun _=>⟨s9,s10⟩) ?_;refine D3 7 rfl (by kernel_rfl) rfl rfl (qg rfl rfl rfl (by kernel_rfl) ov' ((s9.cell 4).trans rfl) (s9.frozen 4)) (fun h=>absurd rfl h) ?_;refine jd (by kernel_rfl) ?_;have z9:aC (w9.setCell ⟨g,0+4,none⟩ v') g 40 (aD ve vp vu vs v'):=s9.sr 4 v';have iq:bN w9 (w9.setCell ⟨g,0+4,none⟩ v') g:=(bN.refl w9 g).set (0+4) v';have WV:=L9.one iq;refine vG (aK (CW.region ?_));refine ah (jB (r:=((k+1:Nat):Int)) (hb:=by rw [bW];omega)) ?_;refine ah aN ?_;exact WL.nil (NX.again m' [(1,PH w.heap.size),(2,PH (w.heap.size+1)),(3,PH g),(34,(.slice (some ⟨pb,po,none⟩) h.log.length lc)),(35,.int .i64 (h.log.length:Int)),(36,.int .i64 ((k+1:Nat):Int))] (by omega) ⟨rfl,rfl,rfl,rfl,rfl,rfl,trivial⟩ ⟨k+1,_,v',by omega,rfl,WV,z9⟩)
 obtain ⟨m',rfl⟩: ∃m',m=m'+1:=⟨m-1,by omega⟩;have hk:k<h.parts.length:=by omega
 refine ah (jC (b:=true) (hb:=by simp [ba];omega)) ?_;refine WL.nil (aK (CW.seq (fq (CW.skip (aK ?_)))));obtain ⟨pb,po,us,rfl,lD,nA,hcell⟩:=FD k _ (get_map h.parts hk);obtain ⟨x,hx⟩: ∃x,nth h.parts k=x:=⟨_,rfl⟩;have hxm:x∈h.parts:=by rw [<-hx];exact iC hk
 rw [hx] at nA;have oo:R w M (enc x) (.agg us.toArray):=⟨_,rfl,nA⟩;have yX: ∀(j:Nat) (u:Value),us[j]? =some u->wr.cell? ((⟨pb,po+k*6,none⟩:Addr).add j)=some u:=fun j u hu=>by rw [vK];have hc:=hcell j u hu;rw [L.cf.bl.cell (gR hc)];exact hc
 refine CW.seq (CW.block ?_);refine aT ?_;refine ah (qX hk RA) ?_;refine ah (Dg (cs:=us) rfl rfl dc rfl (by rw [lD];exact mO) yX) ?_;refine ah (cY rfl FP) ?_;obtain ⟨S1,S2,hsv,h1,h2,_⟩:=De oo;have hsa:us.toArray= #[.string x.core.kind,.bool x.core.on,.bool x.core.broken,S1,.int .i64 x.core.count,S2]:=by simpa using hsv
 refine cj rfl (cs:=us.toArray) rfl (aC.new wr _ _) (hC:=(by rw [hsa];rfl)) (by rw [hsa];intro u hu;simp at hu;rcases hu with rfl|rfl|rfl|rfl|rfl|rfl<;>first|rfl|exact kD (show R w _ (.sl _) _ from (by assumption))) (by rw [hsa];exact mO) fun w5 q5 dw=> ?_;have hb5:=HY dw;have L5:=L.below hb5;have q6:=q.below hb5 q.lt;refine bQ ?_;refine bq (E':=[(1,PH w.heap.size),(2,PH (w.heap.size+1)),(3,PH g),(19,(.slice (some ⟨pb,po,none⟩) h.parts.length pc)),(20,.int .i64 (h.parts.length:Int)),(21,.int .i64 (k:Int)),(5,PH wr.heap.size)]) ?_;clear L q hb5 dw;refine CW.any (fun W=>aC W g 40 (aD ve vp vu vs fe)/\aC W wr.heap.size 58 us.toArray) 7 mo fun w6 hwd hbd=>⟨⟨q6.below hbd q6.lt,q5.below hbd q5.lt⟩,?_⟩;have L6:=L5.below hbd;have q7:=q6.below hbd q6.lt;have q8:=q5.below hbd q5.lt;clear L5 q6 q5 hbd;refine bh 0 rfl (fun W hW=>bD uy) ⟨q7,q8⟩ ?_;refine bh 1 rfl (fun W hW=>bM rE (v:=vp) ((hW.1.cell 1).trans rfl)) ⟨q7,q8⟩ ?_;refine bh 2 rfl (fun W hW=>bE dc hW.2 (by rw [hsa];exact mO)) ⟨q7,q8⟩ ?_;refine pO 3 rfl (aH.calls (aH.fD (Yf x (qP x hxm).1 (qP x hxm).2)) (L6.cf.cE hG) (vs:=[.agg us.toArray]) ⟨_,[],rfl,pF oo L6.cf.bl fun y hy=>(L6.cf.nw y hy).1,rfl⟩) ?_;rintro _ w7 ⟨cv,rfl,hcv,jg⟩;obtain ⟨jM,Eo,rfl,h1',h2',_⟩:=De hcv;have L7:=L6.below jg;have r7:=q7.below jg q7.lt;have r8:=q8.below jg q8.lt;clear L6 q7 q8 jg;refine ⟨_,rfl,fun _=>⟨r7,r8⟩,?_⟩;obtain ⟨ti,aO,hz,hsz,hby⟩:=uq (P:=ay) (e:=58) (z:= .agg #[.string ⟨#[]⟩,.bool false,.bool false,ai,.int .i64 0,ai]) (size:=6) (bytes:=80) (by kernel_rfl);have cR:=eK w7 #[.string x.core.kind,.bool x.core.on,.bool x.core.broken,jM,.int .i64 x.core.count,Eo] 58;refine jo 4 rfl (aC8 rfl rfl rE aO hsz hz) (fun _=>⟨r7.below cR r7.lt,r8.below cR r8.lt⟩) ?_;have hnew: ∀(j:Nat) (u:Value),([.string x.core.kind,.bool x.core.on,.bool x.core.broken,jM,.int .i64 x.core.count,Eo])[j]? =some u->(w7.alloc (.cells #[.string x.core.kind,.bool x.core.on,.bool x.core.broken,jM,.int .i64 x.core.count,Eo] 58)).cell? ((⟨w7.heap.size,0,none⟩:Addr).add j)=some u:=fun j u hu=>yJ (w:=w7) (xs:=[.string x.core.kind,.bool x.core.on,.bool x.core.broken,jM,.int .i64 x.core.count,Eo]) (T:=58) j u hu
 generalize w7.alloc (.cells #[.string x.core.kind,.bool x.core.on,.bool x.core.broken,jM,.int .i64 x.core.count,Eo] 58)=w8 at cR hnew ⊢;have L8:=L7.below cR;have s7:=r7.below cR r7.lt;have s8:=r8.below cR r8.lt;have ZD:=R.keep (BM.below (N':=N) cR fun x hx=> .inl hx) _ _ hcv;obtain ⟨ccs,LP,tz⟩:=ZD;have tz:Rs w8 (BM M N) (aE.cells x) ([.string x.core.kind,.bool x.core.on,.bool x.core.broken,jM,.int .i64 x.core.count,Eo]):=by cases LP;exact tz
 have AF:((h.parts.take k).map (aE.cells (α:=Part))).length=k:=by rw [cV,lX];omega
 obtain ⟨v',w9,Fq,mL,jU,rR⟩:=or_append (P:=ay) (ty:=37) (c:=1) (a:=⟨w7.heap.size,0,none⟩) rE aO hz hsz hby rfl (by decide) L8.p (fun y hy=>(L8.cf.nw y hy).2) (r:=aE.cells x) (us:=[.string x.core.kind,.bool x.core.on,.bool x.core.broken,jM,.int .i64 x.core.count,Eo]) rfl rfl (fun j d hj=>tz.get hj) hnew (by intro u hu;simp at hu;rcases hu with rfl|rfl|rfl|rfl|rfl|rfl<;>first|rfl|exact kD (show R w8 _ (.sl _) _ from R.keep (BM.below (N':=N) cR fun x hx=> .inl hx) _ _ (by assumption))) (by rw [AF];omega) (by decide);have mL:OR M (fun y=>N y\/v'.ownBlock=some y) w9 58 6 ((h.parts.take (k+1)).map aE.cells) v':=by rw [UE hk,hx,uj];exact mL
 have ov':v'.oneCell'=true:=by obtain ⟨a,c,rfl,_⟩:=mL.len;rfl
 have L9:=L8.axY jU mL rR;have ZS:some g≠vp.ownBlock:=fun e=>(L8.pa g e.symm).2.1 rfl;have s9:=s7.grown jU ZS;have aal:some wr.heap.size≠vp.ownBlock:=fun e=>by have h1:=(L8.p.lt _ e.symm).1;exact SY h1
 have s10:=s8.grown jU aal;refine jo 5 rfl (uS rfl rfl rfl Fq) (fun _=>⟨s9,s10⟩) ?_;refine jo 6 rfl (bD uy) (fun _=>⟨s9,s10⟩) ?_;refine D3 7 rfl (by kernel_rfl) rfl rfl (qg rfl rfl rfl (by kernel_rfl) ov' ((s9.cell 1).trans rfl) (s9.frozen 1)) (fun h=>absurd rfl h) ?_;refine jd (by kernel_rfl) ?_;have z9:aC (w9.setCell ⟨g,0+1,none⟩ v') g 40 (aD ve v' vu vs fe):=s9.sr 1 v';have iq:bN w9 (w9.setCell ⟨g,0+1,none⟩ v') g:=(bN.refl w9 g).set (0+1) v';have WV:=L9.one iq;refine vG (aK (CW.region ?_));refine ah (jB (r:=((k+1:Nat):Int)) (hb:=by rw [bW];omega)) ?_;refine ah aN ?_;exact WL.nil (NX.again m' [(1,PH w.heap.size),(2,PH (w.heap.size+1)),(3,PH g),(19,(.slice (some ⟨pb,po,none⟩) h.parts.length pc)),(20,.int .i64 (h.parts.length:Int)),(21,.int .i64 ((k+1:Nat):Int))] (by omega) ⟨rfl,rfl,rfl,rfl,rfl,rfl,trivial⟩ ⟨k+1,_,v',by omega,rfl,WV,z9⟩)
structure qv(h:Host):Prop where
 el:h.entries.length<=1048576
 ef: ∀e∈h.entries,e.fit
 ul:h.up.length<=1000000
 sl:h.shut.length<1048576
 pl:h.parts.length<1048576
 pc: ∀p∈h.parts,p.core.cells.length<=4294967296/\p.aw.length<=1048576
 ll:h.log.length<1048576
 lr: ∀e∈h.log,e.recipe.length<=1048576
def qv.isH{h:Host}(H:qv h): ∀i,i<h.parts.length->(nth h.parts i).aw.length<=1048576:=fun i hi=>(H.pc _ (iC hi)).2
def LF(h:Host)(s:ByteArray)(hh:qv h):aH ay 49 none [enc h,.str s] (.bool (iP h s)) []:=by
 refine cB aoI aHx ⟨vg h,trivial,trivial⟩ fun hfit=> ?_;unfold aoI;have qa:h.up.length<=4294967296:=dq hh.ul (by decide);refine aF (avB h hh.el hh.isH qa) ?_;refine vX (r:= .int .i64 (dN h.entries s)) (xs:=[ax h.entries,.str s]) ?_ (fun hg=>pZ h.entries s) rfl ?_
 ·simp only [eS,bB]
 refine az ?_;simp only [eS,bB];unfold iP;rcases Kx (dN h.entries s) 0 with h1|h1
 ·simp [h1,Int.not_le.2 h1]
 ·simp [Int.not_lt.2 h1,h1,ax];congr 1;simp only [decide_eq_decide];omega
def Jn(p:Part):Prop:=p.core.cells.length<=4/\p.aw.length<=3
def C9{p:Part}(h:di p=true):Jn p:=by obtain ⟨h1,h2,_⟩:=oF.1 h;exact ⟨xy (qH.1 h1).2.1,h2⟩
def Uk{p:Part}(h:di p=true)(m:ByteArray):di (rl p m)=true:=by
 unfold rl;split
 ·exact (LH h _).1
 ·exact h
def tF{h:Host}(H:sP h): ∀p∈h.parts,di p=true:=fun p hp=>by obtain ⟨i,hi,rfl⟩:=KD.1 hp;have:=H.prt i (by rw [<-H.len];exact hi);unfold partAt at this;simp only [aP] at this;have h1:=this.1;rw [nth,List.getD,cO hi] at h1;exact h1
def L3{h:Host}(hp: ∀p∈h.parts,di p=true)(hk: ∀x∈h.up,cL h x<h.parts.length)(d:List ByteArray): ∀j,j<=h.up.length-> ∀p∈(gm h d j).1,di p=true
 | 0,_=>hp
 | j+1,hj=>by
  have ih:=L3 hp hk d j (by omega);have hl:=(ID h d j).1;unfold gm;simp only;split
  ·intro p hpm;rcases sU hpm with h1|h1
   ·exact ih p h1
   ·rw [h1];refine Uk (ih _ (iC ?_)) _;rw [hl];exact hk _ (iC (by omega))
  ·exact ih
def UU{h:Host}(H:sP h): ∀x∈h.up,0<=dN h.entries x/\cL h x<h.parts.length:=fun x hx=>by
 obtain ⟨j,hj,rfl⟩:=KD.1 hx;have hu:=H.zE;unfold zC at hu;have h1:=mD.1 hu j hj;have hn:nth h.up j=h.up[j]:=by rw [nth,List.getD,cO hj];rfl
 unfold Gr at h1;rw [hn] at h1;split at h1
 ·cases h1
 ·rename_i k hk;have hf:dN h.entries h.up[j]=(k:Int):=by unfold dN;rw [hk]
  obtain ⟨i,h2,h3,_⟩:=yO (l:=h.entries) (s:=h.up[j]) (by rw [hf];omega);refine ⟨by rw [hf];omega,?_⟩;unfold cL;rw [h2,H.len];simpa using h3
section
variable {M:Addr->Prop}{B N N':Nat->Prop}{w w':World}{h:Host}{ve vp vu vs vl bG:Value}{T m:Nat}{rows:List (List D)}{v:Value}{d:D}{e:Event}
def XW(h:R w (BM (BM M B) N) d v):R w (BM M fun x=>N x\/B x) d v:=R.less h fun q hq=>by
 rcases hq with hq|hq|hq
 ·exact .inl (.inl hq)
 ·exact .inr hq
 ·exact .inl (.inr hq)
def OR.shift(h:OR (BM M B) N w T m rows v):OR M (fun x=>N x\/B x) w T m rows v:=by obtain ⟨hn,xs,h1,h2,h3⟩:=h;refine ⟨hn,xs,h1,fun x hx=> .inl (h2 x hx),fun i j r d hi hj=> ?_⟩;obtain ⟨u,q1,q2,q3⟩:=h3 i j r d hi hj;exact ⟨u,q1,q2,XW q3⟩
def HX.shift(H:HX (BM M B) N w h ve vp vs vl)(hB: ∀x,B x->x<w.heap.size):HX M (fun x=>N x\/B x) w h ve vp vs vl :=
 ⟨H.gi,fun q hq=>H.mb q (.inl hq),fun x hx=>hx.elim (H.nb x) (hB x),XW H.e,H.p.shift,XW H.s,H.l.shift,H.pl,H.gp,H.gl⟩
def Ab(h:R w (BM M N) d v):R w M d v:=R.less h fun q hq=> .inl hq
def HX.done(H:HX M N w h ve vp vs vl)(hu:R w M (ax h.up) vu)(hN: ∀x,KV vp vl x-> ∀o,¬M ⟨x,o,none⟩):R w M (enc h) (.agg (aD ve vp vu vs vl)):=by
 refine ⟨_,rfl,_,_,rfl,Ab H.e,_,_,rfl,?_,_,_,rfl,hu,_,_,rfl,Ab H.s,_,_,rfl,?_,rfl⟩
 ·exact Ab (H.p.xV (N':=fun _=>False) (fun _ h=>h.elim) fun x hx=>⟨id,hN x (.inl hx)⟩)
 ·exact Ab (H.l.xV (N':=fun _=>False) (fun _ h=>h.elim) fun x hx=>⟨id,hN x (.inr hx)⟩)
def HX.Me(H:HX M N w h ve vp vs vl)(hg:w.grownBy w' vl.ownBlock)(hO:OR M (fun x=>N x\/bG.ownBlock=some x) w' 28 7 ((h.log++[e]).map aE.cells) bG)(how:bG.ownBlock=vl.ownBlock\/bG.ownBlock=some w.heap.size) :
  HX M (fun x=>N x\/bG.ownBlock=some x) w' (tI h e) ve vp vs bG:=by
 have hN: ∀x,(N x\/bG.ownBlock=some x)->N x\/w.heap.size<=x:=fun x hx=>hx.elim .inl fun e=>by
  rcases how with h1|h1
  ·exact .inl (H.l.lt x (h1▸e)).1
  ·rw [h1] at e;have:=gh e;exact .inr (by omega)
 have kp:bY w (BM M N) w' (BM M fun x=>N x\/bG.ownBlock=some x):=fun p u hc hn=>by have hpl:=gR hc;have hb:w'.heap[p.block]? =w.heap[p.block]? :=hg.block p.block hpl fun e=>hn (.inr (H.l.lt _ e.symm).1);exact ⟨by unfold World.cell? at hc ⊢;rw [hb];exact hc,fun h=>h.elim (fun h=>hn (.inl h)) fun h=>(hN _ h).elim (fun h=>hn (.inr h)) fun h=>by omega⟩
 exact ⟨⟨H.gi.1.keep fun k hk=>hg.block k (dm hk H.gi.2) fun e=>by have:=H.gl _ e.symm;omega,dq H.gi.2 hg.size⟩,fun q hq=>dm (H.mb q hq) hg.size,
  fun x hx=>hx.elim (fun hx=>dm (H.nb x hx) hg.size) fun hx=>(hO.lt x hx).2,R.keep kp _ _ H.e,
  H.p.keep (fun x hx=>hg.block x (H.p.lt x hx).2 fun e=>H.pl x hx e.symm) kp fun x hx=> .inl (H.p.lt x hx).1,R.keep kp _ _ H.s,hO,
  fun x hx e=>by
   rcases how with h1|h1
   ·exact H.pl x hx (h1▸e)
   ·rw [h1] at e;have:=gh e;have:=(H.p.lt x hx).2;omega,
  H.gp,fun x hx=>by
   rcases how with h1|h1
   ·exact H.gl x (h1▸hx)
   ·rw [h1] at hx;have:=gh hx;have:=H.gi.2;omega⟩
end
def YV{w:World}{M:Addr->Prop}{k:Int}{s:ByteArray}(hk:IntKind.i64.min<=k/\k<=IntKind.i64.max)(hs:s.size<=maxLen):Rs w M (aE.cells (nZ k s)) [.int .i64 k,.string s,.string ⟨#[]⟩,.string ⟨#[]⟩,.int .i64 0,.string ⟨#[]⟩,ai]:=by
 have e0:(⟨#[]⟩:ByteArray).size<=maxLen:=by decide
 have i0:IntKind.i64.min<=(0:Int)/\(0:Int)<=IntKind.i64.max:=by decide
 exact ⟨_,_,rfl,⟨rfl,hk⟩,_,_,rfl,⟨rfl,hs⟩,_,_,rfl,⟨rfl,e0⟩,_,_,rfl,⟨rfl,e0⟩,_,_,rfl,⟨rfl,i0⟩,_,_,rfl,⟨rfl,e0⟩,_,_,rfl,⟨none,0,0,rfl,rfl,bU _,fX _,fun _=>rfl,fun b o s h=>by cases h⟩,rfl⟩
def XZ(k:Int)(s:ByteArray):tg ay 28 [(0,.int .i64 k),(1,.string s)]=some #[.int .i64 k,.string s,.string ⟨#[]⟩,.string ⟨#[]⟩,.int .i64 0,.string ⟨#[]⟩,ai]:=by kernel_rfl
def aDC{P:Program}{fn:Func}{p u:Tmp}{ty:TypeId}(h:fn.results= #[.cell p ty,.tmp u])(tmps:Array Value)(w:World){g:Nat}{t:TypeId}{cs:Array Value}(d:TypeDesc)
  (hp:tmps.getD p undef=PH g) (hg:aC w g t cs) (hu:P.underlying ty=some d) (hd:(match d with| .struct _| .array _ _=>true|_=>false)=true) (hi:(P.info? ty).map (·.size)=some cs.size) :
  (results fn tmps).run P w= .ok (.tuple #[.agg cs,tmps.getD u undef]) w:=by
 have hp':tmps[p]?.getD undef=PH g:=by simpa using hp
 simp [results,h,hp',asAddr,Hz w g t ty cs (0,0) d hg hu hd hi,lK,Result.andThen]
def tZ{n:Nat}{P:Program}{E:List (Nat×Value)}{w:World}{fn:Func}{R:Ending->World->Prop}{p u:Tmp}{ty:TypeId}{g:Nat}{t:TypeId}{cs:Array Value}{d:TypeDesc}{v:Value}(h:fn.results= #[.cell p ty,.tmp u])(hp:lk E p=some (PH g))(hv:lk E u=some v)
  (hg:aC w g t cs) (hu:P.underlying ty=some d) (hd:(match d with| .struct _| .array _ _=>true|_=>false)=true) (hi:(P.info? ty).map (·.size)=some cs.size) (hR:R (.returned (.tuple #[.agg cs,v])) w):NX n (bodyPost P fn R .ret) E w :=
 fun a hE=>⟨hE.df,_,aDC h a.tmps w d (hE.at' p _ hp) hg hu hd hi,by rw [hE.at' u _ hv];exact hR⟩
def HX.Zd{M:Addr->Prop}{N:Nat->Prop}{w w':World}{h:Host}{ve vp vs vl bG v:Value}{rows:List (List D)}{d:D}(H:HX M N w h ve vp vs vl)(hg:w.grownBy w' vl.ownBlock)(hO:OR M (fun x=>N x\/bG.ownBlock=some x) w' 28 7 rows bG)(how:bG.ownBlock=vl.ownBlock\/bG.ownBlock=some w.heap.size)(hr:R w (BM M N) d v):R w' (BM M fun x=>N x\/bG.ownBlock=some x) d v:=by
 have hN: ∀x,(N x\/bG.ownBlock=some x)->N x\/w.heap.size<=x:=fun x hx=>hx.elim .inl fun e=>by
  rcases how with h1|h1
  ·exact .inl (H.l.lt x (h1▸e)).1
  ·rw [h1] at e;have:=gh e;exact .inr (by omega)
 exact R.keep (fun p u hc hn=>by have hpl:=gR hc;have hb:w'.heap[p.block]? =w.heap[p.block]? :=hg.block p.block hpl fun e=>hn (.inr (H.l.lt _ e.symm).1);exact ⟨by unfold World.cell? at hc ⊢;rw [hb];exact hc,fun h=>h.elim (fun h=>hn (.inl h)) fun h=>(hN _ h).elim (fun h=>hn (.inr h)) fun h=>by omega⟩) _ _ hr
structure SB(L:Nat)(bx:List (Nat×TypeId×Array Value))(M:Addr->Prop)(N:Nat->Prop)(w W:World)(b6:Nat)(g:Host)(ve vp vu vs vl:Value):Prop where
 H:HX M N W g ve vp vs vl
 U:R W (BM M N) (ax g.up) vu
 bx: ∀x∈bx,x.1<L/\aC W (w.heap.size+x.1) x.2.1 x.2.2
 q6:aC W b6 40 (aD ve vp vu vs vl)
 bw:Below w.heap.size w W
 nb: ∀k,k<L->N (w.heap.size+k)
 n6:N b6
 nw: ∀x,N x->w.heap.size<=x
 lo:w.heap.size+L<=b6
 kv: ∀x,KV vp vl x->w.heap.size+L<=x/\x≠b6
section
variable {L:Nat}{bx:List (Nat×TypeId×Array Value)}{M:Addr->Prop}{N N':Nat->Prop}{w W W' W'':World}{b6:Nat}{g g':Host}{ve vp vu vs vl ve' Dz dr vs' bG:Value}{T0 T1 T2 T3:TypeId}{c0 c1 c2 c3:Array Value}
def SB.b0(S:SB L ((0,T0,c0)::bx) M N w W b6 g ve vp vu vs vl):aC W w.heap.size T0 c0:=(S.bx _ (.head _)).2
def SB.b1(S:SB L ((0,T0,c0)::(1,T1,c1)::bx) M N w W b6 g ve vp vu vs vl):aC W (w.heap.size+1) T1 c1:=(S.bx _ (.tail _ (.head _))).2
def SB.b2(S:SB L ((0,T0,c0)::(1,T1,c1)::(2,T2,c2)::bx) M N w W b6 g ve vp vu vs vl):aC W (w.heap.size+2) T2 c2:=(S.bx _ (.tail _ (.tail _ (.head _)))).2
def SB.b3(S:SB L ((0,T0,c0)::(1,T1,c1)::(2,T2,c2)::(3,T3,c3)::bx) M N w W b6 g ve vp vu vs vl):aC W (w.heap.size+3) T3 c3:=(S.bx _ (.tail _ (.tail _ (.tail _ (.head _))))).2
def SB.below(S:SB L bx M N w W b6 g ve vp vu vs vl)(hb:Below W.heap.size W W'):SB L bx M N w W' b6 g ve vp vu vs vl :=
 {S with
  H:=S.H.below hb
  U:=da S.U hb fun x hx=> .inl hx
  bx:=fun x hx=>⟨(S.bx x hx).1,(S.bx x hx).2.below hb (S.bx x hx).2.lt⟩
  q6:=S.q6.below hb S.q6.lt
  bw:=bt S.bw hb}
def SB.new(S:SB L bx M N w W b6 g ve vp vu vs vl)(hb:Below W.heap.size W W')(hN: ∀x,N' x->N x\/W.heap.size<=x)(iz: ∀x,N x->N' x)(yT: ∀x,N' x->x<W'.heap.size):SB L bx M N' w W' b6 g ve vp vu vs vl :=
 ⟨S.H.new hb hN iz yT,da S.U hb hN,fun x hx=>⟨(S.bx x hx).1,(S.bx x hx).2.below hb (S.bx x hx).2.lt⟩,S.q6.below hb S.q6.lt,bt S.bw hb,fun k hk=>iz _ (S.nb k hk),iz _ S.n6,fun x hx=>(hN x hx).elim (S.nw x) fun h=>dq S.bw.size h,S.lo,S.kv⟩
def SB.K4{b:Nat}(S:SB L bx M N w W b6 g ve vp vu vs vl)(o:bN W W' b)(hlo:w.heap.size<=b):Below w.heap.size w W' :=
 ⟨o.os.trans S.bw.os,o.tape.trans S.bw.tape,o.output.trans S.bw.output,by rw [o.size];exact S.bw.size,fun i hi=>(o.block i (by omega)).trans (S.bw.block i hi)⟩
def SB.X3{b:Nat}(S:SB L bx M N w W b6 g ve vp vu vs vl)(o:bN W W' b)(hlo:w.heap.size+L<=b): ∀x∈bx,x.1<L/\aC W' (w.heap.size+x.1) x.2.1 x.2.2:=fun x hx=>⟨(S.bx x hx).1,(o.block _ (by have:=(S.bx x hx).1;omega)).trans (S.bx x hx).2⟩
def SB.wr{b:Nat}(S:SB L bx M N w W b6 g ve vp vu vs vl)(hG:fN w M)(o:bN W W' b)(hn:N b)(hk: ¬KV vp vl b)(hlo:w.heap.size+L<=b)(h6:b≠b6):SB L bx M N w W' b6 g ve vp vu vs vl:=by
 have hg:=hG.2.2;exact {S with
  H:=S.H.one o hn hk (by omega)
  U:=gz S.U o hn
  bx:=S.X3 o hlo
  q6:=(o.block _ (zY h6)).trans S.q6
  bw:=S.K4 o (by omega)}
def SB.part{b cap i:Nat}{p:Part}(S:SB L bx M N w W b6 g ve (.slice (some ⟨b,0,none⟩) g.parts.length cap) vu vs vl)(hp:OR M N W' 58 6 ((g.parts.map aE.cells).set i (aE.cells p)) (.slice (some ⟨b,0,none⟩) g.parts.length cap))(o:bN W W' b):SB L bx M N w W' b6 {g with parts:=g.parts.set i p} ve (.slice (some ⟨b,0,none⟩) g.parts.length cap) vu vs vl:=by
 have hk:=S.kv b (.inl rfl);exact {S with
  H:=S.H.part hp o
  U:=gz S.U o (S.H.p.lt b rfl).1
  bx:=S.X3 o hk.1
  q6:=(o.block _ (zY hk.2)).trans S.q6
  bw:=S.K4 o (by omega)}
def SB.box(S:SB L bx M N w W b6 g ve vp vu vs vl)(hG:fN w M)(o:bN W W' b6)(h1: ∀x,N' x->N x)(h2: ∀x,KV vp vl x->N' x)(h3: ∀k,k<L->N' (w.heap.size+k))(h6:N' b6)(hep:g'.parts=g.parts/\g'.log=g.log)(he:R W (BM M N') (ax g'.entries) ve')(hu:R W (BM M N') (ax g'.up) dr)(hs:R W (BM M N') (ax g'.shut) vs')(q:aC W' b6 40 (aD ve' vp dr vs' vl)) :
  SB L bx M N' w W' b6 g' ve' vp dr vs' vl:=by
 have uD:NG<=b6:=by have:=S.lo;have:=hG.2.2;omega
 have H:=(S.H.less h1 h2).one o h6 (fun hk=>(S.kv _ hk).2 rfl) uD;exact ⟨⟨H.gi,H.mb,H.nb,gz he o h6,hep.1▸H.p,gz hs o h6,hep.2▸H.l,H.pl,H.gp,H.gl⟩,gz hu o h6,S.X3 o S.lo,q,S.K4 o (by have:=S.lo;omega),h3,h6,fun x hx=>S.nw x (h1 x hx),S.lo,S.kv⟩
def SB.grow{row:Option Nat}(S:SB L bx M N w W b6 g ve vp vu vs vl)(hG:fN w M)(hg:W.grownBy W' row)(hr: ∀x,row=some x->N x/\ ¬KV vp vl x/\w.heap.size+L<=x/\x≠b6)(hN: ∀x,N' x->N x\/W.heap.size<=x)(iz: ∀x,N x->N' x)(yT: ∀x,N' x->x<W'.heap.size):SB L bx M N' w W' b6 g ve vp vu vs vl:=by
 have hb:=S.bw;refine ⟨S.H.grow hg (fun x hx=>⟨(hr x hx).1,(hr x hx).2.1,by have:=(hr x hx).2.2.1;have:=hG.2.2;omega⟩) hN iz yT,?_,fun x hx=>⟨(S.bx x hx).1,(S.bx x hx).2.grown hg fun e=>by have:=(hr _ e.symm).2.2.1;have:=(S.bx x hx).1;omega⟩,S.q6.grown hg fun e=>(hr _ e.symm).2.2.2 rfl,
  ⟨hg.os.trans hb.os,hg.tape.trans hb.tape,hg.output.trans hb.output,dq hb.size hg.size,fun i hi=>(hg.block i (dm hi hb.size) fun e=>by have:=(hr _ e.symm).2.2.1;omega).trans (hb.block i hi)⟩,fun k hk=>iz _ (S.nb k hk),iz _ S.n6,fun x hx=>(hN x hx).elim (S.nw x) fun h=>dq hb.size h,S.lo,S.kv⟩
 exact R.keep (fun p u hc hn=>by have hpl:=gR hc;have e:W'.heap[p.block]? =W.heap[p.block]? :=hg.block p.block hpl fun e=>hn (.inr (hr _ e.symm).1);exact ⟨by unfold World.cell? at hc ⊢;rw [e];exact hc,fun h=>h.elim (fun h=>hn (.inl h)) fun h=>(hN _ h).elim (fun h=>hn (.inr h)) fun h=>by omega⟩) _ _ S.U
def SB.one(S:SB L bx M N w W b6 g ve vp vu vs vl): ∀u∈(aD ve vp vu vs vl).toList,u.oneCell'=true:=fun u hu=>by
 have op:vp.oneCell'=true:=by obtain ⟨a,c,rfl,_⟩:=S.H.p.len;rfl
 have ol:vl.oneCell'=true:=by obtain ⟨a,c,rfl,_⟩:=S.H.l.len;rfl
 have oe:ve.oneCell'=true:=kD (show R W _ (.sl (g.entries.map aE.cells)) ve from S.H.e);have os:vs.oneCell'=true:=kD (show R W _ (.sl (g.shut.map aE.cells)) vs from S.H.s);have ou:vu.oneCell'=true:=kD (show R W _ (.sl (g.up.map aE.cells)) vu from S.U);simp [aD] at hu;rcases hu with rfl|rfl|rfl|rfl|rfl<;>assumption
def SB.ans{k:Nat}(S:SB L bx M N w W b6 g ve vp vu vs vl)(hG:fN w M)(hk:k<L)(o:bN W W' (w.heap.size+k)):R W' M (enc g) (.agg (aD ve vp vu vs vl))/\Below w.heap.size w W'/\SB L [] M N w W' b6 g ve vp vu vs vl:=by
 have nk: ¬KV vp vl (w.heap.size+k):=fun hq=>by have:=(S.kv _ hq).1;omega
 have hg:=hG.2.2;have H2:=S.H.one o (S.nb k hk) nk (by omega);have U2:=gz S.U o (S.nb k hk);have lo:=S.lo;exact ⟨H2.done (Ab U2) fun x hx q hm=>by have:=(S.kv x hx).1;have h2:x<w.heap.size:=hG.1 _ hm;omega,S.K4 o (by omega),
  {S with H:=H2,U:=U2,bx:=fun x hx=>(by cases hx),q6:=(o.block _ (by omega)).trans S.q6,bw:=S.K4 o (by omega)}⟩
def SB.out{k j:Nat}(S:SB L bx M N w W b6 g ve vp vu vs vl)(hG:fN w M)(hk:k<L)(hj:j<L)(o1:bN W W' (w.heap.size+k))(o2:bN W' W'' (w.heap.size+j)):R W'' M (enc g) (.agg (aD ve vp vu vs vl))/\Below w.heap.size w W'':=by obtain ⟨h1,h2,_⟩:=(S.ans hG hk o1).2.2.ans hG hj o2;exact ⟨h1,h2⟩
def SB.logged{e:Event}(S:SB L bx M N w W b6 g ve vp vu vs vl)(hG:fN w M)(hg:W.grownBy W' vl.ownBlock)(hO:OR M (fun x=>N x\/bG.ownBlock=some x) W' 28 7 ((g.log++[e]).map aE.cells) bG)(how:bG.ownBlock=vl.ownBlock\/bG.ownBlock=some W.heap.size)(ob:bN W' W'' b6)(q6:aC W'' b6 40 (aD ve vp vu vs bG)) :
  SB L bx M (fun x=>N x\/bG.ownBlock=some x) w W'' b6 (tI g e) ve vp vu vs bG:=by
 have l6:=S.q6.lt;have lo:=S.lo;have hb:=S.bw;have ng:=hG.2.2;have kv': ∀x,KV vp bG x->w.heap.size+L<=x/\x≠b6:=fun x hx=>hx.elim (fun e=>S.kv x (.inl e)) fun e=>by
  rcases how with h1|h1
  ·exact S.kv x (.inr (h1▸e))
  ·rw [h1] at e;have:=gh e;exact ⟨by omega,by omega⟩
 have nr: ∀x,x<w.heap.size+L->some x≠vl.ownBlock:=fun x hx e=>by have:=S.kv x (.inr e.symm);omega
 have bl: ∀x,x<w.heap.size+L->x<W.heap.size->W''.heap[x]? =W.heap[x]? :=fun x hx hl=>(ob.block x (by omega)).trans (hg.block x hl (nr x hx));exact ⟨(S.H.Me hg hO how).one ob (.inl S.n6) (fun hk=>(kv' _ hk).2 rfl) (by omega),gz (S.H.Zd hg hO how S.U) ob (.inl S.n6),fun x hx=>⟨(S.bx x hx).1,(bl _ (by have:=(S.bx x hx).1;omega) (S.bx x hx).2.lt).trans (S.bx x hx).2⟩,q6,
  ⟨ob.os.trans (hg.os.trans hb.os),ob.tape.trans (hg.tape.trans hb.tape),ob.output.trans (hg.output.trans hb.output),by rw [ob.size];exact dq hb.size hg.size,fun i hi=>(bl i (by omega) (dm hi hb.size)).trans (hb.block i hi)⟩,fun k hk=> .inl (S.nb k hk),.inl S.n6,
  fun x hx=>hx.elim (S.nw x) fun e=>by
   rcases how with h1|h1
   ·have:=(S.kv x (.inr (h1▸e))).1;omega
   ·rw [h1] at e;have:=gh e;have:=hb.size;omega,S.lo,kv'⟩
end
section
variable {n:Nat}{P:Program}{Q:Exit->Act->World->Prop}{E:List (Nat×Value)}{w:World}
def aep(n:Nat)(J:List (Nat×Value)->World->Prop)(Q:Exit->Act->World->Prop):Exit->Act->World->Prop
 | .normal,a,w=> ∃E',J E' w/\Env n a E'
 | e,a,w=>Q e a w
def Pv{c:Code}(J:List (Nat×Value)->World->Prop)(h:CW n P c (aep n J Q) E w)(hr: ∀E' w',J E' w'->NX n (Q .normal) E' w'):CW n P c Q E w:=fun a hE =>
 ET (h a hE) fun e a' w' hq=>by
  cases e with
  | normal=>obtain ⟨E',h1,h2⟩:=hq;exact hr E' w' h1 a' h2
  | exit id=>exact hq
  | goto l=>exact hq
  | ret=>exact hq
  | panic ch=>exact hq
  | outgrown=>exact hq
def zT{J:List (Nat×Value)->World->Prop}{E':List (Nat×Value)}(h:J E' w)(hs:sY E E'):NX n (aep n J Q .normal) E w:=fun a hE=>⟨E',h,hE.sub hs⟩
end
structure B0(w W:World)(l:List (Nat×TypeId×Array Value)):Prop where
 b:Below w.heap.size w W
 z:W.heap.size=w.heap.size+l.length
 m: ∀x∈l,x.1<l.length/\aC W (w.heap.size+x.1) x.2.1 x.2.2
section
variable {n:Nat}{P:Program}{ops:Array Oper}{Q:Exit->Act->World->Prop}{E:List (Nat×Value)}{o:Oper}{rest:List Oper}{d:Nat}{w W:World}{l bx:List (Nat×TypeId×Array Value)}{T:TypeId}{cs:Array Value}
def B0.nil:B0 w w []:=⟨⟨rfl,rfl,rfl,bU _,fun _ _=>rfl⟩,rfl,fun x hx=>(by cases hx)⟩
def B0.al(B:B0 w W l)(cs:Array Value)(T:TypeId):B0 w (W.alloc (.cells cs T)) (l++[(l.length,T,cs)]):=by
 refine ⟨bt B.b (eK W cs T),by rw [dI,B.z,jw];rfl,fun x hx=> ?_⟩;rw [jw];rcases jx.1 hx with hx|hx
 ·exact ⟨dm (B.m x hx).1 (Nat.le_add_right _ _),(B.m x hx).2.alloc _⟩
 ·simp only [fJ,sV,vT] at hx;subst hx;refine ⟨P0 _,?_⟩;have:=aC.new W T cs;rw [B.z] at this;exact this
def Ks(B:B0 w W l)(hz:(P.info? T).bind (·.zero)=some (.agg cs))(h: ∀W',B0 w W' (l++[(l.length,T,cs)])->WL n P ops Q rest ((d,PH (w.heap.size+l.length))::E) W')(ho:o.op= .alloc T:=by rfl)(hg:o.guard=none:=by rfl)(hd:o.dst=some d:=by rfl)(cT:d<n:=by decide):WL n P ops Q (o::rest) E W:=by have:=h _ (B.al cs T);rw [<-B.z] at this;exact jN hg hd (cY ho hz) cT this
def PF{x:Operand}(B:B0 w W l)(h: ∀W',B0 w W' (l++[(l.length,T,cs)])->WL n P ops Q rest ((d,PH (w.heap.size+l.length))::E) W')(ho:o.op= .box T x:=by rfl)(hx:ev E x=some (.agg cs):=by rfl)(hg:o.guard=none:=by rfl)(hd:o.dst=some d:=by rfl)(cT:d<n:=by decide):WL n P ops Q (o::rest) E W:=by have:=h _ (B.al cs T);rw [<-B.z] at this;exact jN hg hd (uT (ho:=ho) (hx:=hx)) cT this
def B0.q0(B:B0 w W ((0,T,cs)::bx)):aC W w.heap.size T cs:=(B.m _ (.head _)).2
end
section
variable {L:Nat}{bx:List (Nat×TypeId×Array Value)}{M:Addr->Prop}{N:Nat->Prop}{w W:World}{b6:Nat}{g h:Host}{ve vp vu vs vl v:Value}
def ad8(B:B0 w W bx)(hG:fN w M)(hv:R w M (enc h) v)(hh:qv h) :
  Calls ay 48 #[v] W fun e w2=> ∃ve vp vu vs vl,e= .returned (.agg (aD ve vp vu vs vl))/\(∀u∈(aD ve vp vu vs vl).toList,u.oneCell'=true) /\
   ∀w3,aC w3 w2.heap.size 40 (aD ve vp vu vs vl)->bN (w2.alloc (.cells #[ai,ai,ai,ai,ai] 40)) w3 w2.heap.size-> ∃N,SB bx.length bx M N w w3 w2.heap.size h ve vp vu vs vl:=by
 obtain ⟨hb1,hz1,hbx⟩:=B;obtain ⟨B,hB⟩: ∃B:Nat->Prop,B=fun x=>w.heap.size<=x/\x<w.heap.size+bx.length:=⟨_,rfl⟩;have hBw: ∀x,B x->w.heap.size<=x:=fun x hx=>by rw [hB] at hx;exact hx.1
 have CG: ∀x,B x->x<W.heap.size:=fun x hx=>by rw [hB] at hx;omega
 have hG1:fN W (BM M B):=⟨fun q hq=>hq.elim (fun hq=>dm (hG.1 q hq) hb1.size) (CG _),hG.2.1.keep fun k hk=>hb1.block k (dm hk hG.2.2),dq hG.2.2 hb1.size⟩;refine (ad9 hG1 (pF hv hb1 hBw) hh.el hh.ef (KG hh.ul (by decide)) hh.sl hh.pl (fun p hp=>⟨(hh.pc p hp).1,dq (hh.pc p hp).2 (by decide)⟩) hh.ll hh.lr).mono ?_;rintro _ w2 ⟨N0,ve,vp,vu,vs,vl,rfl,H2,U2,hun,xB,hb2⟩;have hkl: ∀x,KV vp vl x->W.heap.size<=x:=fun x hx=>xB x (hx.elim (fun e=>(H2.p.lt x e).1) fun e=>(H2.l.lt x e).1);have rU: ∀x,vu.ownBlock=some x->W.heap.size<=x:=fun x hx=>xB x (U2.lt x hx).1;have H2:=H2.shift fun x hx=>dm (CG x hx) hb2.size;have U2:=U2.shift;have aiy:=hb2.size;have aix:=hb1.size;have ME: ∀x,KV vp vl x->x<w2.heap.size:=fun x hx=>hx.elim (fun e=>(H2.p.lt x e).2) fun e=>(H2.l.lt x e).2;refine ⟨ve,vp,vu,vs,vl,rfl,fun u hu=> ?_,fun w3 q6 oB=> ?_⟩
 ·have oe:ve.oneCell'=true:=kD (show R w2 _ (.sl (h.entries.map aE.cells)) ve from H2.e);have os:vs.oneCell'=true:=kD (show R w2 _ (.sl (h.shut.map aE.cells)) vs from H2.s);have op:vp.oneCell'=true:=by obtain ⟨a,c,rfl,_⟩:=H2.p.len;rfl
  have ol:vl.oneCell'=true:=by obtain ⟨a,c,rfl,_⟩:=H2.l.len;rfl
  have ou:vu.oneCell'=true:=by obtain ⟨a,c,rfl,_⟩:=U2.len;rfl
  simp [aD] at hu;rcases hu with rfl|rfl|rfl|rfl|rfl<;>assumption
 have hb3:=HY oB;have s3:w3.heap.size=w2.heap.size+1:=by rw [oB.size,dI]
 have wu: ∀x,(((N0 x\/B x)/\vu.ownBlock≠some x)\/x=w2.heap.size)->((N0 x\/B x)/\vu.ownBlock≠some x)\/w2.heap.size<=x:=fun x hx=>hx.imp id fun e=>by omega
 have H2':=H2.less (N':=fun x=>(N0 x\/B x)/\vu.ownBlock≠some x) (fun x hx=>hx.1) fun x hx=>⟨hx.elim (fun e=>(H2.p.lt x e).1) fun e=>(H2.l.lt x e).1,fun e=>hun x e hx⟩;have U2':R w2 (BM M fun x=>(N0 x\/B x)/\vu.ownBlock≠some x) (ax h.up) vu:=U2.xV (fun x hx=>hx.1) fun x hx=>⟨fun hq=>hq.2 hx,fun o hm=>by have:=rU x hx;have h2:x<w.heap.size:=hG.1 _ hm;omega⟩;refine ⟨fun x=>((N0 x\/B x)/\vu.ownBlock≠some x)\/x=w2.heap.size,H2'.new hb3 wu (fun x hx=> .inl hx) fun x hx=> ?_,da U2' hb3 wu,fun x hx=>⟨(hbx x hx).1,?_⟩,q6,bt (bt hb1 hb2) hb3,fun k hk=> .inl ⟨.inr (by rw [hB];exact ⟨by omega,by omega⟩),fun e=>by have:=rU _ e;omega⟩,.inr rfl,fun x hx=> ?_,by omega,fun x hx=>⟨by have:=hkl x hx;omega,by have:=ME x hx;omega⟩⟩
 ·rcases hx with hx|hx
  ·have:=H2.nb x hx.1;omega
  ·omega
 ·have q:=(hbx x hx).2;have q2:=q.below hb2 q.lt;exact q2.below hb3 q2.lt
 ·rcases hx with ⟨hx|hx,_⟩|hx
  ·have:=xB x hx;omega
  ·exact hBw x hx
  ·omega
def SB.ask{f:FuncId}{ds:List D}{b:Bool}{vs':List Value}(S:SB L bx M N w W b6 g ve vp vu vs vl)(hF:aH ay f none ds (.bool b) [])(hr:Rs W (BM M N) ds vs'):Calls ay f vs'.toArray W fun e W'=>e= .returned (.bool b)/\SB L bx M N w W' b6 g ve vp vu vs vl :=
 (aH.calls hF S.H.cE hr).mono fun e W' ⟨v,h1,h2,h3⟩=>by obtain rfl:=h2;exact ⟨h1,S.below h3⟩
def SB.kp{d:D}{v:Value}(S:SB L bx M N w W b6 g ve vp vu vs vl)(h:R w M d v):R W (BM M N) d v:=pF h S.bw S.nw
end
end
end Go.Proofs.YtekplmpbkgchfaaGreatDoor
