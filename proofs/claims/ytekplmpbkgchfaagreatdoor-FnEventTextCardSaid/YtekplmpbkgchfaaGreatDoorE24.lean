/- Entries are copied into a row of the walk's own (the reference's l6Copies), one cell of it is written; guards in a region without order. -/
import Derived.Test.YtekplmpbkgchfaaGreatDoorE23
set_option linter.all false
set_option maxRecDepth 100000
namespace Go.Proofs.YtekplmpbkgchfaaGreatDoor
section
open Go.RowKit Go
variable [GC]
section
variable {n:Nat}{P:Program}{ops:Array Oper}{Q:Exit->Act->World->Prop}{S:World->Prop}{s k:Nat}{L:Array Bool}{E:List (Nat×Value)}{w w':World}{i d:Nat}{o:Oper}{v:Value}
def WM{j e:Nat}{b:Bool}(i:Nat)(ho:ops.toList[i]? =some o)(hr:Region.ready .any ops L=[i])(hg:o.guard=some (j,b))(hj:(ops[j]?).bind (·.dst)=some e)(hb:lk E e=some (.bool b))(hd:o.dst=some d)(hrun:fu n P E o w v w')(cT:d<n)(hS:i≠s->S w')(h:AU n P ops Q S s k (L.setIfInBounds i true) ((d,v)::E) w'):AU n P ops Q S s (k+1) L E w:=fun a hE =>
 HL ho hr fun K' hK=>by rw [aA (WB hE hg hj hb)];unfold Oper.wp;rw [hrun a hE,KH,hd];exact hK _ _ hS fun _=>h _ (hE.put cT v)
def AU.no{j e:Nat}{b:Bool}(i:Nat)(ho:ops.toList[i]? =some o)(hr:Region.ready .any ops L=[i])(hg:o.guard=some (j,!b))(hj:(ops[j]?).bind (·.dst)=some e)(hb:lk E e=some (.bool b))(hd:o.dst=some d)(cT:d<n)(hS:i≠s->S w)(h:AU n P ops Q S s k (L.setIfInBounds i true) ((d,undef)::E) w):AU n P ops Q S s (k+1) L E w:=fun a hE =>
 HL ho hr fun K' hK=>by rw [ak (by rw [asw hE hg hj hb];simp),hd];exact hK _ _ hS fun _=>h _ (hE.put cT undef)
def asD{f:FuncId}{args:Array Value}{R:Ending->World->Prop}{j e:Nat}{b:Bool}(i:Nat)(ho:ops.toList[i]? =some o)(hr:Region.ready .any ops L=[i])(hg:o.guard=some (j,b))(hj:(ops[j]?).bind (·.dst)=some e)(hb:lk E e=some (.bool b))(hd:o.dst=some d)(hrun:yx n P E o w f args)(cT:d<n)(hC:Calls P f args w R)
  (h: ∀e w',R e w'-> ∃v,e= .returned v/\(i≠s->S w')/\AU n P ops Q S s k (L.setIfInBounds i true) ((d,v)::E) w'):AU n P ops Q S s (k+1) L E w:=fun a hE =>
 HL ho hr fun K' hK=>by rw [aA (WB hE hg hj hb)];unfold Oper.wp;rw [hrun a hE];refine hC.mono fun e w' he=> ?_;obtain ⟨v,rfl,hS,hv⟩:=h e w' he;rw [hd];exact hK _ _ hS fun _=>hv _ (hE.put cT v)
def aC7{T e:TypeId}{i:TypeInfo}{x:Operand}{u0 u1 u2 u3 u4 z0 z1 z2 z3 z4:Value}(ho:o.op= .buildSlice T 1 #[(0,x)])(hx:ev E x=some (.agg #[u0,u1,u2,u3,u4]))(hT:P.underlying T=some (.slice e))(hi:P.info? e=some i)(hsz:i.size=5)(hz:i.zero=some (.agg #[z0,z1,z2,z3,z4])) :
  fu n P E o w (.slice (some ⟨w.heap.size,0,none⟩) 1 1) (w.alloc (.cells #[u0,u1,u2,u3,u4] e)):=fun a hE=>by
 have hr:Array.range 5= #[0,1,2,3,4]:=by decide
 simp [execOp,ho,hE.ev hx,Instr.buildSlice,run_underlying hT,run_sizeOf hi,hsz,zeroValue,run_typeInfo hi,hz,Value.cells,Instr.fill,newRow,hr]
def aC6{T e:TypeId}{i:TypeInfo}{z0 z1 z2 z3 z4:Value}(ho:o.op= .buildSlice T 0 #[])(hT:P.underlying T=some (.slice e))(hi:P.info? e=some i)(hsz:i.size=5)(hz:i.zero=some (.agg #[z0,z1,z2,z3,z4])) :
  fu n P E o w (.slice (some ⟨w.heap.size,0,none⟩) 0 0) (w.alloc (.cells #[] e)):=fun a hE=>by
 have hr:Array.range 0= #[]:=by decide
 simp [execOp,ho,Instr.buildSlice,run_underlying hT,run_sizeOf hi,hsz,zeroValue,run_typeInfo hi,hz,Value.cells,Instr.fill,newRow,hr]
end
section
variable {M:Addr->Prop}{N N':Nat->Prop}{w w':World}{T m:Nat}{rows:List (List D)}{v:Value}
def OR.aC0{b cap i j:Nat}{r:List D}{d:D}(h:OR M N w T m rows (.slice (some ⟨b,0,none⟩) rows.length cap))(hi:rows[i]? =some r)(hj:j<m)(hone:v.oneCell'=true)(hR:R w (BM M N) d v):OR M N (w.setCell ⟨b,i*m+j,none⟩ v) T m (rows.set i (r.set j d)) (.slice (some ⟨b,0,none⟩) rows.length cap)/\bN w (w.setCell ⟨b,i*m+j,none⟩ v) b/\(∃u,w.cell? ⟨b,i*m+j,none⟩=some u)/\w.frozen? ⟨b,i*m+j,none⟩=false:=by
 have hNb:N b:=(h.lt b rfl).1;have hil:=(dQ.1 hi).1;obtain ⟨hn,xs,hown,h2,h6⟩:=h;obtain ⟨h0,⟨hv,hz⟩|⟨b',cap',cur,hv,p1,p2,p3,p4,p5,p6⟩⟩:=hown
 ·cases hv
 simp only [gF,bg,mC,vR,sX] at hv;obtain ⟨rfl,rfl⟩:=hv;have hxl:xs.length=rows.length*m:=h0;have him:i*m+m<=rows.length*m:=by have:(i+1)*m<=rows.length*m:=pX _ (by omega);rw [jO,sW] at this;exact this
 have hlc:rows.length*m<=cur.size:=by rw [p5];exact pX _ p3
 have p2':aC w b T cur:=p2;have hset:=p2'.sr (i*m+j) v;have ob:bN w (w.setCell ⟨b,i*m+j,none⟩ v) b:=(bN.refl w b).set (i*m+j) v;have kp:bY w (BM M N) (w.setCell ⟨b,i*m+j,none⟩ v) (BM M N):=BM.one ob hNb;have vL:=hn r (kV hi);refine ⟨⟨fun q hq=> ?_,xs.set (i*m+j) v,?_,h2,fun i' j' r' d' hi' hj'=> ?_⟩,ob,?_,p2'.frozen _⟩
 ·rcases sU hq with h|h
  ·exact hn q h
  ·rw [h,uh];exact vL
 ·rw [uh];refine ⟨by rw [uh];exact hxl,.inr ⟨b,cap,_,rfl,p1,hset,p3,p4,by rw [Array.size_setIfInBounds];exact p5,?_⟩⟩;rw [Array.toList_setIfInBounds,List.take_set,p6]
 ·by_cases e:i'=i
  ·subst e;rw [PO hil] at hi';cases hi';by_cases e2:j'=j
   ·subst e2;rw [PO (by omega)] at hj';cases hj';exact ⟨v,by rw [PO (by omega)],hone,R.keep kp _ _ hR⟩
   ·rw [Kz (fun h=>e2 h.symm)] at hj';obtain ⟨u,s1,s2,s3⟩:=h6 i' j' r d' hi hj';exact ⟨u,by rw [Kz (by omega)];exact s1,s2,R.keep kp _ _ s3⟩
  ·rw [Kz (fun h=>e h.symm)] at hi';obtain ⟨u,s1,s2,s3⟩:=h6 i' j' r' d' hi' hj';have hjm:j'<m:=by rw [<-hn r' (kV hi')];exact (dQ.1 hj').1
   refine ⟨u,?_,s2,R.keep kp _ _ s3⟩;rw [Kz]
   ·exact s1
   ·rcases dY i' i with hlt|hge
    ·have:(i'+1)*m<=i*m:=pX _ hlt;rw [jO,sW] at this;omega
    ·have:(i+1)*m<=i'*m:=pX _ (by omega);rw [jO,sW] at this;omega
 ·have hk:i*m+j<cur.size:=by omega
  exact ⟨cur[i*m+j],by unfold World.cell?;simp only [p2];simp [hk]⟩
end
def GS:Array Value:= #[.string ⟨#[]⟩,ai,.int .i64 0,.int .i64 0,ai]
def aAm:(ay.info? 49).bind (·.zero)=some (.agg GS):=by kernel_rfl
def aar:(ay.info? 49).map (·.size)=some 5:=by kernel_rfl
def ags{w:World}{M:Addr->Prop}{e:Entry}{v:Value}(h:R w M (enc e) v): ∃S1 S2,v= .agg #[.string e.name,S1,.int .i64 e.kF.qb,.int .i64 e.kF.min,S2]/\R w M (ax e.recipe) S1/\R w M (ax e.needs) S2:=by
 obtain ⟨cs,rfl,v0,r0,e0,⟨rfl,h0⟩,v1,r1,rfl,h1,v2,r2,rfl,⟨rfl,h2⟩,v3,r3,rfl,⟨rfl,h3⟩,v4,r4,rfl,h4,rfl⟩:=h;have:cs= #[.string e.name,v1,.int .i64 e.kF.qb,.int .i64 e.kF.min,v4]:=by rw [<-kJ,e0]
 exact ⟨v1,v4,by rw [this],h1,h4⟩
structure CE(M:Addr->Prop)(N0 N:Nat->Prop)(w W:World)(l:List Entry)(k:Nat)(v:Value):Prop where
 bw:Below w.heap.size w W
 n1: ∀x,N0 x->N x
 n2: ∀x,N x->N0 x\/w.heap.size<=x
 n3: ∀x,N x->x<W.heap.size
 o:OR M N W 49 5 ((l.take k).map aE.cells) v
 ow: ∀x,v.ownBlock=some x->w.heap.size<=x
def CE.below{M:Addr->Prop}{N0 N:Nat->Prop}{w W W':World}{l:List Entry}{k:Nat}{v:Value}(C:CE M N0 N w W l k v)(hb:Below W.heap.size W W'):CE M N0 N w W' l k v :=
 {C with bw:=bt C.bw hb,n3:=fun x hx=>dm (C.n3 x hx) hb.size,o:=C.o.below hb (fun x hx=> .inl hx) fun x hx=>hx}
set_option maxHeartbeats 4000000 in
def aIb{M:Addr->Prop}{N0:Nat->Prop}{w:World}{l:List Entry}{v:Value}(hG:fN w (BM M N0))(h:R w (BM M N0) (ax l) v)(hl:l.length<=1048576)(hf: ∀e∈l,e.fit) :
  Calls ay 98 #[v] w fun e w'=> ∃N v',e= .returned v'/\CE M N0 N w w' l l.length v':=by
 obtain ⟨a,cap,hv,_,hel⟩:=oW (nL (n:=5) (fun _=>rfl) l) h;rw [cV] at hv;subst hv;obtain ⟨ti,aO,hz,hsz,hby⟩:=uq (P:=ay) (e:=49) (z:= .agg #[.string ⟨#[]⟩,ai,.int .i64 0,.int .i64 0,ai]) (size:=5) (bytes:=80) (by kernel_rfl);refine tj (E:=[(0,.slice a l.length cap)]) Tryz.func98 rfl Tryz.ntmps98 (by simp) (by simp) ?_;refine aT ?_;refine ah cy ?_;refine bQ ?_;refine aT ?_;refine ah (aC6 rfl pY aO hsz hz) ?_;refine ah cy ?_;have IP:=eK w #[] 49;have hzz:(w.alloc (.cells #[] 49)).heap.size=w.heap.size+1:=dI _ _;have ow:(w.alloc (.cells #[] 49)).ownsRow 0 49 5 (.slice (some ⟨w.heap.size,0,none⟩) 0 0) 0 []:=⟨rfl,.inr ⟨w.heap.size,0,#[],rfl,fX _,xn w _,bU _,fX _,rfl,rfl⟩⟩;have C0:CE M N0 (fun x=>N0 x\/x=w.heap.size) w (w.alloc (.cells #[] 49)) l 0 (.slice (some ⟨w.heap.size,0,none⟩) 0 0) :=
  ⟨IP,fun x hx=> .inl hx,fun x hx=>hx.imp id fun e=>by omega,fun x hx=>by
   rcases hx with hx|hx
   ·have:x<w.heap.size:=hG.1 ⟨x,0,none⟩ (.inr hx);omega
   ·omega,⟨fun r hr=>by simp at hr,[],ow,fun x hx=>by cases hx;exact .inr rfl,fun i j r d hi=>by simp at hi⟩,fun x hx=>by cases hx;exact bU _⟩
 generalize w.alloc (.cells #[] 49)=wd at IP hzz ow C0 ⊢;refine bQ ?_;refine CW.seq (aT ?_);refine ah aN ?_;refine ah (Bk rfl rfl rfl rfl pY rfl) ?_;refine ah aN ?_;refine bQ ?_;refine bq (E':=[(7,.slice a l.length cap),(8,.int .i64 (l.length:Int)),(9,.int .i64 ((0:Nat):Int)),(3,.slice (some ⟨w.heap.size,0,none⟩) 0 0)]) ?_;refine CW.block (CW.loop (fun m E' wr=> ∃(k:Nat) (N:Nat->Prop) (v:Value),m+k=l.length/\E'=[(7,.slice a l.length cap),(8,.int .i64 (l.length:Int)),(9,.int .i64 (k:Int)),(3,v)]/\CE M N0 N w wr l k v) l.length ⟨0,_,_,rfl,rfl,C0⟩ ?_);clear C0 ow IP hzz;rintro m E' wr ⟨k,N,v,hmk,rfl,C⟩;refine aT ?_;rcases vP m with hm0|hm0
 ·subst hm0;obtain rfl:k=l.length:=by omega
  refine ah (jC (b:=false) (hb:=by simp [ba])) ?_;refine WL.nil (aK (CW.seq (CW.no (CW.exit (sQ (sQ (Ed (aK ?_))))))));refine aT ?_;refine ah aN ?_;refine ah cy ?_;refine WL.nil (aK (CW.ret ?_));exact WY rfl rfl ⟨N,v,rfl,C⟩
 obtain ⟨m',rfl⟩: ∃m',m=m'+1:=⟨m-1,by omega⟩;have hk:k<l.length:=by omega
 refine ah (jC (b:=true) (hb:=by simp [ba];omega)) ?_;refine WL.nil (aK (CW.seq (fq (CW.skip (aK ?_)))));obtain ⟨eb,eo,us,rfl,lD,nA,hcell⟩:=hel k _ (get_map l hk);obtain ⟨e,he⟩: ∃e,nth l k=e:=⟨_,rfl⟩;have ZN:e.fit:=by rw [<-he];exact hf _ (iC hk)
 rw [he] at nA;have oo:R w (BM M N0) (enc e) (.agg us.toArray):=⟨_,rfl,nA⟩;refine CW.seq (CW.block ?_);refine aT ?_;refine ah (qX hk Rz) ?_;refine ah (Dg (cs:=us) rfl rfl Tryz.underlying49 rfl (by rw [lD];exact aar) fun j u hu=>by rw [vK];have hc:=hcell j u hu;rw [C.bw.cell (gR hc)];exact hc) ?_
 refine ah (cY rfl aAm) ?_;have cR:=eK wr GS 49;have hzA:=dI wr (.cells GS 49);have sA:aC (wr.alloc (.cells GS 49)) wr.heap.size 49 GS:=aC.new wr _ _;change WL _ _ _ _ _ _ (wr.alloc (.cells GS 49));generalize wr.alloc (.cells GS 49)=wa at cR hzA sA ⊢;have azq: ∀u∈us.toArray.toList,u.oneCell'=true:=by
  obtain ⟨S1,S2,e1,h1,h2⟩:=ags oo;have e1:us.toArray= #[.string e.name,S1,.int .i64 e.kF.qb,.int .i64 e.kF.min,S2]:=by injection e1
  rw [e1];intro u hu;simp at hu;rcases hu with rfl|rfl|rfl|rfl|rfl
  ·rfl
  ·exact kD (show R w _ (.sl (e.recipe.map aE.cells)) _ from h1)
  ·rfl
  ·rfl
  ·exact kD (show R w _ (.sl (e.needs.map aE.cells)) _ from h2)
 refine cj rfl (cs:=us.toArray) rfl sA (hC:=(show (5:Nat)=us.length from lD.symm)) azq (by rw [List.size_toArray,lD];exact aar) fun wb tB lF=> ?_;have C1:CE M N0 (fun x=>N x\/x=wr.heap.size) w wb l k v :=
  have lP:=bt C.bw cR;have hsw:=C.bw.size
  ⟨⟨lF.os.trans lP.os,lF.tape.trans lP.tape,lF.output.trans lP.output,by rw [lF.size];exact lP.size,fun i hi=>(lF.block i (by omega)).trans (lP.block i hi)⟩,fun x hx=> .inl (C.n1 x hx),fun x hx=>hx.elim (C.n2 x) fun e=> .inr (by omega),fun x hx=>by
   rw [lF.size];rcases hx with hx|hx
   ·have:=C.n3 x hx;omega
   ·omega,(C.o.below cR (N':=fun x=>N x\/x=wr.heap.size) (fun x hx=>hx.imp id fun e=>by omega) fun x hx=> .inl hx).one lF (.inr rfl) fun e=>by have:=(C.o.lt _ e).2;omega,C.ow⟩
 have cE: ∀{N:Nat->Prop} {W:World} {k:Nat} {v:Value},CE M N0 N w W l k v->fN W (BM M N):=fun C=>⟨fun q hq=>hq.elim (fun hq=>dm (hG.1 q (.inl hq)) C.bw.size) (C.n3 _),hG.2.1.keep fun k hk=>C.bw.block k (dm hk hG.2.2),dq hG.2.2 C.bw.size⟩;have SY:v.ownBlock≠some wr.heap.size:=fun e=>by have:=(C.o.lt _ e).2;omega
 clear C cR hzA sA lF;refine bQ ?_;refine CW.region ?_;refine ah aN ?_;refine ah (bE Tryz.underlying49 tB (by rw [List.size_toArray,lD];exact aar)) ?_;refine dC (aH.calls (aH.fD (afy e ZN)) (cE C1) (vs:=[.agg us.toArray]) ⟨_,[],rfl,da oo C1.bw C1.n2,rfl⟩) ?_;rintro _ wc ⟨cv,rfl,hcv,hbc⟩;obtain ⟨S1,S2,rfl,h1,h2⟩:=ags hcv;refine ⟨_,rfl,?_⟩;have C2:=C1.below hbc;clear C1 hbc tB;refine ah (aC7 rfl rfl pY aO hsz hz) ?_;obtain ⟨xs,hxs⟩: ∃xs:List Value,xs=[.string e.name,S1,.int .i64 e.kF.qb,.int .i64 e.kF.min,S2]:=⟨_,rfl⟩;rw [show (#[.string e.name,S1,.int .i64 e.kF.qb,.int .i64 e.kF.min,S2]:Array Value)=xs.toArray by rw [hxs]] at hcv ⊢;have hxl:xs.length=5:=by rw [hxs];rfl
 have azr: ∀u∈xs,u.oneCell'=true:=by
  rw [hxs];intro u hu;simp at hu;rcases hu with rfl|rfl|rfl|rfl|rfl
  ·rfl
  ·exact kD (show R wc _ (.sl (e.recipe.map aE.cells)) _ from h1)
  ·rfl
  ·rfl
  ·exact kD (show R wc _ (.sl (e.needs.map aE.cells)) _ from h2)
 have hbd:=eK wc xs.toArray 49;have hnew: ∀(j:Nat) (u:Value),xs[j]? =some u->(wc.alloc (.cells xs.toArray 49)).cell? ((⟨wc.heap.size,0,none⟩:Addr).add j)=some u:=fun j u hu=>yJ (w:=wc) (xs:=xs) (T:=49) j u hu;generalize wc.alloc (.cells xs.toArray 49)=we at hbd hnew ⊢;have C3:=C2.below hbd;have hcv:=da (N':=fun x=>N x\/x=wr.heap.size) hcv hbd fun x hx=> .inl hx;have tz:Rs we (BM M fun x=>N x\/x=wr.heap.size) (aE.cells e) xs:=by obtain ⟨cs,LP,hR⟩:=hcv;cases LP;exact hR
 clear C2 hbd;have AF:((l.take k).map (aE.cells (α:=Entry))).length=k:=by rw [cV,lX];omega
 obtain ⟨v',wf,hap,hO,hg,how⟩:=or_append (P:=ay) (ty:=36) (c:=1) (a:=⟨wc.heap.size,0,none⟩) pY aO hz hsz hby rfl (by decide) C3.o C3.n3 (r:=aE.cells e) (us:=xs) rfl hxl (fun j d hj=>tz.get hj) hnew azr (by rw [AF];omega) (by decide);have hO:OR M (fun x=>(N x\/x=wr.heap.size)\/v'.ownBlock=some x) wf 49 5 ((l.take (k+1)).map aE.cells) v':=by rw [UE hk,he,uj];exact hO
 have Cf:CE M N0 (fun x=>(N x\/x=wr.heap.size)\/v'.ownBlock=some x) w wf l (k+1) v' :=
  have hsw:=C3.bw.size;have hb:=C3.bw
  have owe: ∀x,v'.ownBlock=some x->w.heap.size<=x:=fun x hx=>by
   rcases how with h3|h3
   ·exact C3.ow x (h3▸hx)
   ·rw [h3] at hx;have:=gh hx;omega
  ⟨⟨hg.os.trans hb.os,hg.tape.trans hb.tape,hg.output.trans hb.output,dq hb.size hg.size,fun i hi=>(hg.block i (by omega) fun e=>by have:=C3.ow _ e.symm;omega).trans (hb.block i hi)⟩,fun x hx=> .inl (C3.n1 x hx),fun x hx=>hx.elim (C3.n2 x) fun e=> .inr (owe x e),fun x hx=>hx.elim (fun hx=>dm (C3.n3 x hx) hg.size) fun hx=>(hO.lt x hx).2,hO,owe⟩
 refine ah (uS rfl rfl rfl hap) ?_;refine ah cy ?_;refine WL.nil ?_;refine vG (aK (CW.region ?_));refine ah (jB (r:=((k+1:Nat):Int)) (hb:=by rw [bW];omega)) ?_;refine ah aN ?_;exact WL.nil (NX.again m' [(7,.slice (some ⟨eb,eo,none⟩) l.length cap),(8,.int .i64 (l.length:Int)),(9,.int .i64 ((k+1:Nat):Int)),(3,v')] (by omega) ⟨rfl,rfl,rfl,rfl,trivial⟩ ⟨k+1,_,v',by omega,rfl,Cf⟩)
def av4(l l':List gY):aH ay 218 none [ax l,ax l'] (.bool (decide (l=l'))) []:=by
 refine cB aoN aHC ⟨zB l,zB l',trivial⟩ fun hfit=> ?_;have hl:l.length<=9223372036854775807:=qM hfit.1;unfold aoN;apply aq<;>intro h
 ·simp [E.den,ba] at h;refine az ?_;have:l≠l':=fun e=>h (by rw [e]);simp [E.den,this]
 simp [E.den,ba] at h;have h:l.length=l'.length:=by omega
 refine eZ l.length (fun k=>[.int .i64 k]) (fun k=> ∀i,i<k->nth l i=nth l' i) rfl (by omega) ?_;intro k hk hI _;simp only [cA];apply aq<;>intro h2
 ·simp [E.den,ba] at h2;refine aX (fun hg=> ?_) (aX (fun hg=> ?_) ?_)
  ·simp [E.den];omega
  ·simp [E.den];omega
  apply aq<;>intro h3
  ·refine az ?_;have:l≠l':=fun e=>by subst e;simp only [eS,wR,uu,jv] at h3;simp [lZ,IC] at h3
   simp [E.den,this]
  refine dK h2 ?_ fun i hi=> ?_
  ·simp [E.den];rw [bW]
  rcases dY i k with h'|h'
  ·exact hI i h'
  ·obtain rfl:i=k:=by omega
   simp only [eS,wR,uu,jv] at h3;simp [lZ,IC] at h3;cases e1:nth l i;cases e2:nth l' i;rw [e1,e2] at h3;obtain ⟨q1,q2,q3⟩:=h3;simp only [gY.mk.injEq];exact ⟨toList_inj q1,toList_inj q2,q3⟩
 ·simp [E.den,ba] at h2;obtain rfl:k=l.length:=by omega
  exact az (by simp [E.den,YX h hI])
def akO{l:List ByteArray}(h:gO l=true):0<l.length:=by
 unfold gO du at h;split at h
 ·simp [rep] at h
 ·rename_i h1;exact Nat.pos_of_ne_zero fun e=>h1 (.inl e)
def ai1:(ay.info? 55).map (·.size)=some 5:=by kernel_rfl
def Kc:Array Value:= #[.string ⟨#[]⟩,.bool false,.bool false,ai,.int .i64 0]
def aAl:(ay.info? 55).bind (·.zero)=some (.agg Kc):=by kernel_rfl
def agW:n9 ay 55 3=some 3:=by kernel_rfl
def K5(arg:Array Value):List (Nat×TypeId×Array Value):=[(0,40,arg),(1,40,#[ai,ai,ai,ai,ai])]
section
variable {L:Nat}{bx:List (Nat×TypeId×Array Value)}{M:Addr->Prop}{N N':Nat->Prop}{w W:World}{b6:Nat}{g:Host}{ve vp vu vs vl:Value}{k:Int}{b:Bool}{v:Value}{c:Core}
def SB.less(S:SB L bx M N w W b6 g ve vp vu vs vl)(h1: ∀x,N' x->N x)(h2: ∀x,KV vp vl x->N' x)(h3: ∀k,k<L->N' (w.heap.size+k))(h6:N' b6):SB L bx M N' w W b6 g ve vp vu vs vl :=
 {S with H:=S.H.less h1 h2,U:=R.less S.U fun q hq=>hq.imp id (h1 _),nb:=h3,n6:=h6,nw:=fun x hx=>S.nw x (h1 x hx)}
def aao{M:Addr->Prop}(h:R W M (.aL [.int .i64 k,.bool b]) v):v= .tuple #[.int .i64 k,.bool b]:=by obtain ⟨ts,rfl,va,r0,e0,⟨rfl,ha⟩,vb,r1,rfl,rfl,rfl⟩:=h;rw [show ts= #[_,_] from by rw [<-kJ,e0]]
def awE{M:Addr->Prop}(h:R W M (enc c) v): ∃S1,v= .agg #[.string c.kind,.bool c.on,.bool c.broken,S1,.int .i64 c.count]/\R W M (ax c.cells) S1:=by
 obtain ⟨cs,rfl,v0,r0,e0,⟨rfl,h0⟩,v1,r1,rfl,rfl,v2,r2,rfl,rfl,v3,r3,rfl,h3,v4,r4,rfl,⟨rfl,h4⟩,rfl⟩:=h;have:cs= #[.string c.kind,.bool c.on,.bool c.broken,v3,.int .i64 c.count]:=by rw [<-kJ,e0]
 exact ⟨v3,by rw [this],h3⟩
def aBB{n:Nat}:ba .gtr ((n:Nat):Int) 0= !decide (n=0):=by cases n<;>simp [ba]<;>omega
end
def au6(s:ByteArray)(a:Option Addr)(n c:Nat):tg ay 28 [(0,.int .i64 5),(1,.string s),(3,.slice a n c)]=some #[.int .i64 5,.string s,.string ⟨#[]⟩,.string ⟨#[]⟩,.int .i64 0,.string ⟨#[]⟩,.slice a n c]:=by kernel_rfl
def axy{W:World}{M:Addr->Prop}{s:ByteArray}{r:List ByteArray}{v:Value}(hs:s.size<=maxLen)(hr:R W M (ax r) v):Rs W M (aE.cells (⟨5,s,gB,r⟩:Event)) [.int .i64 5,.string s,.string ⟨#[]⟩,.string ⟨#[]⟩,.int .i64 0,.string ⟨#[]⟩,v]:=by
 have e0:(⟨#[]⟩:ByteArray).size<=maxLen:=by decide
 have i0:IntKind.i64.min<=(0:Int)/\(0:Int)<=IntKind.i64.max:=by decide
 have i5:IntKind.i64.min<=(5:Int)/\(5:Int)<=IntKind.i64.max:=by decide
 exact ⟨_,_,rfl,⟨rfl,i5⟩,_,_,rfl,⟨rfl,hs⟩,_,_,rfl,⟨rfl,e0⟩,_,_,rfl,⟨rfl,e0⟩,_,_,rfl,⟨rfl,i0⟩,_,_,rfl,⟨rfl,e0⟩,_,_,rfl,hr,rfl⟩
set_option maxHeartbeats 8000000 in
def aH8{M:Addr->Prop}{w:World}{h:Host}{s:ByteArray}{r:List ByteArray}{v rv:Value}(hG:fN w M)(hv:R w M (enc h) v)(hs:s.size<=maxLen)(hr:R w M (ax r) rv)(hrl:r.length<=1000)(hh:qv h) :
  Calls ay 190 #[v,.string s,rv] w fun e w'=> ∃r',e= .returned r'/\R w' M (.aL [enc (qk h s r),.bool (ql h s r)]) r'/\Below w.heap.size w w':=by
 obtain ⟨ae,ap,au,aU,al,rfl,pu,hap,xD,has,hal⟩:=CM hv;obtain ⟨ra,rc,erv,_,hrel⟩:=oW (nL (n:=1) (fun _=>rfl) r) hr;rw [cV] at erv;subst erv;refine tj (E:=[(0,.agg (aD ae ap au aU al)),(1,.string s),(2,.slice ra r.length rc)]) Tryz.func190 rfl Tryz.ntmps190 (by simp) (by simp) ?_;refine aT ?_;refine PF B0.nil fun _ B=> ?_;refine Ks B pE fun w1 B=> ?_;refine ah cy ?_;refine bQ ?_;refine bq (E':=[(1,.string s),(2,.slice ra r.length rc),(3,PH w.heap.size),(6,PH (w.heap.size+1))]) ?_;refine aT ?_;refine ah (bE cZ B.q0 bK) ?_;refine dC (ad8 B hG hv hh) ?_;rintro _ w2 ⟨ve,vp,vu,vs,vl,rfl,one,mk⟩;refine ⟨_,rfl,?_⟩;refine ah (cY rfl pE) ?_;refine cj rfl (cs:=aD ve vp vu vs vl) rfl (uX w2) one bK fun w3 q6 oB=> ?_;obtain ⟨N,S⟩:=mk w3 q6 oB;have S3:SB 2 (K5 (aD ae ap au aU al)) M N w w3 w2.heap.size h ve vp vu vs vl:=S;clear mk one q6 oB S B;refine bQ ?_;refine bq (E':=[(1,.string s),(2,.slice ra r.length rc),(3,PH w.heap.size),(6,PH (w.heap.size+1)),(8,PH w2.heap.size)]) ?_;refine aT ?_;refine ah aN ?_;refine dC (aH.calls (Cq r) S3.H.cE (vs:=[.slice ra r.length rc]) ⟨_,[],rfl,S3.kp hr,rfl⟩) ?_;rintro _ w4 ⟨vq,rfl,hq,hb4⟩;obtain rfl:=aao hq;refine ⟨_,rfl,?_⟩;have S4:=S3.below hb4;clear S3 hb4 hq;refine ah aN ?_;refine ah dH ?_;refine ah dH ?_;refine ah cy ?_;refine ah cy ?_;refine bQ ?_;refine bq (E':=[(1,.string s),(2,.slice ra r.length rc),(3,PH w.heap.size),(6,PH (w.heap.size+1)),(8,PH w2.heap.size),(10,.bool (gO r))]) ?_;refine CW.seq (aT ?_);refine ah (bE cZ S4.b0 bK) ?_;refine ah aN ?_;refine dC (S4.ask (LF h s hh) ⟨_,_,rfl,S4.kp hv,_,[],rfl,⟨rfl,hs⟩,rfl⟩) ?_;rintro _ w5 ⟨rfl,S5⟩;refine ⟨_,rfl,?_⟩;clear S4;refine ah r9 ?_;refine ah aN ?_;rcases hm:iP h s with _|_
 ·refine iV (b:=true) ?_;refine iV (b:=true) ?_;refine ah (uW rfl rfl rfl) ?_;refine ah aN ?_;refine iV (b:=true) ?_;refine iV (b:=true) ?_;refine iV (b:=true) ?_;refine iV (b:=true) ?_;refine ah (uW rfl rfl rfl) ?_;refine WL.nil (aK (fq ?_));refine aT ?_;refine ah (bE cZ S5.q6 bK) ?_;refine cj rfl (cs:=aD ve vp vu vs vl) rfl S5.b1 S5.one bK fun wz z4 oa=> ?_;refine ah cy ?_;obtain ⟨hR,jT,_⟩:=S5.ans hG (by decide) oa;have ho:ql h s r=false:=by unfold ql;rw [hm];simp
  refine WL.nil (aK (CW.ret (NX.ret (tZ rfl rfl rfl z4 cZ rfl bK ⟨_,rfl,?_,jT⟩))));have hd:qk h s r=h:=by unfold qk;rw [ak (by rw [ho];decide)]
  rw [hd,ho];exact ⟨_,rfl,_,_,rfl,hR,_,_,rfl,rfl,rfl⟩
 refine mB (b:=false) aN ?_;refine mB (b:=false) r9 ?_;refine ah (uV rfl rfl rfl) ?_;refine ah aN ?_;rcases hok:gO r with _|_
 ·refine iV (b:=true) ?_;refine iV (b:=true) ?_;refine iV (b:=true) ?_;refine iV (b:=true) ?_;refine ah (uW rfl rfl rfl) ?_;refine WL.nil (aK (fq ?_));refine aT ?_;refine ah (bE cZ S5.q6 bK) ?_;refine cj rfl (cs:=aD ve vp vu vs vl) rfl S5.b1 S5.one bK fun wz z4 oa=> ?_;refine ah cy ?_;obtain ⟨hR,jT,_⟩:=S5.ans hG (by decide) oa;have ho:ql h s r=false:=by unfold ql;rw [hok];simp
  refine WL.nil (aK (CW.ret (NX.ret (tZ rfl rfl rfl z4 cZ rfl bK ⟨_,rfl,?_,jT⟩))));have hd:qk h s r=h:=by unfold qk;rw [ak (by rw [ho];decide)]
  rw [hd,ho];exact ⟨_,rfl,_,_,rfl,hR,_,_,rfl,rfl,rfl⟩
 refine mB (b:=false) (bD CB) ?_;refine mB (b:=false) (bM fY (v:=aU) ((S5.b0.cell 3).trans rfl)) ?_;refine mB (b:=false) aN ?_;refine Ep (b:=false) (S5.ask (mH h.shut s) ⟨_,_,rfl,S5.kp has,_,[],rfl,⟨rfl,hs⟩,rfl⟩) ?_;rintro _ w6 ⟨rfl,S6⟩;refine ⟨_,rfl,?_⟩;clear S5;refine ah (uV rfl rfl rfl) ?_;refine bQ ?_;rcases hsh:hasB h.shut s with _|_
 rotate_left
 ·refine fq ?_;refine aT ?_;refine ah (bE cZ S6.q6 bK) ?_;refine cj rfl (cs:=aD ve vp vu vs vl) rfl S6.b1 S6.one bK fun wz z4 oa=> ?_;refine ah cy ?_;obtain ⟨hR,jT,_⟩:=S6.ans hG (by decide) oa;have ho:ql h s r=false:=by unfold ql;rw [hsh];simp
  refine WL.nil (aK (CW.ret (NX.ret (tZ rfl rfl rfl z4 cZ rfl bK ⟨_,rfl,?_,jT⟩))));have hd:qk h s r=h:=by unfold qk;rw [ak (by rw [ho];decide)]
  rw [hd,ho];exact ⟨_,rfl,_,_,rfl,hR,_,_,rfl,rfl,rfl⟩
 refine CW.no (CW.skip (aK ?_));refine bq (E':=[(1,.string s),(2,.slice ra r.length rc),(3,PH w.heap.size),(6,PH (w.heap.size+1)),(8,PH w2.heap.size)]) ?_;have hO:sP h:=CL.1 (by unfold iP at hm;simp only [aP] at hm;exact hm.1.1);have IY:h.log.length<24:=by unfold iP at hm;simp only [aP,cC] at hm;exact hm.2
 have hfs:0<=dN h.entries s:=by unfold iP at hm;simp only [aP,oP,mZ] at hm;have:=hm.1.2;omega
 have wB:dN h.entries s=((cL h s:Nat):Int):=(Ky hfs).symm;have hi:cL h s<h.parts.length:=by obtain ⟨i,h1,h2,_⟩:=yO hfs;unfold cL;rw [h1,hO.len];simpa using h2
 have rS:=tF hO _ (iC hi);have uE:=C9 rS;obtain ⟨i,hid⟩: ∃i,cL h s=i:=⟨_,rfl⟩;rw [hid] at wB hi uE rS;have hie:i<h.entries.length:=by rw [<-hO.len];exact hi
 refine aT ?_;refine ah (bD tv) ?_;refine ah (bM pY (v:=ae) ((S6.b0.cell 0).trans rfl)) ?_;refine ah aN ?_;refine dC (aH.calls (pZ h.entries s) S6.H.cE (vs:=[ae,.string s]) ⟨_,_,rfl,S6.kp pu,_,[],rfl,⟨rfl,hs⟩,rfl⟩) ?_;rintro _ w7 ⟨_,rfl,hfi,jg⟩;obtain ⟨rfl, -⟩:=hfi;rw [wB];refine ⟨_,rfl,?_⟩;have S7:=S6.below jg;clear S6 jg;refine ah cy ?_;refine bQ ?_;refine aT ?_;refine ah (bD tv) ?_;refine ah (bM pY (v:=ae) ((S7.b0.cell 0).trans rfl)) ?_;refine dC (aIb S7.H.cE (S7.kp pu) hh.el hh.ef) ?_;rintro _ w8 ⟨Na,vn,rfl,C⟩;refine ⟨_,rfl,?_⟩;have S8:=S7.new (N':=Na) C.bw C.n2 C.n1 C.n3;have onw:=C.ow;have h7z:=S7.bw.size;have h7k: ∀x,KV vp vl x->x<w7.heap.size:=fun x hx=>hx.elim (fun e=>(S7.H.p.lt x e).2) fun e=>(S7.H.l.lt x e).2;have h76:=S7.q6.lt;have h71:=S7.b1.lt;have hE:=C.o;rw [vO] at hE;clear S7 C;refine ah cy ?_;refine bQ ?_;refine bq (E':=[(1,.string s),(2,.slice ra r.length rc),(3,PH w.heap.size),(6,PH (w.heap.size+1)),(8,PH w2.heap.size),(11,.int .i64 ((i:Nat):Int)),(12,vn)]) ?_;obtain ⟨nb,nc,_,AV,_⟩:=hE.row (get_map h.entries hie);rw [cV] at AV;subst AV;refine aT ?_;refine ah aN ?_;refine ah aN ?_;refine ah aN ?_;refine dC (aH.calls (aH.fD (LC r (by omega))) S8.H.cE (vs:=[.slice ra r.length rc]) ⟨_,[],rfl,S8.kp hr,rfl⟩) ?_;rintro _ w9 ⟨vr,rfl,fT,ku⟩;refine ⟨_,rfl,?_⟩;have S9:=S8.below ku;have RN:=hE.below ku (N':=Na) (fun x hx=> .inl hx) fun x hx=>hx;clear S8 hE ku;have or:vr.oneCell'=true:=kD (show R w9 _ (.sl (r.map aE.cells)) vr from fT);have aie:(h.entries.map (aE.cells (α:=Entry))).length=h.entries.length:=cV _;rw [<-aie] at RN;obtain ⟨Ap,oba,⟨u0,hu0⟩,hfr⟩:=RN.aC0 (j:=1) (get_map h.entries hie) (by decide) or fT;refine ah (Df rfl rfl rfl hie Rz) ?_;refine ah (bD Y8) ?_;refine qC (qg rfl rfl rfl (by kernel_rfl) or hu0 hfr) ?_;generalize w9.setCell ⟨nb,i*5+1,none⟩ vr=wa at Ap oba ⊢;have azl:=(RN.lt nb rfl).1;have nbw:=onw nb rfl;have G7:=S9.wr hG oba azl (fun hk=>by have:=h7k _ hk;omega) (by omega) (by omega);rw [aie] at Ap;have hnext:(h.entries.map aE.cells).set i ((aE.cells (nth h.entries i)).set 1 (ax r))=(A8 h s r).map aE.cells:=by unfold A8;rw [hid,PS];rfl
 rw [hnext] at Ap;clear RN S9 oba hu0 hfr fT;obtain ⟨next,tE⟩: ∃next,A8 h s r=next:=⟨_,rfl⟩
 have hnl:next.length=h.entries.length:=by rw [<-tE];simp [A8]
 rw [tE] at Ap;obtain ⟨N2,iz⟩: ∃N2:Nat->Prop,N2=fun x=>Na x/\x≠nb:=⟨_,rfl⟩;have Sa:SB 2 (K5 (aD ae ap au aU al)) M N2 w wa w2.heap.size h ve vp vu vs vl:=G7.less (fun x hx=>by rw [iz] at hx;exact hx.1) (fun x hx=>by rw [iz];exact ⟨hx.elim (fun e=>(G7.H.p.lt x e).1) fun e=>(G7.H.l.lt x e).1,fun e=>by have:=h7k x hx;omega⟩) (fun k hk=>by rw [iz];exact ⟨G7.nb k hk,by omega⟩) (by rw [iz];exact ⟨G7.n6,by omega⟩);have Mg:R wa (BM M N2) (ax next) (.slice (some ⟨nb,0,none⟩) h.entries.length nc):=Ap.xV (fun x hx=>by rw [iz] at hx;exact hx.1) fun x hx=>⟨fun hq=>by rw [iz] at hq;exact hq.2 (gh hx).symm,fun o hm=>by have e:=gh hx;have h2:x<w.heap.size:=hG.1 _ hm;have e:nb=x:=e;omega⟩
 clear G7 Ap;obtain ⟨vn,AV⟩: ∃vn:Value,.slice (some ⟨nb,0,none⟩) h.entries.length nc=vn:=⟨_,rfl⟩;rw [AV] at Mg ⊢;refine bQ ?_;refine bq (E':=[(1,.string s),(2,.slice ra r.length rc),(3,PH w.heap.size),(6,PH (w.heap.size+1)),(8,PH w2.heap.size),(11,.int .i64 ((i:Nat):Int)),(12,vn)]) ?_;refine CW.seq (CW.seq (CW.any (fun W=>aC W w.heap.size 40 (aD ae ap au aU al)) 12 mo fun wb hwd hbd=>⟨(Sa.below hbd).b0,?_⟩));have Sb:=Sa.below hbd;have Zj:=da (N':=N2) Mg hbd fun x hx=> .inl hx;clear Sa Mg hbd;refine bh 0 rfl (fun W hW=>aN) Sb.b0 ?_;refine bh 2 rfl (fun W hW=>bD tv) Sb.b0 ?_;refine bh 3 rfl (fun W hW=>bM pY (v:=ae) ((hW.cell 0).trans rfl)) Sb.b0 ?_;refine pO 1 rfl (aH.calls (aH.fD (EW next)) Sb.H.cE (vs:=[vn]) ⟨_,[],rfl,Zj,rfl⟩) ?_;rintro _ wc ⟨v1,rfl,hv1,hbc⟩;have Sc:=Sb.below hbc;have hEd:=da (N':=N2) Zj hbc fun x hx=> .inl hx;clear Sb Zj hbc;refine ⟨_,rfl,fun _=>Sc.b0,?_⟩;refine pO 4 rfl (aH.calls (aH.fD (EW h.entries)) Sc.H.cE (vs:=[ae]) ⟨_,[],rfl,Sc.kp pu,rfl⟩) ?_;rintro _ wd ⟨v2,rfl,hv2,hbd⟩;have Sd:=Sc.below hbd;have hEe:=da (N':=N2) hEd hbd fun x hx=> .inl hx;have hv1:=da (N':=N2) hv1 hbd fun x hx=> .inl hx;clear Sc hEd hbd;refine ⟨_,rfl,fun _=>Sd.b0,?_⟩;refine pO 5 rfl (aH.calls (av4 (gf next) (gf h.entries)) Sd.H.cE (vs:=[v1,v2]) ⟨_,_,rfl,hv1,_,[],rfl,hv2,rfl⟩) ?_;rintro _ we ⟨_,rfl,jh,Ms⟩;obtain rfl:=jh;have Se:=Sd.below Ms;have Zk:=da (N':=N2) hEe Ms fun x hx=> .inl hx;clear Sd hEe Ms hv1 hv2;refine ⟨_,rfl,fun _=>Se.b0,?_⟩;refine jo 6 rfl r9 (fun _=>Se.b0) ?_;refine jo 7 rfl aN (fun _=>Se.b0) ?_;obtain ⟨sl,hsl⟩: ∃sl,decide (gf next=gf h.entries)=sl:=⟨_,rfl⟩;rw [hsl];cases sl
 ·refine AU.no (b:=true) 8 rfl (by kernel_rfl) rfl rfl rfl rfl (by decide) (fun _=>Se.b0) ?_;refine AU.no (b:=true) 9 rfl (by kernel_rfl) rfl rfl rfl rfl (by decide) (fun _=>Se.b0) ?_;refine AU.no (b:=true) 10 rfl (by kernel_rfl) rfl rfl rfl rfl (by decide) (fun _=>Se.b0) ?_;refine AU.no (b:=true) 11 rfl (by kernel_rfl) rfl rfl rfl rfl (by decide) (fun _=>Se.b0) ?_;refine jo 12 rfl (uW rfl rfl rfl) (fun _=>Se.b0) ?_;refine jd (by kernel_rfl) (aK (fq ?_));refine aT ?_;refine ah (bE cZ Se.q6 bK) ?_;refine cj rfl (cs:=aD ve vp vu vs vl) rfl Se.b1 Se.one bK fun wz z4 oa=> ?_;refine ah cy ?_;obtain ⟨hR,jT,_⟩:=Se.ans hG (by decide) oa;have ho:ql h s r=false:=by unfold ql;rw [tE,hsl];simp
  refine WL.nil (aK (CW.ret (NX.ret (tZ rfl rfl rfl z4 cZ rfl bK ⟨_,rfl,?_,jT⟩))));have hd:qk h s r=h:=by unfold qk;rw [ak (by rw [ho];decide)]
  rw [hd,ho];exact ⟨_,rfl,_,_,rfl,hR,_,_,rfl,rfl,rfl⟩
 refine WM (b:=false) 8 rfl (by kernel_rfl) rfl rfl rfl rfl aN (by decide) (fun _=>Se.b0) ?_;refine asD (b:=false) 9 (args:= #[vn]) rfl (by kernel_rfl) rfl rfl rfl rfl (pI (by kernel_rfl) rfl rfl rfl) (by decide) (aH.calls (aH.fD (Q7 next)) Se.H.cE (vs:=[vn]) ⟨_,[],rfl,Zk,rfl⟩) ?_;rintro _ wf ⟨vk,rfl,SW,hbf⟩;obtain ⟨ka,kc,ekv,_⟩:=oW (nL (n:=1) (fun _=>rfl) (oG next)) SW;rw [cV] at ekv;subst ekv;have Sf:=Se.below hbf;have hEg:=da (N':=N2) Zk hbf fun x hx=> .inl hx;clear Se Zk hbf SW;refine ⟨_,rfl,fun _=>Sf.b0,?_⟩;refine WM (b:=false) 10 rfl (by kernel_rfl) rfl rfl rfl rfl (Bk rfl rfl rfl rfl fY rfl) (by decide) (fun _=>Sf.b0) ?_;refine WM (b:=false) 11 rfl (by kernel_rfl) rfl rfl rfl rfl (jC (hb:=aBB)) (by decide) (fun _=>Sf.b0) ?_;refine jo 12 rfl (uV rfl rfl rfl) (fun _=>Sf.b0) ?_;obtain ⟨sk,FI⟩: ∃sk,decide ((oG next).length=0)=sk:=⟨_,rfl⟩;rw [FI];cases sk
 ·refine jd (by kernel_rfl) (aK (fq ?_));refine aT ?_;refine ah (bE cZ Sf.q6 bK) ?_;refine cj rfl (cs:=aD ve vp vu vs vl) rfl Sf.b1 Sf.one bK fun wz z4 oa=> ?_;refine ah cy ?_;obtain ⟨hR,jT,_⟩:=Sf.ans hG (by decide) oa;have ho:ql h s r=false:=by unfold ql;rw [tE,FI];simp
  refine WL.nil (aK (CW.ret (NX.ret (tZ rfl rfl rfl z4 cZ rfl bK ⟨_,rfl,?_,jT⟩))));have hd:qk h s r=h:=by unfold qk;rw [ak (by rw [ho];decide)]
  rw [hd,ho];exact ⟨_,rfl,_,_,rfl,hR,_,_,rfl,rfl,rfl⟩
 refine jd (by kernel_rfl) (aK (CW.no (CW.skip (aK ?_))));have ho:ql h s r=true:=by unfold ql;rw [hm,hok,hsh,tE,hsl,FI];rfl
 refine bq (E':=[(1,.string s),(2,.slice ra r.length rc),(3,PH w.heap.size),(6,PH (w.heap.size+1)),(8,PH w2.heap.size),(11,.int .i64 ((i:Nat):Int)),(12,vn)]) ?_;refine aT ?_;refine ah aN ?_;refine dC (aH.calls (aH.fD (Q6 r)) Sf.H.cE (vs:=[.slice ra r.length rc]) ⟨_,[],rfl,Sf.kp hr,rfl⟩) ?_;rintro _ wg ⟨vm,rfl,hmk,hbg⟩;obtain ⟨ms,rfl,hms,mM,iY⟩:=F4 hmk;refine ⟨_,rfl,?_⟩;have Sg:=Sf.below hbg;have hEh:=da (N':=N2) hEg hbg fun x hx=> .inl hx;clear Sf hEg hbg hmk;refine ah aN ?_;refine ah dH ?_;refine ah dH ?_;refine ah (cY rfl FP) ?_;have hb1:=eK wg gQ 58;have hz1:=dI wg (.cells gQ 58);obtain ⟨Sh,P1⟩:=Sg.alloc gQ 58;have Zl:=da (N':=fun x=>N2 x\/x=wg.heap.size) hEh hb1 fun x hx=>hx.imp id fun e=>by omega
 have iY:=da (N':=fun x=>N2 x\/x=wg.heap.size) iY hb1 fun x hx=>hx.imp id fun e=>by omega
 clear Sg hEh hb1;change WL _ _ _ _ _ _ (wg.alloc (.cells gQ 58));generalize wg.alloc (.cells gQ 58)=wh at hz1 Sh P1 Zl iY ⊢;refine ah (cY rfl jI) ?_;have hb2:=eK wh bP 111;have hz2:=dI wh (.cells bP 111);obtain ⟨Si,P2⟩:=Sh.alloc bP 111;have P1:=P1.below hb2 (N':=fun x=>(N2 x\/x=wg.heap.size)\/x=wh.heap.size) fun x hx=> .inl hx;have RO:=da (N':=fun x=>(N2 x\/x=wg.heap.size)\/x=wh.heap.size) Zl hb2 fun x hx=>hx.imp id fun e=>by omega
 have iY:=da (N':=fun x=>(N2 x\/x=wg.heap.size)\/x=wh.heap.size) iY hb2 fun x hx=>hx.imp id fun e=>by omega
 clear Sh Zl hb2;change WL _ _ _ _ _ _ (wh.alloc (.cells bP 111));generalize wh.alloc (.cells bP 111)=wi at hz2 Si P1 P2 RO iY ⊢;obtain ⟨N3,yT⟩: ∃N3:Nat->Prop,(fun x=>(N2 x\/x=wg.heap.size)\/x=wh.heap.size)=N3:=⟨_,rfl⟩;rw [yT] at Si P1 P2 RO iY;obtain ⟨g1,hg1⟩: ∃g1,wg.heap.size=g1:=⟨_,rfl⟩;rw [hg1] at P1 hz1 ⊢;refine cj rfl (cs:=ms) rfl P1.b (hC:=(by rw [hms];rfl)) mM (by rw [hms];exact mO) fun wj R1 O1=> ?_;have Sj:=Si.D0 hG P1 O1;have P2:=P2.Db O1 (by omega);have hEk:=gz RO O1 P1.n;have iY:=gz iY O1 P1.n;have P1:=P1.put R1;clear Si RO R1 O1;refine cj rfl (cs:=eC (du r).2) rfl P2.b (ND _) cu fun wk R2 O2=> ?_;have Sk:=Sj.D0 hG P2 O2;have P1:=P1.Db O2 (by omega);have hEl:=gz hEk O2 P2.n;have iY:=gz iY O2 P2.n;clear Sj hEk R2 O2 P2 hz1 hz2 yT;refine bQ ?_;refine bq (E':=[(1,.string s),(2,.slice ra r.length rc),(3,PH w.heap.size),(6,PH (w.heap.size+1)),(8,PH w2.heap.size),(11,.int .i64 ((i:Nat):Int)),(12,vn),(13,PH g1)]) ?_;obtain ⟨ea,ec,LO,_,ZM⟩:=oW (nL (n:=5) (fun _=>rfl) h.entries) pu;rw [cV] at LO;obtain ⟨eb,eo,es,rfl,hes,⟨c0,_,hcc,⟨rfl,_⟩,c1,_,rfl,MO,_⟩,ZL⟩:=ZM i _ (get_map h.entries hie);subst LO;have MO:R w M (ax (nth h.entries i).recipe) c1:=MO;have hrec:wk.cell? ⟨eb,eo+i*5+1,none⟩=some c1:=by have hc:=ZL 1 c1 (by rw [hcc];rfl);rw [Sk.bw.cell (gR hc)];exact hc
 have hro:gO (nth h.entries i).recipe=true:=by have h1:=(q9 hO.tK).2 i hie;unfold qL at h1;simp only [aP] at h1;have h2:=h1.1;unfold pj at h2;simp only [aP] at h2;exact h2.1.1.1.1
 have hpos: ∀{l:List ByteArray},gO l=true->0<l.length:=fun {l} hl=>akO hl;obtain ⟨xa,xc,exv,_,az5⟩:=oW (nL (n:=1) (fun _=>rfl) (nth h.entries i).recipe) MO;rw [cV] at exv;obtain ⟨xb,xo,xs,rfl,hxs,⟨d0,_,rfl,⟨rfl,hk0⟩,_⟩,az4⟩:=az5 0 _ (get_map (nth h.entries i).recipe (hpos hro));subst exv;have hx0:wk.cell? ⟨xb,xo+0*1,none⟩=some (.string (nth (nth h.entries i).recipe 0)):=by have hc:=az4 0 _ rfl;rw [Sk.bw.cell (gR hc)];exact hc
 refine aT ?_;refine ah (bD tv) ?_;refine ah (bM pY (v:= .slice (some ⟨eb,eo,none⟩) h.entries.length ec) ((Sk.b0.cell 0).trans rfl)) ?_;refine ah aN ?_;refine ah (qX hie Rz) ?_;refine ah (bD Y8) ?_;refine ah (bM fY (v:= .slice (some ⟨xb,xo,none⟩) (nth h.entries i).recipe.length xc) hrec) ?_;refine ah (qX (i:=0) (hpos hro) Cw) ?_;refine ah (bM jq (v:= .string (nth (nth h.entries i).recipe 0)) hx0) ?_;refine dC (aH.calls (Ih (nth (nth h.entries i).recipe 0)) Sk.H.cE (vs:=[.string (nth (nth h.entries i).recipe 0)]) ⟨_,[],rfl,⟨rfl,hk0⟩,rfl⟩) ?_;rintro _ wl ⟨vq,rfl,hq,hbl⟩;obtain rfl:=aao hq;refine ⟨_,rfl,?_⟩;have Sl:=Sk.below hbl;have P1:=P1.below hbl (N':=N3) fun x hx=>hx;have hEm:=da (N':=N3) hEl hbl fun x hx=> .inl hx;have iY:=da (N':=N3) iY hbl fun x hx=> .inl hx;clear Sk hEl hbl hq;refine ah aN ?_;refine ah dH ?_;refine ah dH ?_;refine ah cy ?_;refine ah cy ?_;refine bQ ?_;refine bq (E':=[(1,.string s),(2,.slice ra r.length rc),(3,PH w.heap.size),(6,PH (w.heap.size+1)),(8,PH w2.heap.size),(11,.int .i64 ((i:Nat):Int)),(12,vn),(13,PH g1),(15,.int .i64 (eI (nth (nth h.entries i).recipe 0)))]) ?_;obtain ⟨yb,yo,ys,rfl,hys,⟨d1,_,rfl,⟨rfl,hk1⟩,_⟩,az8⟩:=hrel 0 _ (get_map r (hpos hok));have hy0:wl.cell? ⟨yb,yo+0*1,none⟩=some (.string (nth r 0)):=by have hc:=az8 0 _ rfl;rw [Sl.bw.cell (gR hc)];exact hc
 refine aT ?_;refine ah aN ?_;refine ah (qX (i:=0) (hpos hok) Cw) ?_;refine ah (bM jq (v:= .string (nth r 0)) hy0) ?_;refine dC (aH.calls (Ih (nth r 0)) Sl.H.cE (vs:=[.string (nth r 0)]) ⟨_,[],rfl,⟨rfl,hk1⟩,rfl⟩) ?_;rintro _ wm ⟨vq,rfl,hq,xE⟩;obtain rfl:=aao hq;refine ⟨_,rfl,?_⟩;have Sm:=Sl.below xE;have P1:=P1.below xE (N':=N3) fun x hx=>hx;have Zm:=da (N':=N3) hEm xE fun x hx=> .inl hx;have iY:=da (N':=N3) iY xE fun x hx=> .inl hx;clear Sl hEm xE hq;refine ah aN ?_;refine ah dH ?_;refine ah dH ?_;refine ah cy ?_;refine ah cy ?_;refine bQ ?_;refine bq (E':=[(1,.string s),(2,.slice (some ⟨yb,yo,none⟩) r.length rc),(3,PH w.heap.size),(6,PH (w.heap.size+1)),(8,PH w2.heap.size),(11,.int .i64 ((i:Nat):Int)),(12,vn),(13,PH g1),(15,.int .i64 (eI (nth (nth h.entries i).recipe 0))),(17,.int .i64 (eI (nth r 0)))]) ?_;obtain ⟨kept,hkp⟩: ∃kept,(cG (eI (nth (nth h.entries i).recipe 0)) 2&&cG (eI (nth r 0)) 2)=kept:=⟨_,rfl⟩;obtain ⟨p1,CN⟩: ∃p1:Part,(if kept=true then {(du r).1 with core:={(du r).1.core with cells:=(nth h.parts i).core.cells}} else (du r).1)=p1:=⟨_,rfl⟩;have hI: ∀{W:World} {k:Int} {N:Nat->Prop},True:=fun {_ _ _}=>trivial;have hil: ∀s:ByteArray,IntKind.i64.min<=((eI s:Nat):Int)/\((eI s:Nat):Int)<=IntKind.i64.max:=fun s=>by
  have:=CV s;have e1:IntKind.i64.min= -9223372036854775808:=by decide
  have e2:IntKind.i64.max=9223372036854775807:=by decide
  omega
 have i2:IntKind.i64.min<=(2:Int)/\(2:Int)<=IntKind.i64.max:=by decide
 refine CW.seq (Pv (fun E' W=> ∃(N:Nat->Prop) (cs:Array Value),E'=[(1,.string s),(2,.slice (some ⟨yb,yo,none⟩) r.length rc),(3,PH w.heap.size),(6,PH (w.heap.size+1)),(8,PH w2.heap.size),(11,.int .i64 ((i:Nat):Int)),(12,vn),(13,PH g1)] /\
  SB 2 (K5 (aD (.slice (some ⟨eb,eo,none⟩) h.entries.length ec) ap au aU al)) M N w W w2.heap.size h ve vp vu vs vl/\NB 2 N w W w2.heap.size vp vl g1 58 cs/\QO M N W (p1,default) cs/\R W (BM M N) (ax next) vn) ?_ ?_)
 ·refine aT ?_;refine ah aN ?_;refine dC (aH.calls (vV (eI (nth (nth h.entries i).recipe 0)) 2) Sm.H.cE (vs:=[.int .i64 (eI (nth (nth h.entries i).recipe 0)),.int .i64 2]) ⟨_,_,rfl,⟨rfl,hil _⟩,_,[],rfl,⟨rfl,i2⟩,rfl⟩) ?_;rintro _ wn ⟨_,rfl,jh,yV⟩;obtain rfl:=jh;refine ⟨_,rfl,?_⟩;have Sn:=Sm.below yV;have P1:=P1.below yV (N':=N3) fun x hx=>hx;have Zo:=da (N':=N3) Zm yV fun x hx=> .inl hx;have iY:=da (N':=N3) iY yV fun x hx=> .inl hx;clear Sm Zm yV;refine ah aN ?_;cases ha:cG (eI (nth (nth h.entries i).recipe 0)) 2
  ·refine iV (b:=false) ?_;refine iV (b:=false) ?_;refine ah (uV rfl rfl rfl) ?_;refine WL.nil (aK (CW.no (CW.skip ?_)));rw [ha] at hkp;have:kept=false:=by rw [<-hkp];rfl
   subst this;rw [ak (by decide)] at CN;exact zT ⟨N3,ms,rfl,Sn,P1,⟨hms,mM,by rw [<-CN];exact iY,fun _ _=>Dj (zp (k:=0) (v:=0) (w:=w) (M:=M) (by decide) (by decide)) _ _⟩,Zo⟩ ⟨rfl,rfl,rfl,rfl,rfl,rfl,rfl,rfl,trivial⟩
  refine mB (b:=true) aN ?_;refine Ep (b:=true) (aH.calls (vV (eI (nth r 0)) 2) Sn.H.cE (vs:=[.int .i64 (eI (nth r 0)),.int .i64 2]) ⟨_,_,rfl,⟨rfl,hil _⟩,_,[],rfl,⟨rfl,i2⟩,rfl⟩) ?_;rintro _ wo ⟨_,rfl,jh,CI⟩;obtain rfl:=jh;refine ⟨_,rfl,?_⟩;have So:=Sn.below CI;have P1:=P1.below CI (N':=N3) fun x hx=>hx;have Zp:=da (N':=N3) Zo CI fun x hx=> .inl hx;have iY:=da (N':=N3) iY CI fun x hx=> .inl hx;clear Sn Zo CI;refine ah (uW rfl rfl rfl) ?_;rw [ha,sS] at hkp;rw [hkp];refine bQ ?_;cases kept
  ·refine CW.no (CW.skip ?_);rw [ak (by decide)] at CN;exact zT ⟨N3,ms,rfl,So,P1,⟨hms,mM,by rw [<-CN];exact iY,fun _ _=>Dj (zp (k:=0) (v:=0) (w:=w) (M:=M) (by decide) (by decide)) _ _⟩,Zp⟩ ⟨rfl,rfl,rfl,rfl,rfl,rfl,rfl,rfl,trivial⟩
  refine fq ?_;rw [aA rfl] at CN;obtain ⟨aa,ac,Cv,_,FD⟩:=oW (nL (n:=6) (fun _=>rfl) h.parts) hap;rw [cV] at Cv;obtain ⟨pb,po,us,rfl,lD,nA,hcell⟩:=FD i _ (get_map h.parts hi);subst Cv;have oo:R w M (enc (nth h.parts i)) (.agg us.toArray):=⟨_,rfl,nA⟩;obtain ⟨T1,T2,LQ,ht1,yZ,hkz,hct⟩:=De oo;have LQ:us.toArray= #[.string (nth h.parts i).core.kind,.bool (nth h.parts i).core.on,.bool (nth h.parts i).core.broken,T1,.int .i64 (nth h.parts i).core.count,T2]:=by injection LQ
  have LQ:us=[.string (nth h.parts i).core.kind,.bool (nth h.parts i).core.on,.bool (nth h.parts i).core.broken,T1,.int .i64 (nth h.parts i).core.count,T2]:=by have:=congrArg Array.toList LQ;simpa using this
  obtain ⟨c5,RY⟩: ∃c5:List Value,c5=[.string (nth h.parts i).core.kind,.bool (nth h.parts i).core.on,.bool (nth h.parts i).core.broken,T1,.int .i64 (nth h.parts i).core.count]:=⟨_,rfl⟩;have tz:R w M (enc (nth h.parts i).core) (.agg c5.toArray):=by rw [RY];exact ⟨_,rfl,_,_,rfl,⟨rfl,hkz⟩,_,_,rfl,rfl,_,_,rfl,rfl,_,_,rfl,ht1,_,_,rfl,⟨rfl,hct⟩,rfl⟩
  have yX: ∀(j:Nat) (u:Value),c5[j]? =some u->wo.cell? ((⟨pb,po+i*6+0,none⟩:Addr).add j)=some u:=fun j u hu=>by
   rw [vK,EA];have hj:us[j]? =some u:=by
    rw [LQ];rw [RY] at hu
    match j,hu with
    | 0,hu=>exact hu
    | 1,hu=>exact hu
    | 2,hu=>exact hu
    | 3,hu=>exact hu
    | 4,hu=>exact hu
    | j+5,hu=>simp at hu
   have hc:=hcell j u hj;rw [So.bw.cell (gR hc)];exact hc
  refine aT ?_;refine ah (bD uy) ?_;refine ah (bM rE (v:= .slice (some ⟨pb,po,none⟩) h.parts.length ac) ((So.b0.cell 1).trans rfl)) ?_;refine ah aN ?_;refine ah (qX hi RA) ?_;refine ah (bD RH) ?_;refine ah (Dg (cs:=c5) rfl rfl XL rfl (by rw [RY];exact ai1) yX) ?_;refine dC (aH.calls (aH.fD (Ye (nth h.parts i).core (by have:=uE.1;omega))) So.H.cE (vs:=[.agg c5.toArray]) ⟨_,[],rfl,So.kp tz,rfl⟩) ?_;rintro _ wp ⟨vq,rfl,hq,Mu⟩;obtain ⟨X1,rfl,hX⟩:=awE hq;refine ⟨_,rfl,?_⟩;have Sp:=So.below Mu;have P1:=P1.below Mu (N':=N3) fun x hx=>hx;have hEq:=da (N':=N3) Zp Mu fun x hx=> .inl hx;have iY:=da (N':=N3) iY Mu fun x hx=> .inl hx;have oX:X1.oneCell'=true:=kD (show R wp _ (.sl ((nth h.parts i).core.cells.map aE.cells)) X1 from hX);clear So Zp Mu hq;refine ah (cY rfl aAl) ?_;have hb3:=eK wp Kc 55;have hz3:=dI wp (.cells Kc 55);obtain ⟨Sq,P3⟩:=Sp.alloc Kc 55;have aI4:=P1.b.lt;have P1:=P1.below hb3 (N':=fun x=>N3 x\/x=wp.heap.size) fun x hx=> .inl hx;have Zq:=da (N':=fun x=>N3 x\/x=wp.heap.size) hEq hb3 fun x hx=>hx.imp id fun e=>by omega
  have iY:=da (N':=fun x=>N3 x\/x=wp.heap.size) iY hb3 fun x hx=>hx.imp id fun e=>by omega
  have hX:=da (N':=fun x=>N3 x\/x=wp.heap.size) hX hb3 fun x hx=>hx.imp id fun e=>by omega
  clear Sp hEq hb3;change WL _ _ _ _ _ _ (wp.alloc (.cells Kc 55));generalize wp.alloc (.cells Kc 55)=wq at hz3 Sq P1 P3 Zq iY hX ⊢;refine cj rfl (cs:= #[.string (nth h.parts i).core.kind,.bool (nth h.parts i).core.on,.bool (nth h.parts i).core.broken,X1,.int .i64 (nth h.parts i).core.count]) rfl P3.b (by intro u hu;simp at hu;rcases hu with rfl|rfl|rfl|rfl|rfl<;>first|rfl|exact oX) ai1 fun wr R3 O3=> ?_;have Sr:=Sq.D0 hG P3 O3;have P1:=P1.Db O3 (by omega);have hEs:=gz Zq O3 P3.n;have iY:=gz iY O3 P3.n;have hX:=gz hX O3 P3.n;clear Sq Zq O3 P3;refine bQ ?_;refine CW.region ?_;refine ah (bD agW) ?_;refine ah (bM Tryz.underlying53 (v:=X1) ((R3.cell 3).trans rfl)) ?_;refine ah (bD RH) ?_;refine ah (bD agW) ?_;obtain ⟨Y1,Y2,YU,hy1,wF,hyz,hyc⟩:=De iY;have YU:ms= #[.string (du r).1.core.kind,.bool (du r).1.core.on,.bool (du r).1.core.broken,Y1,.int .i64 (du r).1.core.count,Y2]:=by injection YU
  subst YU;refine qC (qg rfl rfl rfl (by kernel_rfl) oX ((P1.b.cell 3).trans rfl) (P1.b.frozen 3)) ?_;have R4:aC (wr.setCell ⟨g1,0+0+3,none⟩ X1) g1 58 #[.string (du r).1.core.kind,.bool (du r).1.core.on,.bool (du r).1.core.broken,X1,.int .i64 (du r).1.core.count,Y2]:=P1.b.sr 3 X1;have O4:bN wr (wr.setCell ⟨g1,0+0+3,none⟩ X1) g1:=(bN.refl wr g1).set (0+0+3) X1;generalize wr.setCell ⟨g1,0+0+3,none⟩ X1=ws at R4 O4 ⊢;have Ss:=Sr.D0 hG P1 O4;have hEt:=gz hEs O4 P1.n;have hX:=gz hX O4 P1.n;have wF:=gz wF O4 P1.n;have P1:=P1.put R4;refine WL.nil ?_;refine zT ⟨_,_,rfl,Ss,P1,⟨rfl,?_,?_,fun _ _=>Dj (zp (k:=0) (v:=0) (w:=w) (M:=M) (by decide) (by decide)) _ _⟩,hEt⟩ ⟨rfl,rfl,rfl,rfl,rfl,rfl,rfl,rfl,trivial⟩
  ·have oY:Y2.oneCell'=true:=kD (show R ws _ (.sl ((du r).1.aw.map aE.cells)) Y2 from wF);intro u hu;simp at hu;rcases hu with rfl|rfl|rfl|rfl|rfl|rfl<;>first|rfl|assumption
  ·rw [<-CN];exact ⟨_,rfl,_,_,rfl,⟨rfl,hyz⟩,_,_,rfl,rfl,_,_,rfl,rfl,_,_,rfl,hX,_,_,rfl,⟨rfl,hyc⟩,_,_,rfl,wF,rfl⟩
 clear Sm P1 Zm iY;rintro E' W ⟨N,cs,rfl,S,P,O,hE⟩;refine aK ?_;have aip:p1.core.cells.length<=4/\p1.aw.length<=3:=by
  rw [<-CN];have h1:=ajA r;split
  ·exact ⟨uE.1,h1.2⟩
  ·exact h1
 obtain ⟨p2,nG⟩: ∃p2:Part,(if hasB h.up s=true then rl p1 mStart else p1)=p2:=⟨_,rfl⟩;refine CW.seq (Pv (fun E' W=> ∃(cs:Array Value),E'=[(1,.string s),(2,.slice (some ⟨yb,yo,none⟩) r.length rc),(6,PH (w.heap.size+1)),(8,PH w2.heap.size),(11,.int .i64 ((i:Nat):Int)),(12,vn),(13,PH g1)] /\
  SB 2 (K5 (aD (.slice (some ⟨eb,eo,none⟩) h.entries.length ec) ap au aU al)) M N w W w2.heap.size h ve vp vu vs vl/\NB 2 N w W w2.heap.size vp vl g1 58 cs/\QO M N W (p2,default) cs/\R W (BM M N) (ax next) vn) ?_ ?_)
 ·refine aT ?_;refine ah (bD uz) ?_;refine ah (bM fY (v:=au) ((S.b0.cell 2).trans rfl)) ?_;refine ah aN ?_;refine dC (aH.calls (mH h.up s) S.H.cE (vs:=[au,.string s]) ⟨_,_,rfl,S.kp xD,_,[],rfl,⟨rfl,hs⟩,rfl⟩) ?_;rintro _ wa ⟨_,rfl,jh,Mr⟩;obtain rfl:=jh;refine ⟨_,rfl,?_⟩;have Sa:=S.below Mr;have Pa:=P.below Mr fun x hx=>hx;have Oa:=O.below (N':=N) Mr fun x hx=> .inl hx;have Ap:=da (N':=N) hE Mr fun x hx=> .inl hx;clear S P O hE Mr;refine bQ ?_;cases qQ:hasB h.up s
  ·refine CW.no (CW.skip ?_);rw [qQ,ak (by decide)] at nG;subst nG;exact zT ⟨cs,rfl,Sa,Pa,Oa,Ap⟩ ⟨rfl,rfl,rfl,rfl,rfl,rfl,rfl,trivial⟩
  refine fq (CW.region ?_);rw [qQ,aA rfl] at nG;refine ah (bE dc Pa.b (by rw [Oa.s];exact mO)) ?_;refine dC (aH.calls (Q9 p1 mStart (by have:=aip.1;omega) (by have:=aip.2;omega)) Sa.H.cE (vs:=[.agg cs,.string mStart]) ⟨_,_,rfl,Oa.r,_,[],rfl,⟨rfl,by decide⟩,rfl⟩) ?_;rintro _ wb ⟨vq,rfl,hq,lP⟩;obtain ⟨ds,rfl,hds,hone,Au⟩:=TP hq;refine ⟨_,rfl,?_⟩;have Sb:=Sa.below lP;have Pb:=Pa.below lP fun x hx=>hx;have Mg:=da (N':=N) Ap lP fun x hx=> .inl hx;refine cj rfl (cs:=ds) rfl Pb.b (hC:=(by rw [hds,Oa.s])) hone (by rw [hds];exact mO) fun wc R1 O1=> ?_;refine WL.nil ?_;exact zT ⟨ds,rfl,Sb.D0 hG Pb O1,Pb.put R1,⟨hds,hone,by rw [<-nG];exact gz hq O1 Pb.n,fun _ _=>Dj (zp (k:=0) (v:=0) (w:=w) (M:=M) (by decide) (by decide)) _ _⟩,gz Mg O1 Pb.n⟩ ⟨rfl,rfl,rfl,rfl,rfl,rfl,rfl,trivial⟩
 clear S P O hE cs;rintro E' W ⟨cs,rfl,S,P,O,hE⟩;refine aK ?_;have hsw:JC h s r=p2:=by unfold JC;simp only [hid];rw [hkp,CN];exact nG
 have on:vn.oneCell'=true:=kD (show R W _ (.sl (next.map aE.cells)) vn from hE);refine aT ?_;refine ah aN ?_;refine ah (bD tv) ?_;refine qC (qg rfl rfl rfl (by kernel_rfl) on ((S.q6.cell 0).trans rfl) (S.q6.frozen 0)) ?_;have z6:aC (W.setCell ⟨w2.heap.size,0+0,none⟩ vn) w2.heap.size 40 (aD vn vp vu vs vl):=S.q6.sr 0 vn;have uP:bN W (W.setCell ⟨w2.heap.size,0+0,none⟩ vn) w2.heap.size:=(bN.refl W w2.heap.size).set (0+0) vn;generalize W.setCell ⟨w2.heap.size,0+0,none⟩ vn=Wa at z6 uP ⊢;have Sa:SB 2 (K5 (aD (.slice (some ⟨eb,eo,none⟩) h.entries.length ec) ap au aU al)) M N w Wa w2.heap.size {h with entries:=next} vn vp vu vs vl :=
  S.box hG uP (fun x hx=>hx) (fun x hx=>hx.elim (fun e=>(S.H.p.lt x e).1) fun e=>(S.H.l.lt x e).1) S.nb S.n6 ⟨rfl,rfl⟩ hE S.U S.H.s z6
 have Pa:=P.Db uP P.ne;have Oa:=O.one uP S.n6;clear S P O hE uP z6;refine bQ ?_;have ma:(h.parts.map (aE.cells (α:=Part))).length=h.parts.length:=cV _;obtain ⟨b,cap,_,tG,_⟩:=Sa.H.p.row (get_map h.parts hi);rw [show (({h with entries:=next}:Host).parts.map (aE.cells (α:=Part))).length=h.parts.length from ma] at tG;subst tG;have Au:Rs Wa (BM M N) (aE.cells p2) cs.toList:=by obtain ⟨cs',e,hR⟩:=Oa.r;cases e;exact hR
 refine aT ?_;refine ah (bD uy) ?_;refine ah (bM rE (v:= .slice (some ⟨b,0,none⟩) h.parts.length cap) ((Sa.q6.cell 1).trans rfl)) ?_;refine ah aN ?_;refine ah (bE dc Pa.b (by rw [Oa.s];exact mO)) ?_;refine ah (Df rfl rfl rfl hi Fc) ?_;obtain ⟨Wb,hst,qP,Bb⟩:=abe (n:=133) (P:=ay) (E:=[(122,.pointer (some ⟨b,i*6,none⟩)),(121,.agg cs)]) (o:=opAt (NA Tryz.f190 19) 5) (T:=58) (x:= .tmp 122) (y:= .tmp 121) (by kernel_rfl) rfl rfl Sa.H.p (by rw [cV];exact hi) rfl Oa.s Oa.o Au mO;refine qC (fun a hE=>hst a (hE.sub ⟨rfl,rfl,trivial⟩)) ?_;have Sb:=Sa.part (g:={h with entries:=next}) qP Bb;clear Sa Pa Oa qP hst Au Bb;refine bQ ?_;obtain ⟨g,hgg⟩: ∃g:Host,{({h with entries:=next}:Host) with parts:=({h with entries:=next}:Host).parts.set i p2}=g:=⟨_,rfl⟩;rw [hgg] at Sb;have hgl:g.log=h.log:=by rw [<-hgg]
 obtain ⟨vp,tG⟩: ∃vp:Value,.slice (some ⟨b,0,none⟩) h.parts.length cap=vp:=⟨_,rfl⟩;rw [show (.slice (some ⟨b,0,none⟩) ({h with entries:=next}:Host).parts.length cap:Value)=vp from tG] at Sb;refine bq (E':=[(1,.string s),(2,.slice (some ⟨yb,yo,none⟩) r.length rc),(6,PH (w.heap.size+1)),(8,PH w2.heap.size)]) ?_;obtain ⟨ti7,CP,CR,CO,Mv⟩:=uq (P:=ay) (e:=28) (z:= .agg #[.int .i64 0,.string ⟨#[]⟩,.string ⟨#[]⟩,.string ⟨#[]⟩,.int .i64 0,.string ⟨#[]⟩,ai]) (size:=7) (bytes:=104) (by kernel_rfl);refine CW.seq (CW.any (fun W=>aC W w2.heap.size 40 (aD vn vp vu vs vl)) 9 mo fun Wc hwd hbd=>⟨(Sb.below hbd).q6,?_⟩);have Sc:=Sb.below hbd;clear Sb hbd;refine bh 0 rfl (fun W hW=>bD uA) Sc.q6 ?_;refine bh 1 rfl (fun W hW=>bM mY (v:=vl) ((hW.cell 4).trans rfl)) Sc.q6 ?_;refine bh 2 rfl (fun W hW=>aN) Sc.q6 ?_;refine bh 3 rfl (fun W hW=>aN) Sc.q6 ?_;refine pO 4 rfl (aH.calls (aH.fD (LC r (by omega))) Sc.H.cE (vs:=[.slice (some ⟨yb,yo,none⟩) r.length rc]) ⟨_,[],rfl,Sc.kp hr,rfl⟩) ?_;rintro _ Wd ⟨vr,rfl,fT,hbd⟩;obtain ⟨za,zc,ezv,_⟩:=oW (nL (n:=1) (fun _=>rfl) r) fT;rw [cV] at ezv;subst ezv;have Sd:=Sc.below hbd;clear Sc hbd;refine ⟨_,rfl,fun _=>Sd.q6,?_⟩;refine jo 5 rfl (jK (vs:=[(0,.int .i64 5),(1,.string s),(3,.slice za r.length zc)]) (au6 s za r.length zc)) (fun _=>Sd.q6) ?_;obtain ⟨xs,hxs⟩: ∃xs:List Value,xs=[.int .i64 5,.string s,.string ⟨#[]⟩,.string ⟨#[]⟩,.int .i64 0,.string ⟨#[]⟩,.slice za r.length zc]:=⟨_,rfl⟩;have hone: ∀u∈xs,u.oneCell'=true:=by intro u hu;rw [hxs] at hu;simp at hu;rcases hu with rfl|rfl|rfl|rfl|rfl|rfl|rfl<;>rfl
 have hxl:xs.length=7:=by rw [hxs];rfl
 have tH:(#[.int .i64 5,.string s,.string ⟨#[]⟩,.string ⟨#[]⟩,.int .i64 0,.string ⟨#[]⟩,.slice za r.length zc]:Array Value)=xs.toArray:=by rw [hxs]
 have cR:=eK Wd xs.toArray 28;refine jo 6 rfl (Js rfl rfl mY CP CO CR) (fun _=>by rw [tH];exact (Sd.below cR).q6) ?_;rw [tH];have hnew: ∀(j:Nat) (u:Value),xs[j]? =some u->(Wd.alloc (.cells xs.toArray 28)).cell? ((⟨Wd.heap.size,0,none⟩:Addr).add j)=some u:=fun j u hu=>yJ (w:=Wd) (xs:=xs) (T:=28) j u hu;generalize Wd.alloc (.cells xs.toArray 28)=We at cR hnew ⊢;have Se:=Sd.below cR;have fT:=da (N':=N) fT cR fun x hx=> .inl hx;have hrs:Rs We (BM M N) (aE.cells (⟨5,s,gB,r⟩:Event)) xs:=by rw [hxs];exact axy hs fT
 clear Sd cR;obtain ⟨bG,Wf,Mo,rL,AE,ML⟩:=or_append (P:=ay) (ty:=38) (c:=1) (a:=⟨Wd.heap.size,0,none⟩) mY CP CR CO Mv rfl (by decide) Se.H.l Se.H.nb (r:=aE.cells (⟨5,s,gB,r⟩:Event)) (us:=xs) rfl hxl (fun j d hj=>hrs.get hj) hnew hone (by rw [cV,hgl];omega) (by decide);have rL:OR M (fun x=>N x\/bG.ownBlock=some x) Wf 28 7 ((g.log++[(⟨5,s,gB,r⟩:Event)]).map aE.cells) bG:=by rw [uj];exact rL
 have xR:bG.oneCell'=true:=by obtain ⟨a,c,rfl,_⟩:=rL.len;rfl
 have x6:=Se.q6.grown AE fun e=>(Se.kv _ (.inr e.symm)).2 rfl;refine jo 7 rfl (uS rfl rfl rfl Mo) (fun _=>x6) ?_;refine jo 8 rfl (bD uA) (fun _=>x6) ?_;refine D3 9 rfl (by kernel_rfl) rfl rfl (qg rfl rfl rfl (by kernel_rfl) xR ((x6.cell 4).trans rfl) (x6.frozen 4)) (fun h=>absurd rfl h) ?_;have t6:aC (Wf.setCell ⟨w2.heap.size,0+4,none⟩ bG) w2.heap.size 40 (aD vn vp vu vs bG):=x6.sr 4 bG;have ja:bN Wf (Wf.setCell ⟨w2.heap.size,0+4,none⟩ bG) w2.heap.size:=(bN.refl Wf w2.heap.size).set (0+4) bG;generalize Wf.setCell ⟨w2.heap.size,0+4,none⟩ bG=Wg at t6 ja ⊢;have Sk:=Se.logged hG AE rL ML ja t6;clear Se x6 t6 ja rL;refine jd (by kernel_rfl) (aK ?_);refine bq (E':=[(6,PH (w.heap.size+1)),(8,PH w2.heap.size)]) ?_;refine aT ?_;refine ah (bE cZ Sk.q6 bK) ?_;refine cj rfl (cs:=aD vn vp vu vs bG) rfl Sk.b1 Sk.one bK fun Wh z4 oa=> ?_;refine ah cy ?_;obtain ⟨hR,jT,_⟩:=Sk.ans hG (by decide) oa;have hd:qk h s r=tI g ⟨5,s,gB,r⟩:=by unfold qk;rw [aA ho,hsw,hid,tE, <-hgg]
 refine WL.nil (aK (CW.ret (tZ rfl rfl rfl z4 cZ rfl bK ⟨_,rfl,?_,jT⟩)));rw [hd,ho];exact ⟨_,rfl,_,_,rfl,hR,_,_,rfl,rfl,rfl⟩
def avQ(h:Host)(s:ByteArray)(r:List ByteArray)(hrl:r.length<=1000)(hh:qv h):aH ay 190 none [enc h,.str s,ax r] (.aL [enc (qk h s r),.bool (ql h s r)]) [] :=
 yt (by kernel_rfl) fun w M vs hG hR=>by obtain ⟨v,_,rfl,hv,sv,_,rfl,⟨rfl,hs⟩,rv,_,rfl,hrv,rfl⟩:=hR;exact aH8 hG hv hs hrv hrl hh
def auX: ∀k:Nat,k<64->cG (k:Int) 2=true->k.testBit 1=true:=by decide +kernel
def asz(l:List ByteArray): ∀k,(gI l k).core=uN (nth l 0)
 | 0=>rfl
 | k+1=>by
  have:(j0 (gI l k) (nth l (k+1))).1.core=(gI l k).core:=by
   unfold j0;split
   ·rfl
   split
   ·rfl
   split
   ·rfl
   ·rfl
  exact this.trans (asz l k)
def aCo{s:ByteArray}(h:kindOk s=true):di (qe s)=true:=by
 have hc:uN s=⟨s,false,false,[],0⟩:=by unfold uN;rw [aA h]
 rw [oF];refine ⟨?_,fX _,fun i hi=>absurd hi (Nat.not_lt_zero i)⟩;show nj (uN s)=true;rw [hc,qH];exact ⟨h,rfl,.inl rfl,(show gH 0=true by decide),by simp,.inr ⟨rfl,rfl⟩⟩
def Tw{l:List ByteArray}(h:gO l=true):di (du l).1=true/\(du l).1.core=⟨nth l 0,false,false,[],0⟩/\kindOk (nth l 0)=true:=by
 unfold gO at h;have h:(du l).2.code=0:=by simpa using h
 unfold du at h ⊢;split at h
 ·simp [rep] at h
 rename_i h1;rw [ak h1];have hk:kindOk (nth l 0)=true:=by
  cases e:kindOk (nth l 0) with
  | true=>rfl
  | false=>exact absurd (.inr e) h1
 cases hf:dG (fun k=> !decide ((rB l k).code=0)) (l.length-1) with
 | some k => rw [hf] at h;have h2:=(ux hf).2.1;simp at h2;exact absurd h h2
 | none =>
  have hn:=RE hf;have hp: ∀k,k<=l.length-1->di (gI l k)=true:=by
   intro k;induction k with
   | zero=>intro _;exact aCo hk
   | succ k ih =>
    intro hk2;have h3:=hn k (by omega);have h4:(j0 (gI l k) (nth l (k+1))).2.code=0:=by simp [rB] at h3;exact KT h3
    have h5:=aIl h4;show di (j0 (gI l k) (nth l (k+1))).1=true;rw [h5.2.2.2.2.1];exact h5.2.2.2.2.2
  refine ⟨hp _ (bU _),?_,hk⟩;show (gI l (l.length-1)).core=_;rw [asz];unfold uN;rw [aA hk]
def aAU{r:List ByteArray}{c:List Cell}(h:gO r=true)(hc:iJ c=true)(ho:cG (eI (nth r 0)) 2=true):di {(du r).1 with core:={(du r).1.core with cells:=c}}=true:=by obtain ⟨h1,h2,h3⟩:=Tw h;obtain ⟨_,q2,q3⟩:=oF.1 h1;have hf: ∀i,fS {(du r).1 with core:={(du r).1.core with cells:=c}} i=fS (du r).1 i:=fun i=>rfl;refine oF.2 ⟨?_,q2,fun i hi=>by rw [hf];exact q3 i hi⟩;rw [h2,qH];exact ⟨h3,hc,.inr (auX _ (CV _) ho),(show gH 0=true by decide),by simp,.inr ⟨rfl,rfl⟩⟩
structure HW(h:Host):Prop where
 e6:h.entries.length<=6
 pe:h.parts.length=h.entries.length
 er: ∀e∈h.entries,gO e.recipe=true/\e.needs.length<=3
 pp: ∀p∈h.parts,di p=true
 l24:h.log.length<=24
 u:h.up.length<=6*h.log.length
 s:h.shut.length<=h.log.length
 lr: ∀e∈h.log,e.recipe.length<=1000
def HW.fit{h:Host}(H:HW h):qv h:=by
 have h1:=H.e6;have h2:=H.pe;have h3:=H.l24;have h4:=H.u;have h5:=H.s;refine ⟨by omega,fun e he=> ?_,by omega,by omega,by omega,fun p hp=> ?_,by omega,fun e he=>dq (H.lr e he) (by decide)⟩
 ·have q1:=(Nz (H.er e he).1).1;have q2:=(H.er e he).2;exact ⟨by omega,by omega⟩
 ·have:=C9 (H.pp p hp);exact ⟨by have:=this.1;omega,by have:=this.2;omega⟩
def HW.logged{h g:Host}{ev:Event}(H:HW h)(hl:g.log=h.log)(hlt:h.log.length<24)(he:g.entries.length=h.entries.length)(he2: ∀e∈g.entries,gO e.recipe=true/\e.needs.length<=3)(hp:g.parts.length=h.parts.length)(nG: ∀p∈g.parts,di p=true)(hu:g.up.length<=h.up.length+6)(hs:g.shut.length<=h.shut.length+1)(hr:ev.recipe.length<=1000):HW (tI g ev):=by
 have h1:=H.e6;have h2:=H.pe;have h4:=H.u;have h5:=H.s;have hll:(tI g ev).log.length=h.log.length+1:=by show (g.log++[ev]).length=_;rw [hl];simp
 refine ⟨by show g.entries.length<=6;omega,by show g.parts.length=g.entries.length;omega,he2,nG,by omega,by show g.up.length<=_;omega,by show g.shut.length<=_;omega,fun e Az=> ?_⟩;have Az:e∈g.log++[ev]:=Az;rcases jx.1 Az with Az|Az
 ·rw [hl] at Az;exact H.lr e Az
 ·simp at Az;rw [Az];exact hr
def Nk{h:Host}{s:ByteArray}(hm:iP h s=true):sP h/\0<=dN h.entries s/\h.log.length<24/\cL h s<h.parts.length:=by
 have hm':=hm;unfold iP at hm;simp only [aP,oP,mZ,cC] at hm;have hO:sP h:=CL.1 hm.1.1;have hf:0<=dN h.entries s:=by have:=hm.1.2;omega
 refine ⟨hO,hf,hm.2,?_⟩;obtain ⟨i,h1,h2,_⟩:=yO hf;unfold cL;rw [h1,hO.len];simpa using h2
def Un{α:Type}{P:α->Prop}{l:List α}{i:Nat}{x:α}(h: ∀y∈l,P y)(hx:P x): ∀y∈l.set i x,P y:=fun y hy=>by
 rcases sU hy with h1|h1
 ·exact h y h1
 ·rw [h1];exact hx
def aCP{l:List Entry}(hr:cW l=true):(rZ l).length<=6:=by unfold rZ;rw [aA hr,Nq];have h1:=akc l;have h2:=(q9 hr).1;omega
def aEU{h:Host}(H:HW h)(s:ByteArray):HW (zu h s):=by
 unfold zu;split
 ·rename_i ho;have hm:iP h s=true:=by unfold vc at ho;simp only [aP] at ho;exact ho.1.1
  obtain ⟨hO,_,hl,_⟩:=Nk hm;have rk:=abo hO (z8 h s) (rZ h.entries).length (bU _);have h6:=aCP hO.tK;exact H.logged rk.l hl (by rw [rk.e]) (by rw [rk.e];exact H.er) rk.n rk.p (by have:=rk.u;omega) (by rw [rk.s];omega) (by simp [nZ])
 ·exact H
def aEW{h:Host}(H:HW h)(s:ByteArray):HW (zw h s):=by
 unfold zw;split
 ·rename_i ho;have hm:iP h s=true:=by unfold xY at ho;simp only [aP] at ho;exact ho.1
  obtain ⟨hO,_,hl,_⟩:=Nk hm;have hf:=L3 (tF hO) (fun x hx=>(UU hO x hx).2) (jW (qd h.entries s) s) h.up.length (bU _);have hn:=ID h (jW (qd h.entries s) s) h.up.length;exact H.logged (g:=lN h s) rfl hl rfl H.er hn.1 hf (by show (gm h _ _).2.length<=_;omega) (by show h.shut.length<=_;omega) (by simp [nZ])
 ·exact H
def aC1(l:List ByteArray)(s:ByteArray):(jW l s).length<=l.length+1:=akA l s
def axE{h g:Host}{s:ByteArray}(hp: ∀p∈g.parts,di p=true)(hk: ∀x∈g.up,cL g x<g.parts.length):(lN g s).parts.length=g.parts.length/\(∀p∈(lN g s).parts,di p=true)/\(lN g s).up.length<=g.up.length :=
 ⟨(ID g _ _).1,L3 hp hk _ _ (bU _),(ID g _ _).2⟩
def awf{h:Host}(H:HW h)(s:ByteArray)(x:Call):HW (ni h s x).1:=by
 unfold ni;split
 ·exact H
 rename_i h1;split
 ·exact H
 simp only;split
 ·exact H
 have hm:iP h s=true:=by
  cases e:iP h s with
  | true=>rfl
  | false=>exact absurd (.inl e) h1
 obtain ⟨hO,_,hl,hi⟩:=Nk hm;obtain ⟨q,hq⟩: ∃q,ig (nth h.parts (cL h s)) x=q:=⟨_,rfl⟩;rw [hq];have hq1:di q.1=true:=by rw [<-hq];exact (LH (tF hO _ (iC hi)) x).1
 have hg:=Un (i:=cL h s) (tF hO) hq1;split
 ·obtain ⟨f1,f2,f3⟩:=axE (h:=h) (g:={h with parts:=h.parts.set (cL h s) q.1}) (s:=s) hg fun y hy=>by show (dN h.entries y).toNat<(h.parts.set (cL h s) q.1).length;rw [uh];exact (UU hO y hy).2
  refine H.logged (g:={lN {h with parts:=h.parts.set (cL h s) q.1} s with shut:=jW h.shut s}) rfl hl rfl H.er (by show (lN _ _).parts.length=_;rw [f1];simp) f2 (by show (lN _ _).up.length<=_;exact dq f3 (by simp)) (aC1 _ _) (by simp)
 ·exact H.logged (g:={h with parts:=h.parts.set (cL h s) q.1}) rfl hl rfl H.er (by simp) hg (by simp) (by simp) (by simp)
def ayD{h:Host}(H:HW h)(s:ByteArray):HW (tC h s).1:=by
 unfold tC;split
 ·exact H
 rename_i h1;split
 ·exact H
 simp only;have hm:iP h s=true:=by simpa using h1
 obtain ⟨hO,_,hl,hi⟩:=Nk hm;refine H.logged (g:={h with parts:=_,shut:=_}) rfl hl rfl H.er (by simp) (Un (tF hO) (Uk ?_ _)) (by simp) (dq (Xr _ _) (by simp)) (by simp [nZ]);split
 ·exact (LH (tF hO _ (iC hi)) _).1
 ·refine (Tw ?_).1;exact (H.er _ (iC (by rw [<-hO.len];exact hi))).1
def aE1{h:Host}{s:ByteArray}{r:List ByteArray}(hO:sP h)(hi:cL h s<h.parts.length)(hr:gO r=true):di (JC h s r)=true:=by
 have hk:di (if cG (eI (nth (nth h.entries (cL h s)).recipe 0)) 2&&cG (eI (nth r 0)) 2 then {(du r).1 with core:={(du r).1.core with cells:=(nth h.parts (cL h s)).core.cells}} else (du r).1)=true:=by
  split
  ·rename_i ho;simp only [aP] at ho;exact aAU hr (qH.1 (oF.1 (tF hO _ (iC hi))).1).2.1 ho.2
  ·exact (Tw hr).1
 unfold JC;simp only;split
 ·exact Uk hk _
 ·exact hk
def aE2{h:Host}(H:HW h)(s:ByteArray)(r:List ByteArray):HW (qk h s r):=by
 unfold qk;split
 ·rename_i ho;have hm:iP h s=true/\gO r=true:=by unfold ql at ho;simp only [aP] at ho;exact ho.1.1.1
  obtain ⟨hO,_,hl,hi⟩:=Nk hm.1;have hb:=(Nz hm.2).1;refine H.logged (g:={h with entries:=A8 h s r,parts:=h.parts.set (cL h s) (JC h s r)}) rfl hl (by simp [A8]) (Un H.er ⟨hm.2,?_⟩) (by simp) (Un (tF hO) (aE1 hO hi hm.2)) (by simp) (by simp) (by simp only;omega);exact (H.er _ (iC (by rw [<-hO.len];exact hi))).2
 ·exact H
def aCY{h:Host}(H:HW h)(e:Event):HW (wN h e).1:=by
 unfold wN;split
 ·exact aEU H _
 split
 ·exact aEW H _
 split
 ·exact awf H _ _
 split
 ·exact ayD H _
 ·exact aE2 H _ _
def FC(l:List Entry)(ps:List Part):Host:=⟨l,ps,[],[],[]⟩
def FY(l:List Entry):Bool:=cW l&&decide ((oG l).length=0)
def partsOf(l:List Entry):List Part:=l.map fun e=>(du e.recipe).1
def Jj(l:List Entry):List Entry:=if FY l then l else []
def Jk(l:List Entry):List Part:=if FY l then partsOf l else []
def aCU{l:List Entry}{k:Nat}(h:k<l.length):(partsOf l).take (k+1)=(partsOf l).take k++[(du (nth l k).recipe).1]:=by rw [KF];congr 1;simp [partsOf,nth,h]
def avF(l:List Entry)(hl:l.length<=1048576)(hf: ∀e∈l,e.fit):eA ay 89 none [ax l] (.aL [enc (FC (Jj l) (Jk l)),.bool (FY l)]) [] [(0,5),(1,6),(2,1),(3,1),(4,7)]:=by
 refine iT anJ aGA ⟨rp l,trivial⟩ fun hfit=> ?_;unfold anJ;refine aF (Ig l) ?_;refine aF (aH.fD (Q7 l)) ?_;apply aq<;>intro h<;>simp only [eS] at h
 ·have ho:FY l=false:=by
   unfold FY;simp at h;rcases h with h|h
   ·simp [h]
   ·simp;intro _ h2;rw [h2] at h;simp at h
  refine az ?_;simp only [eS];simp [Jj,Jk,ho,FC,enc,bB,ax]
 have ho:FY l=true:=by unfold FY;simp at h;rw [h.1];simpa using h.2
 refine fQ (Yh l hl hf) (hty:=rp _) ?_;refine eZ l.length (fun k=>[.int .i64 k,ax l,ax ((partsOf l).take k),ax ([]:List ByteArray),ax ([]:List ByteArray),ax ([]:List Event)]) (fun _=>True) (by simp only [eS];rfl) trivial ?_;intro k hk _ _;simp only [cA];apply aq<;>intro h2<;>simp only [eS] at h2
 ·have h2:k<l.length:=by simpa using h2
  refine fZ ?_;refine fQ (Q6 (nth l k).recipe) (hty:=⟨lT _,wV _,trivial⟩) ?_;refine aX (fun _=> ?_) ?_
  ·simp only [eS];simp [ax];omega
  refine dK h2 ?_ trivial;rw [aCU h2];simp only [eS];rw [bW];simp [ax]
 ·obtain rfl:k=l.length:=by simp at h2;omega
  have ht:(partsOf l).take l.length=partsOf l:=Cj (by simp [partsOf]);rw [ht];refine az ?_;simp only [eS];simp [Jj,Jk,ho,FC,enc,bB,ax]
def av3(h:Host)(e:Event)(hh:qv h)(hx:e.call.text.size<4294967281)(hr:e.recipe.length<=1000):aH ay 140 none [enc h,enc e] (.aL [enc (wN h e).1,.bool (wN h e).2]) []:=by
 refine cB aoL aHA ⟨vg h,zA e,trivial⟩ fun hfit=> ?_;unfold aoL;apply aq<;>intro h1<;>simp only [eS,fP] at h1
 ·have h1:e.kind=1:=by simpa using h1
  refine aF (avO h e.name hh) (hty:=⟨vg _,trivial,trivial⟩) ?_;refine az ?_;simp only [eS];unfold wN;rw [aA h1]
 have h1:e.kind≠1:=by simpa using h1
 apply aq<;>intro h2<;>simp only [eS,fP] at h2
 ·have h2:e.kind=2:=by simpa using h2
  refine aF (avP h e.name hh) (hty:=⟨vg _,trivial,trivial⟩) ?_;refine az ?_;simp only [eS];unfold wN;rw [ak h1,aA h2]
 have h2:e.kind≠2:=by simpa using h2
 apply aq<;>intro h3<;>simp only [eS,fP] at h3
 ·have h3:e.kind=3:=by simpa using h3
  refine aF (av1 h e.name e.call hx hh) (hty:=⟨vg _,wV _,trivial,trivial⟩) ?_;refine az ?_;simp only [eS];unfold wN;rw [ak h1,ak h2,aA h3]
 have h3:e.kind≠3:=by simpa using h3
 apply aq<;>intro h4<;>simp only [eS,fP] at h4
 ·have h4:e.kind=4:=by simpa using h4
  refine aF (avA h e.name hh) (hty:=⟨vg _,wV _,trivial⟩) ?_;refine az ?_;simp only [eS,Af];unfold wN;rw [ak h1,ak h2,ak h3,aA h4];rfl
 have h4:e.kind≠4:=by simpa using h4
 refine aF (avQ h e.name e.recipe hr hh) (hty:=⟨vg _,trivial,trivial⟩) ?_;refine az ?_;simp only [eS];unfold wN;rw [ak h1,ak h2,ak h3,ak h4]
def ajR{l:List Entry}(hr:cW l=true):HW (FC (Jj l) (Jk l)):=by
 unfold Jj Jk;split
 ·have h6:=q9 hr;have he: ∀e∈l,gO e.recipe=true/\e.needs.length<=3:=fun e he=>by obtain ⟨i,hi,rfl⟩:=KD.1 he;have h1:=h6.2 i hi;unfold qL at h1;simp only [aP] at h1;have h2:=h1.1;rw [show nth l i=l[i] by rw [nth,List.getD,cO hi];rfl] at h2;unfold pj at h2;simp only [aP,cC] at h2;exact ⟨h2.1.1.1.1,h2.1.2⟩
  refine ⟨h6.1,by show (partsOf l).length=l.length;simp [partsOf],he,fun p hp=> ?_,fX _,fX _,fX _,fun e he=>(by cases he)⟩;obtain ⟨e,hel,rfl⟩:=gD.1 (show p∈l.map fun e=>(du e.recipe).1 from hp);exact (Tw (he e hel).1).1
 ·exact ⟨fX _,rfl,fun e he=>(by cases he),fun p hp=>(by cases hp),fX _,fX _,fX _,fun e he=>(by cases he)⟩
end
end Go.Proofs.YtekplmpbkgchfaaGreatDoor
