/- Walk: a part of a host is stopped (the reference's StopPart). -/
import Derived.Test.YtekplmpbkgchfaaGreatDoorE21
set_option linter.all false
set_option maxRecDepth 100000
namespace Go.Proofs.YtekplmpbkgchfaaGreatDoor
section
open Go.RowKit Go
variable [GC]
set_option maxHeartbeats 4000000 in
def aH7{M:Addr->Prop}{w:World}{h:Host}{s:ByteArray}{v:Value}(hG:fN w M)(hv:R w M (enc h) v)(hs:s.size<=maxLen)(hh:qv h) :
  Calls ay 16 #[v,.string s] w fun e w'=> ∃r,e= .returned r/\R w' M (.aL [enc (zw h s),.bool (xY h s)]) r/\Below w.heap.size w w':=by
 obtain ⟨ae,ap,au,aU,al,rfl,pu,hap,xD,has,hal⟩:=CM hv;refine tj (E:=[(0,.agg (aD ae ap au aU al)),(1,.string s)]) Tryz.func16 rfl Tryz.ntmps16 (by simp) (by simp) ?_;refine aT ?_;refine ah uT ?_;refine ah (cY rfl pE) ?_;refine ah cy ?_;refine bQ ?_;change CW _ ay _ _ _ ((w.alloc (.cells (aD ae ap au aU al) 40)).alloc (.cells #[ai,ai,ai,ai,ai] 40));refine CW.sub (E':=[(1,.string s),(2,PH w.heap.size),(4,PH (w.heap.size+1))]) ⟨rfl,rfl,by simp only [dI];rfl,trivial⟩ ?_;have q2:aC ((w.alloc (.cells (aD ae ap au aU al) 40)).alloc (.cells #[ai,ai,ai,ai,ai] 40)) w.heap.size 40 (aD ae ap au aU al):=(aC.new w _ _).alloc _;have q4:aC ((w.alloc (.cells (aD ae ap au aU al) 40)).alloc (.cells #[ai,ai,ai,ai,ai] 40)) (w.heap.size+1) 40 #[ai,ai,ai,ai,ai]:=by have:=uX (w.alloc (.cells (aD ae ap au aU al) 40));rw [dI] at this;exact this
 have hb1:Below w.heap.size w ((w.alloc (.cells (aD ae ap au aU al) 40)).alloc (.cells #[ai,ai,ai,ai,ai] 40)):=bt (eK _ _ _) (eK _ _ _);generalize (w.alloc (.cells (aD ae ap au aU al) 40)).alloc (.cells #[ai,ai,ai,ai,ai] 40)=w1 at q2 q4 hb1 ⊢;obtain ⟨B,hB⟩: ∃B:Nat->Prop,B=fun x=>x=w.heap.size\/x=w.heap.size+1:=⟨_,rfl⟩;have hBw: ∀x,B x->w.heap.size<=x:=fun x hx=>by rw [hB] at hx;rcases hx with hx|hx<;>omega
 have Zh:B (w.heap.size+1):=by rw [hB];exact .inr rfl
 have l4:=q4.lt;have CG: ∀x,B x->x<w1.heap.size:=fun x hx=>by rw [hB] at hx;rcases hx with hx|hx<;>omega
 have hG1:fN w1 (BM M B):=⟨fun q hq=>hq.elim (fun hq=>dm (hG.1 q hq) hb1.size) (CG _),hG.2.1.keep fun k hk=>hb1.block k (dm hk hG.2.2),dq hG.2.2 hb1.size⟩;refine aT ?_;refine ah (bE cZ q2 bK) ?_;refine dC (ad9 hG1 (pF hv hb1 hBw) hh.el hh.ef (KG hh.ul (by decide)) hh.sl hh.pl (fun p hp=>⟨(hh.pc p hp).1,dq (hh.pc p hp).2 (by decide)⟩) hh.ll hh.lr) ?_;rintro _ w2 ⟨N0,ve,vp,vu,vs,vl,rfl,H2,U2,hun,xB,hb2⟩;refine ⟨_,rfl,?_⟩;have hkl: ∀x,KV vp vl x->w1.heap.size<=x:=fun x hx=>xB x (hx.elim (fun e=>(H2.p.lt x e).1) fun e=>(H2.l.lt x e).1);have rU: ∀x,vu.ownBlock=some x->w1.heap.size<=x:=fun x hx=>xB x (U2.lt x hx).1;have H2:=H2.shift fun x hx=>dm (CG x hx) hb2.size;have U2:=U2.shift;have p2:=q2.below hb2 q2.lt;have p4:=q4.below hb2 q4.lt;have qO:=bt hb1 hb2;have aiy:=hb2.size;have aix:=hb1.size;have ME: ∀x,KV vp vl x->x<w2.heap.size:=fun x hx=>hx.elim (fun e=>(H2.p.lt x e).2) fun e=>(H2.l.lt x e).2;have SR: ∀x,vu.ownBlock=some x->x<w2.heap.size:=fun x hx=>(U2.lt x hx).2;have oe:ve.oneCell'=true:=kD (show R w2 _ (.sl (h.entries.map aE.cells)) ve from H2.e);have os:vs.oneCell'=true:=kD (show R w2 _ (.sl (h.shut.map aE.cells)) vs from H2.s);have op:vp.oneCell'=true:=by obtain ⟨a,c,rfl,_⟩:=H2.p.len;rfl
 have ol:vl.oneCell'=true:=by obtain ⟨a,c,rfl,_⟩:=H2.l.len;rfl
 have ou:vu.oneCell'=true:=by obtain ⟨a,c,rfl,_⟩:=U2.len;rfl
 have one: ∀(vu vl:Value),vu.oneCell'=true->vl.oneCell'=true-> ∀u∈(aD ve vp vu vs vl).toList,u.oneCell'=true:=fun vu vl ou ol u hu=>by simp [aD] at hu;rcases hu with rfl|rfl|rfl|rfl|rfl<;>assumption
 refine ah (cY rfl pE) ?_;refine cj rfl (cs:=aD ve vp vu vs vl) rfl (uX w2) (one vu vl ou ol) bK fun w3 q6 oB=> ?_;have hb3:=HY oB;have s3:w3.heap.size=w2.heap.size+1:=by rw [oB.size,dI]
 obtain ⟨N,hN⟩: ∃N:Nat->Prop,N=fun x=>(N0 x\/B x)\/x=w2.heap.size:=⟨_,rfl⟩;have Fo: ∀x,N x->w.heap.size<=x:=fun x hx=>by
  rw [hN] at hx;rcases hx with (hx|hx)|hx
  ·have:=xB x hx;omega
  ·exact hBw x hx
  ·omega
 have RR:N w2.heap.size:=by rw [hN];exact .inr rfl
 have tw:N (w.heap.size+1):=by rw [hN];exact .inl (.inr Zh)
 have wu: ∀x,N x->(N0 x\/B x)\/w2.heap.size<=x:=fun x hx=>by rw [hN] at hx;exact hx.imp id fun e=>by omega
 have IL: ∀x,(N0 x\/B x)->N x:=fun x hx=>by rw [hN];exact .inl hx
 have H3:HX M N w3 h ve vp vs vl:=H2.new hb3 wu IL fun x hx=>by
  rw [hN] at hx;rcases hx with hx|hx
  ·have:=H2.nb x hx;omega
  ·omega
 have U3:OR M N w3 9 1 (h.up.map aE.cells) vu:=U2.below hb3 wu IL;have q2:=p2.below hb3 p2.lt;have q4:=p4.below hb3 p4.lt;have nD:=bt qO hb3;clear H2 U2 p2 p4 hb3 oB qO;refine bQ ?_;refine bq (E':=[(1,.string s),(2,PH w.heap.size),(4,PH (w.heap.size+1)),(6,PH w2.heap.size)]) ?_;have AR:=pF hv nD Fo;obtain ⟨ae',ap',au',as',al',ev,_,_,Aw,_,_⟩:=CM AR;have Aw:R w3 (BM M N) (ax h.up) au:=by cases ev;exact Aw
 refine CW.seq (aT ?_);refine ah (bE cZ q2 bK) ?_;refine ah aN ?_;refine dC (aH.calls (LF h s hh) H3.cE (vs:=[.agg (aD ae ap au aU al),.string s]) ⟨_,_,rfl,AR,_,[],rfl,⟨rfl,hs⟩,rfl⟩) ?_;rintro _ w4 ⟨_,rfl,jh,hb4⟩;obtain rfl:=jh;refine ⟨_,rfl,?_⟩;have H4:=H3.below hb4;have U4:=U3.below hb4 (N':=N) (fun x hx=> .inl hx) fun x hx=>hx;have p2:=q2.below hb4 q2.lt;have p4:=q4.below hb4 q4.lt;have p6:=q6.below hb4 q6.lt;have Mq:=da (N':=N) Aw hb4 fun x hx=> .inl hx;have eM:=bt nD hb4;clear H3 U3 q2 q4 q6 hb4 nD AR Aw;have kM: ∀x,KV vp vl x-> ∀o,¬M ⟨x,o,none⟩:=fun x hx o hm=>by have:=hkl x hx;have h2:x<w.heap.size:=hG.1 _ hm;omega
 have no: ∀(w5:World),xY h s=false->HX M N w5 h ve vp vs vl->OR M N w5 9 1 (h.up.map aE.cells) vu->aC w5 (w.heap.size+1) 40 (aD ve vp vu vs vl)->Below w.heap.size w w5 ->
   R w5 M (.aL [enc (zw h s),.bool (xY h s)]) (.tuple #[.agg (aD ve vp vu vs vl),.bool false]):=fun w5 ho H5 U5 _ _=>by
  have hd:zw h s=h:=by unfold zw;simp [ho]
  rw [hd,ho];refine ⟨_,rfl,_,_,rfl,H5.done (Ab (U5.xV (N':=fun _=>False) (fun _ h=>h.elim) fun x hx=>⟨id,fun o hm=>by have:=rU x hx;have h2:x<w.heap.size:=hG.1 _ hm;omega⟩)) kM,_,_,rfl,rfl,rfl⟩
 have uI: ¬KV vp vl (w.heap.size+1):=fun hk=>by have:=hkl _ hk;omega
 have xM: ¬KV vp vl w2.heap.size:=fun hk=>by have:=ME _ hk;omega
 have C6:NG<=w.heap.size+1:=by have:=hG.2.2;omega
 have Np:NG<=w2.heap.size:=by have:=hG.2.2;omega
 refine ah r9 ?_;refine ah aN ?_;rcases hm:iP h s with _|_
 ·refine iV (b:=true) ?_;refine iV (b:=true) ?_;refine iV (b:=true) ?_;refine iV (b:=true) ?_;refine iV (b:=true) ?_;refine ah (uW rfl rfl rfl) ?_;refine WL.nil (aK (fq ?_));refine aT ?_;refine ah (bE cZ p6 bK) ?_;refine cj rfl (cs:=aD ve vp vu vs vl) rfl p4 (one vu vl ou ol) bK fun w5 z4 dw=> ?_;refine ah cy ?_;have H5:=H4.one dw tw uI C6;have U5:=U4.one dw tw fun e=>by have:=rU _ e;omega
  have hb5:Below w.heap.size w w5:=⟨dw.os.trans eM.os,dw.tape.trans eM.tape,dw.output.trans eM.output,by rw [dw.size];exact eM.size,fun i hi=>(dw.block i (by omega)).trans (eM.block i hi)⟩;refine WL.nil (aK (CW.ret ?_));refine NX.ret (tZ rfl rfl rfl z4 cZ rfl bK ⟨_,rfl,no w5 (by unfold xY;rw [hm];rfl) H5 U5 z4 hb5,hb5⟩)
 refine mB (b:=false) (bD uz) ?_;refine mB (b:=false) (bM fY (v:=au) ((p2.cell 2).trans rfl)) ?_;refine mB (b:=false) aN ?_;refine Ep (b:=false) (aH.calls (mH h.up s) H4.cE (vs:=[au,.string s]) ⟨_,_,rfl,Mq,_,[],rfl,⟨rfl,hs⟩,rfl⟩) ?_;rintro _ w5 ⟨_,rfl,jh,hb5⟩;obtain rfl:=jh;refine ⟨_,rfl,?_⟩;have H5:=H4.below hb5;have U5:=U4.below hb5 (N':=N) (fun x hx=> .inl hx) fun x hx=>hx;have q2:=p2.below hb5 p2.lt;have q4:=p4.below hb5 p4.lt;have q6:=p6.below hb5 p6.lt;have lA:=bt eM hb5;clear H4 U4 p2 p4 p6 hb5 eM Mq;refine mB (b:=false) r9 ?_;rcases qQ:hasB h.up s with _|_
 ·refine ah (uV rfl rfl rfl) ?_;refine WL.nil (aK (fq ?_));refine aT ?_;refine ah (bE cZ q6 bK) ?_;refine cj rfl (cs:=aD ve vp vu vs vl) rfl q4 (one vu vl ou ol) bK fun w5 z4 dw=> ?_;refine ah cy ?_;have H5:=H5.one dw tw uI C6;have U5:=U5.one dw tw fun e=>by have:=rU _ e;omega
  have hb5:Below w.heap.size w w5:=⟨dw.os.trans lA.os,dw.tape.trans lA.tape,dw.output.trans lA.output,by rw [dw.size];exact lA.size,fun i hi=>(dw.block i (by omega)).trans (lA.block i hi)⟩;refine WL.nil (aK (CW.ret ?_));refine NX.ret (tZ rfl rfl rfl z4 cZ rfl bK ⟨_,rfl,no w5 (by unfold xY;rw [hm,qQ];rfl) H5 U5 z4 hb5,hb5⟩)
 refine ah (uV rfl rfl rfl) ?_;refine WL.nil (aK (CW.no (CW.skip (aK ?_))));have ho:xY h s=true:=by unfold xY;rw [hm,qQ];rfl
 have hO:sP h:=CL.1 (by unfold iP at hm;simp only [aP] at hm;exact hm.1.1);have hfs:0<=dN h.entries s:=by unfold iP at hm;simp only [aP,oP,mZ] at hm;have:=hm.1.2;omega
 have MN:0<h.parts.length:=by obtain ⟨i,_,hi,_⟩:=yO hfs;rw [hO.len];omega
 have hU5:R w5 (BM M (fun x=>N x/\vu.ownBlock≠some x)) (ax h.up) vu:=U5.xV (fun x hx=>hx.1) fun x hx=>⟨fun hq=>hq.2 hx,fun o hm=>by have:=rU x hx;have h2:x<w.heap.size:=hG.1 _ hm;omega⟩;have H5':HX M (fun x=>N x/\vu.ownBlock≠some x) w5 h ve vp vs vl:=H5.less (fun x hx=>hx.1) fun x hx=>⟨hx.elim (fun e=>(H5.p.lt x e).1) fun e=>(H5.l.lt x e).1,fun e=>hun x e hx⟩;have n6:N w2.heap.size/\vu.ownBlock≠some w2.heap.size:=⟨RR,fun e=>by have:=SR _ e;omega⟩;have n4:N (w.heap.size+1)/\vu.ownBlock≠some (w.heap.size+1):=⟨tw,fun e=>by have:=rU _ e;omega⟩;have MD:=UU hO;have hnl:(qd h.entries s).length<=1048576:=by
  unfold qd;split
  ·split
   ·exact dq (Ji _ _) hh.el
   ·simp
  ·simp
 have hok:=L3 (tF hO) (fun x hx=>(MD x hx).2) (jW (qd h.entries s) s);refine bq (E':=[(1,.string s),(4,PH (w.heap.size+1)),(6,PH w2.heap.size)]) ?_;refine aT ?_;refine ah (bE cZ q6 bK) ?_;refine ah aN ?_;refine dC (ass H5' hU5 MN MD hnl (fun j hj p hp=>by have:=C9 (hok j hj p hp);unfold Jn at this;omega) hs (KG hh.ul (by decide))) ?_;rintro _ w6 ⟨dr,rfl,H6,U6,f6⟩;refine ⟨_,rfl,?_⟩;have sz6:=f6.size;have zl:dr.oneCell'=true:=kD (show R w6 _ (.sl ((lN h s).up.map aE.cells)) dr from U6);have r6:aC w6 w2.heap.size 40 (aD ve vp vu vs vl):=(f6.block _ q6.lt xM).trans q6;have r4:aC w6 (w.heap.size+1) 40 #[ai,ai,ai,ai,ai]:=(f6.block _ q4.lt uI).trans q4;have nE:Below w.heap.size w w6:=⟨f6.os.trans lA.os,f6.tape.trans lA.tape,f6.output.trans lA.output,dq lA.size f6.size,fun i hi=>(f6.block i (by have:=lA.size;omega) fun hk=>by have:=hkl i hk;omega).trans (lA.block i hi)⟩;refine cj rfl (cs:=aD ve vp dr vs vl) rfl r6 (one dr vl zl ol) bK fun w7 z6 C8=> ?_;have H7:=H6.one C8 n6 xM Np;have U7:=gz U6 C8 n6;have z4:aC w7 (w.heap.size+1) 40 #[ai,ai,ai,ai,ai]:=(C8.block _ (by omega)).trans r4;have iX:Below w.heap.size w w7:=⟨C8.os.trans nE.os,C8.tape.trans nE.tape,C8.output.trans nE.output,by rw [C8.size];exact nE.size,fun i hi=>(C8.block i (by omega)).trans (nE.block i hi)⟩;clear H5 U5 H5' hU5 q2 q4 q6 lA H6 U6 r6 r4 nE;refine bQ ?_;refine bq (E':=[(1,.string s),(4,PH (w.heap.size+1)),(6,PH w2.heap.size)]) ?_;obtain ⟨ti,aO,hz,hsz,hby⟩:=uq (P:=ay) (e:=28) (z:= .agg #[.int .i64 0,.string ⟨#[]⟩,.string ⟨#[]⟩,.string ⟨#[]⟩,.int .i64 0,.string ⟨#[]⟩,ai]) (size:=7) (bytes:=104) (by kernel_rfl);refine aT ?_;refine ah (bD uA) ?_;refine ah (bM mY (v:=vl) ((z6.cell 4).trans rfl)) ?_;refine ah aN ?_;refine ah (jK (vs:=[(0,.int .i64 2),(1,.string s)]) (XZ 2 s)) ?_;refine ah (Js rfl rfl mY aO hsz hz) ?_;have cR:=eK w7 #[.int .i64 2,.string s,.string ⟨#[]⟩,.string ⟨#[]⟩,.int .i64 0,.string ⟨#[]⟩,ai] 28;have hnew: ∀(j:Nat) (u:Value),[Value.int .i64 2,.string s,.string ⟨#[]⟩,.string ⟨#[]⟩,.int .i64 0,.string ⟨#[]⟩,ai][j]? =some u->(w7.alloc (.cells #[.int .i64 2,.string s,.string ⟨#[]⟩,.string ⟨#[]⟩,.int .i64 0,.string ⟨#[]⟩,ai] 28)).cell? ((⟨w7.heap.size,0,none⟩:Addr).add j)=some u:=fun j u hu=>yJ (w:=w7) (xs:=[Value.int .i64 2,.string s,.string ⟨#[]⟩,.string ⟨#[]⟩,.int .i64 0,.string ⟨#[]⟩,ai]) (T:=28) j u hu
 generalize w7.alloc (.cells #[.int .i64 2,.string s,.string ⟨#[]⟩,.string ⟨#[]⟩,.int .i64 0,.string ⟨#[]⟩,ai] 28)=w8 at cR hnew ⊢;have H8:=H7.below cR;have U8:=da (N':=(fun x=>N x/\vu.ownBlock≠some x)) U7 cR fun x hx=> .inl hx;have y6:=z6.below cR z6.lt;have y4:=z4.below cR z4.lt;have gG:=bt iX cR;have hll:(lN h s).log.length<1048576:=by exact hh.ll
 have hrs:Rs w8 (BM M (fun x=>N x/\vu.ownBlock≠some x)) (aE.cells (nZ 2 s)) [Value.int .i64 2,.string s,.string ⟨#[]⟩,.string ⟨#[]⟩,.int .i64 0,.string ⟨#[]⟩,ai]:=YV (by decide) hs;obtain ⟨bG,w9,Fq,mL,jU,rR⟩:=or_append (P:=ay) (ty:=38) (c:=1) (a:=⟨w7.heap.size,0,none⟩) mY aO hz hsz hby rfl (by decide) H8.l H8.nb (r:=aE.cells (nZ 2 s)) (us:=[Value.int .i64 2,.string s,.string ⟨#[]⟩,.string ⟨#[]⟩,.int .i64 0,.string ⟨#[]⟩,ai]) rfl rfl (fun j d hj=>hrs.get hj) hnew (by intro u hu;simp at hu;rcases hu with rfl|rfl|rfl|rfl|rfl|rfl|rfl<;>rfl) (by rw [cV];exact hll) (by decide);have mL:OR M (fun x=>(fun x=>N x/\vu.ownBlock≠some x) x\/bG.ownBlock=some x) w9 28 7 (((lN h s).log++[nZ 2 s]).map aE.cells) bG:=by rw [uj];exact mL
 have H9:=H8.Me jU mL rR;have xR:bG.oneCell'=true:=by obtain ⟨a,c,rfl,_⟩:=mL.len;rfl
 have U9:=H8.Zd jU mL rR U8;have g6:some w2.heap.size≠vl.ownBlock:=fun e=>xM (.inr e.symm);have g4:some (w.heap.size+1)≠vl.ownBlock:=fun e=>uI (.inr e.symm);have x6:=y6.grown jU g6;have x4:=y4.grown jU g4;have lB:Below w.heap.size w w9:=⟨jU.os.trans gG.os,jU.tape.trans gG.tape,jU.output.trans gG.output,dq gG.size jU.size,fun i hi=>(jU.block i (by have:=gG.size;omega) fun e=>by have:=hkl i (.inr e.symm);omega).trans (gG.block i hi)⟩;refine ah (uS rfl rfl rfl Fq) ?_;refine ah (bD uA) ?_;refine qC (qg rfl rfl rfl (by kernel_rfl) xR ((x6.cell 4).trans rfl) (x6.frozen 4)) ?_;have t6:aC (w9.setCell ⟨w2.heap.size,0+4,none⟩ bG) w2.heap.size 40 (aD ve vp dr vs bG):=x6.sr 4 bG;have ja:bN w9 (w9.setCell ⟨w2.heap.size,0+4,none⟩ bG) w2.heap.size:=(bN.refl w9 w2.heap.size).set (0+4) bG;generalize w9.setCell ⟨w2.heap.size,0+4,none⟩ bG=qu at t6 ja ⊢;have k6': ¬KV vp bG w2.heap.size:=fun hk=>hk.elim (fun e=>xM (.inl e)) fun e=>by
  rcases rR with h1|h1
  ·exact xM (.inr (h1▸e))
  ·rw [h1] at e;have:=gh e;have:=y6.lt;omega
 have k4': ¬KV vp bG (w.heap.size+1):=fun hk=>hk.elim (fun e=>uI (.inl e)) fun e=>by
  rcases rR with h1|h1
  ·exact uI (.inr (h1▸e))
  ·rw [h1] at e;have:=gh e;have:=y4.lt;omega
 have kM': ∀x,KV vp bG x-> ∀o,¬M ⟨x,o,none⟩:=fun x hx=>hx.elim (fun e=>kM x (.inl e)) fun e o hm=>by
  rcases rR with h1|h1
  ·exact kM x (.inr (h1▸e)) o hm
  ·rw [h1] at e;have:=gh e;have h2:x<w.heap.size:=hG.1 _ hm;have:=gG.size;omega
 have Ec:=H9.one ja (.inl n6) k6' Np;have Ca:=gz U9 ja (.inl n6);have t4:=(ja.block (w.heap.size+1) (by omega)).trans x4;have xF:Below w.heap.size w qu:=⟨ja.os.trans lB.os,ja.tape.trans lB.tape,ja.output.trans lB.output,by rw [ja.size];exact lB.size,fun i hi=>(ja.block i (by omega)).trans (lB.block i hi)⟩;refine bQ ?_;refine bq (E':=[(4,PH (w.heap.size+1)),(6,PH w2.heap.size)]) ?_;refine aT ?_;refine ah (bE cZ t6 bK) ?_;refine cj rfl (cs:=aD ve vp dr vs bG) rfl t4 (one dr bG zl xR) bK fun vC z11 lF=> ?_;refine ah cy ?_;have WQ:=Ec.one lF (.inl n4) k4' C6;have Xf:=gz Ca lF (.inl n4);have ZC:Below w.heap.size w vC:=⟨lF.os.trans xF.os,lF.tape.trans xF.tape,lF.output.trans xF.output,by rw [lF.size];exact xF.size,fun i hi=>(lF.block i (by omega)).trans (xF.block i hi)⟩;refine WL.nil (aK (CW.ret (tZ rfl rfl rfl z11 cZ rfl bK ⟨_,rfl,?_,ZC⟩)));have hd:zw h s=tI (lN h s) (nZ 2 s):=by unfold zw;rw [aA ho]
 rw [hd,ho];exact ⟨_,rfl,_,_,rfl,WQ.done (Ab Xf) kM',_,_,rfl,rfl,rfl⟩
def avP(h:Host)(s:ByteArray)(hh:qv h):aH ay 16 none [enc h,.str s] (.aL [enc (zw h s),.bool (xY h s)]) [] :=
 yt (by kernel_rfl) fun w M vs hG hR=>by obtain ⟨v,_,rfl,hv,sv,_,rfl,⟨rfl,hs⟩,rfl⟩:=hR;exact aH7 hG hv hs hh
def ake{l:List Entry}(hr:cW l=true): ∀x∈rZ l,0<=dN l x/\(dN l x).toNat<l.length:=fun x hx=>by unfold rZ at hx;rw [aA hr] at hx;obtain ⟨i,hi,rfl⟩:=gD.1 hx;have hil:i<l.length:=Da (k:=l.length) hi;rw [agL hr hil];exact ⟨by omega,by simpa using hil⟩
structure atO(h g:Host)(k:Nat):Prop where
 e:g.entries=h.entries
 l:g.log=h.log
 s:g.shut=h.shut
 n:g.parts.length=h.parts.length
 u:g.up.length<=h.up.length+k
 p: ∀p∈g.parts,di p=true
def abo{h:Host}(H:sP h)(all:List ByteArray): ∀k,k<=(rZ h.entries).length->atO h (mg h all k) k
 | 0,_=>⟨rfl,rfl,rfl,rfl,bU _,tF H⟩
 | k+1,hk=>by
  have ih:=abo H all k (by omega);unfold mg;simp only;split
  ·refine ⟨ih.e,ih.l,ih.s,?_,?_,?_⟩
   ·simp only [Bm,uh];exact ih.n
   ·simp only [Bm,jw,List.length_singleton];have:=ih.u;omega
   ·intro p hp;simp only [Bm] at hp;rcases sU hp with h1|h1
    ·exact ih.p p h1
    ·rw [h1];refine Uk (ih.p _ (iC ?_)) _;unfold cL;rw [ih.e,ih.n,H.len];exact (ake H.tK _ (iC (by omega))).2
  ·exact ⟨ih.e,ih.l,ih.s,ih.n,by have:=ih.u;omega,ih.p⟩
structure SG(M:Addr->Prop)(N:Nat->Prop)(w W:World)(b6:Nat)(g:Host)(all:List ByteArray)(arg:Array Value)(ve vp vu vs vl va:Value):Prop where
 H:HX M N W g ve vp vs vl
 U:OR M N W 9 1 (g.up.map aE.cells) vu
 q2:aC W w.heap.size 40 arg
 q4:aC W (w.heap.size+1) 40 #[ai,ai,ai,ai,ai]
 q6:aC W b6 40 (aD ve vp vu vs vl)
 bw:Below w.heap.size w W
 a:R W (BM M N) (ax all) va
 n4:N (w.heap.size+1)
 n6:N b6
 nw: ∀x,N x->w.heap.size<=x
 lo:w.heap.size+2<=b6
 ua: ∀x,vu.ownBlock=some x-> ¬KV vp vl x/\w.heap.size+2<=x/\x≠b6
section
variable {M:Addr->Prop}{N:Nat->Prop}{w W W':World}{b6:Nat}{g:Host}{all:List ByteArray}{arg:Array Value}{ve vp vu vs vl va:Value}
def SG.below(S:SG M N w W b6 g all arg ve vp vu vs vl va)(hb:Below W.heap.size W W'):SG M N w W' b6 g all arg ve vp vu vs vl va :=
 {S with
  H:=S.H.below hb
  U:=S.U.below hb (fun x hx=> .inl hx) fun x hx=>hx
  q2:=S.q2.below hb S.q2.lt
  q4:=S.q4.below hb S.q4.lt
  q6:=S.q6.below hb S.q6.lt
  bw:=bt S.bw hb
  a:=da S.a hb fun x hx=> .inl hx}
def SG.mb(S:SG M N w W b6 g all arg ve vp vu vs vl va)(hM: ∀q,M q->q.block<w.heap.size){x:Nat}(hx:vu.ownBlock=some x): ∀o,¬M ⟨x,o,none⟩:=fun o hm=>by have:=(S.ua x hx).2.1;have h2:x<w.heap.size:=hM _ hm;omega
def SG.up(S:SG M N w W b6 g all arg ve vp vu vs vl va)(hM: ∀q,M q->q.block<w.heap.size):R W (BM M fun x=>N x/\vu.ownBlock≠some x) (ax g.up) vu:=S.U.xV (fun x hx=>hx.1) fun x hx=>⟨fun hq=>hq.2 hx,S.mb hM hx⟩
def SG.less(S:SG M N w W b6 g all arg ve vp vu vs vl va):HX M (fun x=>N x/\vu.ownBlock≠some x) W g ve vp vs vl:=S.H.less (fun x hx=>hx.1) fun x hx=>⟨hx.elim (fun e=>(S.H.p.lt x e).1) fun e=>(S.H.l.lt x e).1,fun e=>(S.ua x e).1 hx⟩
def ai3{K N':Nat->Prop}{d:D}{v:Value}(h:R W (BM M N) d v)(f:dF K W W')(hK: ∀x,K x->N x)(hN: ∀x,N' x->N x\/W.heap.size<=x):R W' (BM M N') d v :=
 R.keep (fun p u hc hn=>by have hpl:=gR hc;have hb:W'.heap[p.block]? =W.heap[p.block]? :=f.block p.block hpl fun hk=>hn (.inr (hK _ hk));exact ⟨by unfold World.cell? at hc ⊢;rw [hb];exact hc,fun h=>h.elim (fun h=>hn (.inl h)) fun h=>(hN _ h).elim (fun h=>hn (.inr h)) fun h=>by omega⟩) _ _ h
end
set_option maxHeartbeats 4000000 in
def aH6{M:Addr->Prop}{w:World}{h:Host}{s:ByteArray}{v:Value}(hG:fN w M)(hv:R w M (enc h) v)(hs:s.size<=maxLen)(hh:qv h) :
  Calls ay 21 #[v,.string s] w fun e w'=> ∃r,e= .returned r/\R w' M (.aL [enc (zu h s),.bool (vc h s)]) r/\Below w.heap.size w w':=by
 obtain ⟨ae,ap,au,aU,al,rfl,pu,hap,xD,has,hal⟩:=CM hv;refine tj (E:=[(0,.agg (aD ae ap au aU al)),(1,.string s)]) Tryz.func21 rfl Tryz.ntmps21 (by simp) (by simp) ?_;refine aT ?_;refine ah uT ?_;refine ah (cY rfl pE) ?_;refine ah cy ?_;refine bQ ?_;change CW _ ay _ _ _ ((w.alloc (.cells (aD ae ap au aU al) 40)).alloc (.cells #[ai,ai,ai,ai,ai] 40));refine CW.sub (E':=[(1,.string s),(2,PH w.heap.size),(4,PH (w.heap.size+1))]) ⟨rfl,rfl,by simp only [dI];rfl,trivial⟩ ?_;have q2:aC ((w.alloc (.cells (aD ae ap au aU al) 40)).alloc (.cells #[ai,ai,ai,ai,ai] 40)) w.heap.size 40 (aD ae ap au aU al):=(aC.new w _ _).alloc _;have q4:aC ((w.alloc (.cells (aD ae ap au aU al) 40)).alloc (.cells #[ai,ai,ai,ai,ai] 40)) (w.heap.size+1) 40 #[ai,ai,ai,ai,ai]:=by have:=uX (w.alloc (.cells (aD ae ap au aU al) 40));rw [dI] at this;exact this
 have hb1:Below w.heap.size w ((w.alloc (.cells (aD ae ap au aU al) 40)).alloc (.cells #[ai,ai,ai,ai,ai] 40)):=bt (eK _ _ _) (eK _ _ _);generalize (w.alloc (.cells (aD ae ap au aU al) 40)).alloc (.cells #[ai,ai,ai,ai,ai] 40)=w1 at q2 q4 hb1 ⊢;obtain ⟨B,hB⟩: ∃B:Nat->Prop,B=fun x=>x=w.heap.size\/x=w.heap.size+1:=⟨_,rfl⟩;have hBw: ∀x,B x->w.heap.size<=x:=fun x hx=>by rw [hB] at hx;rcases hx with hx|hx<;>omega
 have Zh:B (w.heap.size+1):=by rw [hB];exact .inr rfl
 have l4:=q4.lt;have CG: ∀x,B x->x<w1.heap.size:=fun x hx=>by rw [hB] at hx;rcases hx with hx|hx<;>omega
 have hG1:fN w1 (BM M B):=⟨fun q hq=>hq.elim (fun hq=>dm (hG.1 q hq) hb1.size) (CG _),hG.2.1.keep fun k hk=>hb1.block k (dm hk hG.2.2),dq hG.2.2 hb1.size⟩;refine aT ?_;refine ah (bE cZ q2 bK) ?_;refine dC (ad9 hG1 (pF hv hb1 hBw) hh.el hh.ef (KG hh.ul (by decide)) hh.sl hh.pl (fun p hp=>⟨(hh.pc p hp).1,dq (hh.pc p hp).2 (by decide)⟩) hh.ll hh.lr) ?_;rintro _ w2 ⟨N0,ve,vp,vu,vs,vl,rfl,H2,U2,hun,xB,hb2⟩;refine ⟨_,rfl,?_⟩;have hkl: ∀x,KV vp vl x->w1.heap.size<=x:=fun x hx=>xB x (hx.elim (fun e=>(H2.p.lt x e).1) fun e=>(H2.l.lt x e).1);have rU: ∀x,vu.ownBlock=some x->w1.heap.size<=x:=fun x hx=>xB x (U2.lt x hx).1;have H2:=H2.shift fun x hx=>dm (CG x hx) hb2.size;have U2:=U2.shift;have p2:=q2.below hb2 q2.lt;have p4:=q4.below hb2 q4.lt;have qO:=bt hb1 hb2;have aiy:=hb2.size;have aix:=hb1.size;have ME: ∀x,KV vp vl x->x<w2.heap.size:=fun x hx=>hx.elim (fun e=>(H2.p.lt x e).2) fun e=>(H2.l.lt x e).2;have SR: ∀x,vu.ownBlock=some x->x<w2.heap.size:=fun x hx=>(U2.lt x hx).2;have oe:ve.oneCell'=true:=kD (show R w2 _ (.sl (h.entries.map aE.cells)) ve from H2.e);have os:vs.oneCell'=true:=kD (show R w2 _ (.sl (h.shut.map aE.cells)) vs from H2.s);have op:vp.oneCell'=true:=by obtain ⟨a,c,rfl,_⟩:=H2.p.len;rfl
 have ol:vl.oneCell'=true:=by obtain ⟨a,c,rfl,_⟩:=H2.l.len;rfl
 have ou:vu.oneCell'=true:=by obtain ⟨a,c,rfl,_⟩:=U2.len;rfl
 have one: ∀(vu vl:Value),vu.oneCell'=true->vl.oneCell'=true-> ∀u∈(aD ve vp vu vs vl).toList,u.oneCell'=true:=fun vu vl ou ol u hu=>by simp [aD] at hu;rcases hu with rfl|rfl|rfl|rfl|rfl<;>assumption
 refine ah (cY rfl pE) ?_;refine cj rfl (cs:=aD ve vp vu vs vl) rfl (uX w2) (one vu vl ou ol) bK fun w3 q6 oB=> ?_;have hb3:=HY oB;have s3:w3.heap.size=w2.heap.size+1:=by rw [oB.size,dI]
 obtain ⟨N,hN⟩: ∃N:Nat->Prop,N=fun x=>(N0 x\/B x)\/x=w2.heap.size:=⟨_,rfl⟩;have Fo: ∀x,N x->w.heap.size<=x:=fun x hx=>by
  rw [hN] at hx;rcases hx with (hx|hx)|hx
  ·have:=xB x hx;omega
  ·exact hBw x hx
  ·omega
 have RR:N w2.heap.size:=by rw [hN];exact .inr rfl
 have tw:N (w.heap.size+1):=by rw [hN];exact .inl (.inr Zh)
 have wu: ∀x,N x->(N0 x\/B x)\/w2.heap.size<=x:=fun x hx=>by rw [hN] at hx;exact hx.imp id fun e=>by omega
 have IL: ∀x,(N0 x\/B x)->N x:=fun x hx=>by rw [hN];exact .inl hx
 have H3:HX M N w3 h ve vp vs vl:=H2.new hb3 wu IL fun x hx=>by
  rw [hN] at hx;rcases hx with hx|hx
  ·have:=H2.nb x hx;omega
  ·omega
 have U3:OR M N w3 9 1 (h.up.map aE.cells) vu:=U2.below hb3 wu IL;have q2:=p2.below hb3 p2.lt;have q4:=p4.below hb3 p4.lt;have nD:=bt qO hb3;clear H2 U2 p2 p4 hb3 oB qO;refine bQ ?_;refine bq (E':=[(1,.string s),(2,PH w.heap.size),(4,PH (w.heap.size+1)),(6,PH w2.heap.size)]) ?_;have AR:=pF hv nD Fo;obtain ⟨ae',ap',au',as',al',ev,_,_,Aw,_,_⟩:=CM AR;have Aw:R w3 (BM M N) (ax h.up) au:=by cases ev;exact Aw
 refine CW.seq (aT ?_);refine ah (bE cZ q2 bK) ?_;refine ah aN ?_;refine dC (aH.calls (LF h s hh) H3.cE (vs:=[.agg (aD ae ap au aU al),.string s]) ⟨_,_,rfl,AR,_,[],rfl,⟨rfl,hs⟩,rfl⟩) ?_;rintro _ w4 ⟨_,rfl,jh,hb4⟩;obtain rfl:=jh;refine ⟨_,rfl,?_⟩;have H4:=H3.below hb4;have U4:=U3.below hb4 (N':=N) (fun x hx=> .inl hx) fun x hx=>hx;have p2:=q2.below hb4 q2.lt;have p4:=q4.below hb4 q4.lt;have p6:=q6.below hb4 q6.lt;have Mq:=da (N':=N) Aw hb4 fun x hx=> .inl hx;have eM:=bt nD hb4;clear H3 U3 q2 q4 q6 hb4 nD AR Aw;have kM: ∀x,KV vp vl x-> ∀o,¬M ⟨x,o,none⟩:=fun x hx o hm=>by have:=hkl x hx;have h2:x<w.heap.size:=hG.1 _ hm;omega
 have aCE: ∀(vu:Value),vu.oneCell'=true-> ∀u∈(aD ve vp vu vs vl).toList,u.oneCell'=true:=fun vu ou=>one vu vl ou ol;have no: ∀(w5:World),vc h s=false->HX M N w5 h ve vp vs vl->OR M N w5 9 1 (h.up.map aE.cells) vu->aC w5 (w.heap.size+1) 40 (aD ve vp vu vs vl)->Below w.heap.size w w5 ->
   R w5 M (.aL [enc (zu h s),.bool (vc h s)]) (.tuple #[.agg (aD ve vp vu vs vl),.bool false]):=fun w5 ho H5 U5 _ _=>by
  have hd:zu h s=h:=by unfold zu;simp [ho]
  rw [hd,ho];refine ⟨_,rfl,_,_,rfl,H5.done (Ab (U5.xV (N':=fun _=>False) (fun _ h=>h.elim) fun x hx=>⟨id,fun o hm=>by have:=rU x hx;have h2:x<w.heap.size:=hG.1 _ hm;omega⟩)) kM,_,_,rfl,rfl,rfl⟩
 have uI: ¬KV vp vl (w.heap.size+1):=fun hk=>by have:=hkl _ hk;omega
 have xM: ¬KV vp vl w2.heap.size:=fun hk=>by have:=ME _ hk;omega
 have C6:NG<=w.heap.size+1:=by have:=hG.2.2;omega
 have Np:NG<=w2.heap.size:=by have:=hG.2.2;omega
 refine ah r9 ?_;refine ah aN ?_;rcases hm:iP h s with _|_
 ·refine iV (b:=true) ?_;refine iV (b:=true) ?_;refine iV (b:=true) ?_;refine iV (b:=true) ?_;refine ah (uW rfl rfl rfl) ?_;refine WL.nil (aK (fq ?_));refine aT ?_;refine ah (bE cZ p6 bK) ?_;refine cj rfl (cs:=aD ve vp vu vs vl) rfl p4 (one vu vl ou ol) bK fun w5 z4 dw=> ?_;refine ah cy ?_;have H5:=H4.one dw tw uI C6;have U5:=U4.one dw tw fun e=>by have:=rU _ e;omega
  have hb5:Below w.heap.size w w5:=⟨dw.os.trans eM.os,dw.tape.trans eM.tape,dw.output.trans eM.output,by rw [dw.size];exact eM.size,fun i hi=>(dw.block i (by omega)).trans (eM.block i hi)⟩;refine WL.nil (aK (CW.ret ?_));refine NX.ret (tZ rfl rfl rfl z4 cZ rfl bK ⟨_,rfl,no w5 (by unfold vc;rw [hm];rfl) H5 U5 z4 hb5,hb5⟩)
 refine mB (b:=false) (bD uz) ?_;refine mB (b:=false) (bM fY (v:=au) ((p2.cell 2).trans rfl)) ?_;refine mB (b:=false) aN ?_;refine Ep (b:=false) (aH.calls (mH h.up s) H4.cE (vs:=[au,.string s]) ⟨_,_,rfl,Mq,_,[],rfl,⟨rfl,hs⟩,rfl⟩) ?_;rintro _ w5 ⟨_,rfl,jh,hb5⟩;obtain rfl:=jh;refine ⟨_,rfl,?_⟩;have H5:=H4.below hb5;have U5:=U4.below hb5 (N':=N) (fun x hx=> .inl hx) fun x hx=>hx;have q2:=p2.below hb5 p2.lt;have q4:=p4.below hb5 p4.lt;have q6:=p6.below hb5 p6.lt;have lA:=bt eM hb5;clear H4 U4 p2 p4 p6 hb5 eM Mq;refine ah (uV rfl rfl rfl) ?_;rcases qQ:hasB h.up s with _|_
 rotate_left
 ·refine WL.nil (aK (fq ?_));refine aT ?_;refine ah (bE cZ q6 bK) ?_;refine cj rfl (cs:=aD ve vp vu vs vl) rfl q4 (one vu vl ou ol) bK fun w5 z4 dw=> ?_;refine ah cy ?_;have H5:=H5.one dw tw uI C6;have U5:=U5.one dw tw fun e=>by have:=rU _ e;omega
  have hb5:Below w.heap.size w w5:=⟨dw.os.trans lA.os,dw.tape.trans lA.tape,dw.output.trans lA.output,by rw [dw.size];exact lA.size,fun i hi=>(dw.block i (by omega)).trans (lA.block i hi)⟩;refine WL.nil (aK (CW.ret ?_));refine NX.ret (tZ rfl rfl rfl z4 cZ rfl bK ⟨_,rfl,no w5 (by unfold vc;rw [hm,qQ];rfl) H5 U5 z4 hb5,hb5⟩)
 refine WL.nil (aK (CW.no (CW.skip (aK ?_))));have hO:sP h:=CL.1 (by unfold iP at hm;simp only [aP] at hm;exact hm.1.1);have IY:h.log.length<24:=by unfold iP at hm;simp only [aP,cC] at hm;exact hm.2
 have hrl:(xU h.entries s).length<=1048576:=by
  unfold xU;split
  ·split
   ·exact dq (Ji _ _) hh.el
   ·simp
  ·simp
 refine bq (E':=[(1,.string s),(2,PH w.heap.size),(4,PH (w.heap.size+1)),(6,PH w2.heap.size)]) ?_;refine aT ?_;refine ah (bD tv) ?_;refine ah (bM pY (v:=ae) ((q2.cell 0).trans rfl)) ?_;refine ah aN ?_;refine dC (aH.calls (aH.fD (avJ h.entries s)) H5.cE (vs:=[ae,.string s]) ⟨_,_,rfl,pF pu lA Fo,_,[],rfl,⟨rfl,hs⟩,rfl⟩) ?_;rintro _ w6 ⟨vr,rfl,fT,nB⟩;refine ⟨_,rfl,?_⟩;refine ah aN ?_;refine dC (aH.calls (aH.fD (EY (xU h.entries s) s hrl)) (H5.below nB).cE (vs:=[vr,.string s]) ⟨_,_,rfl,fT,_,[],rfl,⟨rfl,hs⟩,rfl⟩) ?_;rintro _ w7 ⟨va,rfl,SU,jg⟩;refine ⟨_,rfl,?_⟩;refine ah cy ?_;refine bQ ?_;obtain ⟨all,hall⟩: ∃all,z8 h s=all:=⟨_,rfl⟩;have SU:R w7 (BM M N) (ax all) va:=by rw [<-hall];exact SU
 have lP:=bt nB jg;have S:SG M N w w7 w2.heap.size h all (aD ae ap au aU al) ve vp vu vs vl va :=
  ⟨H5.below lP,U5.below lP (fun x hx=> .inl hx) fun x hx=>hx,q2.below lP q2.lt,q4.below lP q4.lt,q6.below lP q6.lt,bt lA lP,SU,tw,RR,Fo,by omega,fun x hx=>⟨hun x hx,by have:=rU x hx;omega,by have:=SR x hx;omega⟩⟩
 clear H5 U5 q2 q4 q6 lA SU lP nB jg fT;have hMw: ∀q,M q->q.block<w.heap.size:=hG.1;obtain ⟨aa,ac,eva,ahE,_⟩:=oW (nL (n:=1) (fun _=>rfl) all) S.a;rw [cV] at eva ahE;unfold maxLen at ahE;subst eva;refine bq (E':=[(1,.string s),(2,PH w.heap.size),(4,PH (w.heap.size+1)),(6,PH w2.heap.size),(7,.slice aa all.length ac)]) ?_;refine CW.seq (aT ?_);refine ah aN ?_;refine ah (Bk rfl rfl rfl rfl fY rfl) ?_;refine ah aN ?_;refine bQ ?_;refine bq (E':=[(1,.string s),(2,PH w.heap.size),(4,PH (w.heap.size+1)),(6,PH w2.heap.size),(7,.slice aa all.length ac),(31,.slice aa all.length ac),(32,.int .i64 (all.length:Int)),(33,.int .i64 ((0:Nat):Int))]) ?_;refine CW.block (CW.loop (fun m E' wr=> ∃(k:Nat),m+k=all.length/\E'=[(1,.string s),(2,PH w.heap.size),(4,PH (w.heap.size+1)),(6,PH w2.heap.size),(7,.slice aa all.length ac),(31,.slice aa all.length ac),(32,.int .i64 (all.length:Int)),(33,.int .i64 (k:Int))] /\
  (∀i,i<k->hasB h.shut (nth all i)=false)/\SG M N w wr w2.heap.size h all (aD ae ap au aU al) ve vp vu vs vl (.slice aa all.length ac)) all.length ⟨0,rfl,rfl,fun i hi=>absurd hi (by omega),S⟩ ?_)
 clear S;rintro m E' wr ⟨k,hmk,rfl,FI,S⟩;refine aT ?_;rcases vP m with hm0|hm0
 rotate_left
 ·obtain ⟨m',rfl⟩: ∃m',m=m'+1:=⟨m-1,by omega⟩;have hk:k<all.length:=by omega
  refine ah (jC (b:=true) (hb:=by simp [ba];omega)) ?_;refine WL.nil (aK (CW.seq (fq (CW.skip (aK ?_)))));obtain ⟨ub,uo,uc,xK,hcell,hxs⟩:=UT S.a hk;obtain ⟨x,hx⟩: ∃x,nth all k=x:=⟨_,rfl⟩;rw [hx] at hcell hxs;simp only [gF,sX] at xK;obtain ⟨rfl,rfl⟩:=xK;refine CW.seq (CW.block ?_);refine aT ?_;refine ah (qX hk Cw) ?_;refine ah (bM jq (v:= .string x) hcell) ?_;refine ah cy ?_;refine bQ ?_;refine aT ?_;refine ah (bD CB) ?_;refine ah (bM fY (v:=aU) ((S.q2.cell 3).trans rfl)) ?_;refine ah aN ?_;refine dC (aH.calls (mH h.shut x) S.H.cE (vs:=[aU,.string x]) ⟨_,_,rfl,pF has S.bw S.nw,_,[],rfl,⟨rfl,hxs⟩,rfl⟩) ?_;rintro _ w8 ⟨_,rfl,jh,qN⟩;obtain rfl:=jh;refine ⟨_,rfl,?_⟩;have S8:=S.below qN;refine bQ ?_;rcases hxb:hasB h.shut x with _|_
  ·refine CW.no (CW.skip (vG (aK (CW.region ?_))));refine ah (jB (r:=((k+1:Nat):Int)) (hb:=by rw [bW];omega)) ?_;refine ah aN ?_;exact WL.nil (NX.again m' [(1,.string s),(2,PH w.heap.size),(4,PH (w.heap.size+1)),(6,PH w2.heap.size),(7,.slice (some ⟨ub,uo,none⟩) all.length ac),(31,.slice (some ⟨ub,uo,none⟩) all.length ac),(32,.int .i64 (all.length:Int)),(33,.int .i64 ((k+1:Nat):Int))] (by omega) ⟨rfl,rfl,rfl,rfl,rfl,rfl,rfl,rfl,trivial⟩ ⟨k+1,by omega,rfl,fun i hi=>by
    rcases dY i k with h1|h1
    ·exact FI i h1
    ·obtain rfl:i=k:=by omega
     rw [hx];exact hxb,S8⟩)
  ·refine fq ?_;have hno:vc h s=false:=by
    have:((z8 h s).all fun x=> !hasB h.shut x)=false:=by rw [hall,List.all_eq_false];exact ⟨x,by rw [<-hx];exact iC hk,by simp [hxb]⟩
    unfold vc;rw [this];simp
   refine aT ?_;refine ah (bE cZ S8.q6 bK) ?_;refine cj rfl (cs:=aD ve vp vu vs vl) rfl S8.q4 (one vu vl ou ol) bK fun w5 z4 dw=> ?_;refine ah cy ?_;have H5:=S8.H.one dw tw uI C6;have U5:=S8.U.one dw tw fun e=>by have:=rU _ e;omega
   have hb5:Below w.heap.size w w5:=⟨dw.os.trans S8.bw.os,dw.tape.trans S8.bw.tape,dw.output.trans S8.bw.output,by rw [dw.size];exact S8.bw.size,fun i hi=>(dw.block i (by omega)).trans (S8.bw.block i hi)⟩;refine WL.nil (aK (CW.ret ?_));refine vH (NX.ret (NX.ret (vH (NX.ret (tZ rfl rfl rfl z4 cZ rfl bK ⟨_,rfl,no w5 (hno) H5 U5 z4 hb5,hb5⟩)))))
 subst hm0;obtain rfl:k=all.length:=by omega
 have ho:vc h s=true:=by
  have:((z8 h s).all fun x=> !hasB h.shut x)=true:=by rw [hall,fO];intro x hx;obtain ⟨i,hi,rfl⟩:=KD.1 hx;have:=FI i hi;rw [nth,List.getD,cO hi] at this;simpa using this
  unfold vc;rw [this,hm,qQ];rfl
 refine ah (jC (b:=false) (hb:=by simp [ba])) ?_;refine WL.nil (aK (CW.seq (CW.no (CW.exit (sQ (sQ (Ed (aK ?_))))))));clear FI hmk;refine CW.seq (aT ?_);refine ah (bD tv) ?_;refine ah (bM pY (v:=ae) ((S.q2.cell 0).trans rfl)) ?_;refine dC (aH.calls (aH.fD (avN h.entries)) S.H.cE (vs:=[ae]) ⟨_,[],rfl,pF pu S.bw S.nw,rfl⟩) ?_;rintro _ w8 ⟨vo,rfl,AW,qN⟩;refine ⟨_,rfl,?_⟩;have S8:=S.below qN;clear S qN;obtain ⟨ord,il⟩: ∃ord,rZ h.entries=ord:=⟨_,rfl⟩;rw [il] at AW;have hol:ord.length<=6:=by rw [<-il];unfold rZ;rw [aA hO.tK,Nq];have h1:=akc h.entries;have h2:=(q9 hO.tK).1;omega
 obtain ⟨oa,oc,evo,_⟩:=oW (nL (n:=1) (fun _=>rfl) ord) AW;rw [cV] at evo;subst evo;refine ah (Bk rfl rfl rfl rfl fY rfl) ?_;refine ah aN ?_;refine bQ ?_;refine bq (E':=[(1,.string s),(4,PH (w.heap.size+1)),(6,PH w2.heap.size),(7,.slice aa all.length ac),(45,.slice oa ord.length oc),(46,.int .i64 (ord.length:Int)),(47,.int .i64 ((0:Nat):Int))]) ?_;refine CW.block (CW.loop (fun m E' wr=> ∃(k:Nat) (N:Nat->Prop) (vu:Value),m+k=ord.length/\E'=[(1,.string s),(4,PH (w.heap.size+1)),(6,PH w2.heap.size),(7,.slice aa all.length ac),(45,.slice oa ord.length oc),(46,.int .i64 (ord.length:Int)),(47,.int .i64 (k:Int))] /\
  SG M N w wr w2.heap.size (mg h all k) all (aD ae ap au aU al) ve vp vu vs vl (.slice aa all.length ac)/\R wr (BM M N) (ax ord) (.slice oa ord.length oc)) ord.length ⟨0,_,_,rfl,rfl,S8,AW⟩ ?_)
 clear S8 AW no oe ou SR rU hun RR tw Fo wu IL hN;rintro m E' w7 ⟨k,N,vu,hmk,rfl,S,AW⟩;have rk:=abo hO all k (by rw [il];omega);refine aT ?_;rcases vP m with hm0|hm0
 rotate_left
 ·obtain ⟨m',rfl⟩: ∃m',m=m'+1:=⟨m-1,by omega⟩;have hk:k<ord.length:=by omega
  refine ah (jC (b:=true) (hb:=by simp [ba];omega)) ?_;refine WL.nil (aK (CW.seq (fq (CW.skip (aK ?_)))));obtain ⟨ub,uo,uc,xK,hcell,hxs⟩:=UT AW hk;obtain ⟨x,hx⟩: ∃x,nth ord k=x:=⟨_,rfl⟩;rw [hx] at hcell hxs;simp only [gF,sX] at xK;obtain ⟨rfl,rfl⟩:=xK;refine CW.seq (CW.block ?_);refine aT ?_;refine ah (qX hk Cw) ?_;refine ah (bM jq (v:= .string x) hcell) ?_;refine ah cy ?_;refine bQ ?_;refine aT ?_;refine ah aN ?_;refine ah aN ?_;refine dC (aH.calls (mH all x) S.H.cE (vs:=[.slice aa all.length ac,.string x]) ⟨_,_,rfl,S.a,_,[],rfl,⟨rfl,hxs⟩,rfl⟩) ?_;rintro _ w8 ⟨_,rfl,jh,qN⟩;obtain rfl:=jh;refine ⟨_,rfl,?_⟩;have S8:=S.below qN;have aai:=da (N':=N) AW qN fun x hx=> .inl hx;clear S AW hcell qN;refine ah aN ?_;have fK:mg h all (k+1)=if hasB all x&& !hasB (mg h all k).up x then Bm (mg h all k) x else mg h all k:=by rw [<-hx, <-il];rfl
  have skip: ∀(W:World),(hasB all x&& !hasB (mg h all k).up x)=false->SG M N w W w2.heap.size (mg h all k) all (aD ae ap au aU al) ve vp vu vs vl (.slice aa all.length ac)->SG M N w W w2.heap.size (mg h all (k+1)) all (aD ae ap au aU al) ve vp vu vs vl (.slice aa all.length ac):=fun W hb S=>by rw [fK,hb];exact S
  rcases hab:hasB all x with _|_
  ·refine iV (b:=false) ?_;refine iV (b:=false) ?_;refine iV (b:=false) ?_;refine iV (b:=false) ?_;refine iV (b:=false) ?_;refine ah (uV rfl rfl rfl) ?_;refine WL.nil (aK (CW.no (CW.skip ?_)));refine vG (aK (CW.region ?_));refine ah (jB (r:=((k+1:Nat):Int)) (hb:=by rw [bW];omega)) ?_;refine ah aN ?_;exact WL.nil (NX.again m' [(1,.string s),(4,PH (w.heap.size+1)),(6,PH w2.heap.size),(7,.slice aa all.length ac),(45,.slice (some ⟨ub,uo,none⟩) ord.length oc),(46,.int .i64 (ord.length:Int)),(47,.int .i64 ((k+1:Nat):Int))] (by omega) ⟨rfl,rfl,rfl,rfl,rfl,rfl,rfl,trivial⟩ ⟨k+1,_,vu,by omega,rfl,skip _ (by rw [hab];rfl) S8,aai⟩)
  refine mB (b:=true) (bD uz) ?_;refine mB (b:=true) (bM fY (v:=vu) ((S8.q6.cell 2).trans rfl)) ?_;refine mB (b:=true) aN ?_;refine Ep (b:=true) (aH.calls (mH (mg h all k).up x) S8.less.cE (vs:=[vu,.string x]) ⟨_,_,rfl,S8.up hMw,_,[],rfl,⟨rfl,hxs⟩,rfl⟩) ?_;rintro _ w9 ⟨_,rfl,jh,ku⟩;obtain rfl:=jh;refine ⟨_,rfl,?_⟩;have S9:=S8.below ku;have aiG:=da (N':=N) aai ku fun x hx=> .inl hx;clear S8 aai ku;refine mB (b:=true) r9 ?_;refine ah (uW rfl rfl rfl) ?_;rcases I3:hasB (mg h all k).up x with _|_
  rotate_left
  ·refine WL.nil (aK (CW.no (CW.skip ?_)));refine vG (aK (CW.region ?_));refine ah (jB (r:=((k+1:Nat):Int)) (hb:=by rw [bW];omega)) ?_;refine ah aN ?_;exact WL.nil (NX.again m' [(1,.string s),(4,PH (w.heap.size+1)),(6,PH w2.heap.size),(7,.slice aa all.length ac),(45,.slice (some ⟨ub,uo,none⟩) ord.length oc),(46,.int .i64 (ord.length:Int)),(47,.int .i64 ((k+1:Nat):Int))] (by omega) ⟨rfl,rfl,rfl,rfl,rfl,rfl,rfl,trivial⟩ ⟨k+1,_,vu,by omega,rfl,skip _ (by rw [hab,I3];rfl) S9,aiG⟩)
  refine WL.nil (aK (fq ?_));have hfx:=ake hO.tK x (by rw [il, <-hx];exact iC hk);have hat:cL (mg h all k) x<(mg h all k).parts.length:=by unfold cL;rw [rk.e,rk.n,hO.len];exact hfx.2
  have hpk:=C9 (rk.p _ (iC hat));have amB: ∀y,vu.ownBlock=some y->N y:=fun y hy=>(S9.U.lt y hy).1;refine CW.region ?_;refine ah (bE cZ S9.q6 bK) ?_;refine ah aN ?_;refine dC (aId S9.H S9.U (fun y hy=>⟨(S9.ua y hy).1,by have:=(S9.ua y hy).2.1;have:=hG.2.2;omega⟩) (by rw [rk.e];exact hfx.1) hat (by have:=hpk.1;omega) (by have:=hpk.2;omega) hxs (by have:=rk.u;have:=hh.ul;omega)) ?_;rintro _ qu ⟨dr,rfl,Ec,Ca,NU,f10⟩;refine ⟨_,rfl,?_⟩;have kvN: ∀y,KV vp vl y->N y:=fun y hy=>hy.elim (fun e=>(S9.H.p.lt y e).1) fun e=>(S9.H.l.lt y e).1;have hKN: ∀y,(KV vp vl y\/vu.ownBlock=some y)->N y:=fun y hy=>hy.elim (kvN y) (amB y);have hNN: ∀y,(N y\/dr.ownBlock=some y)->N y\/w9.heap.size<=y:=fun y hy=>hy.elim .inl fun e=>(NU y e).2.2.imp (amB y) id;have Zs: ∀y,(KV vp vl y\/vu.ownBlock=some y)->w.heap.size+2<=y:=fun y hy=>hy.elim (fun e=>by have:=hkl y e;omega) fun e=>(S9.ua y e).2.1;have hK6: ¬(KV vp vl w2.heap.size\/vu.ownBlock=some w2.heap.size):=fun hy=>hy.elim xM fun e=>(S9.ua _ e).2.2 rfl;have l6:=S9.q6.lt;have l4:=S9.q4.lt;have r6:=(f10.block _ l6 hK6).trans S9.q6;have zl:dr.oneCell'=true:=by obtain ⟨a,c,rfl,_⟩:=Ca.len;rfl
  refine cj rfl (cs:=aD ve vp dr vs vl) rfl r6 (aCE dr zl) bK fun vC z6 xQ=> ?_;have u6:dr.ownBlock≠some w2.heap.size:=fun e=>(NU _ e).2.2.elim (fun e2=>(S9.ua _ e2).2.2 rfl) fun h=>by omega
  have K1:Below w.heap.size w qu:=⟨f10.os.trans S9.bw.os,f10.tape.trans S9.bw.tape,f10.output.trans S9.bw.output,dq S9.bw.size f10.size,fun i hi=>(f10.block i (by have:=S9.bw.size;omega) fun hk=>by have:=Zs i hk;omega).trans (S9.bw.block i hi)⟩;have S11:SG M (fun y=>N y\/dr.ownBlock=some y) w vC w2.heap.size (mg h all (k+1)) all (aD ae ap au aU al) ve vp dr vs vl (.slice aa all.length ac):=by
   rw [fK,hab,I3];exact ⟨Ec.one xQ (.inl S9.n6) xM Np,Ca.one xQ (.inl S9.n6) u6,(xQ.block _ (by omega)).trans ((f10.block _ S9.q2.lt fun hk=>by have:=Zs _ hk;omega).trans S9.q2),(xQ.block _ (by omega)).trans ((f10.block _ l4 fun hk=>by have:=Zs _ hk;omega).trans S9.q4),z6,
    ⟨xQ.os.trans K1.os,xQ.tape.trans K1.tape,xQ.output.trans K1.output,by rw [xQ.size];exact K1.size,fun i hi=>(xQ.block i (by omega)).trans (K1.block i hi)⟩,
    gz (ai3 S9.a f10 hKN hNN) xQ (.inl S9.n6),.inl S9.n4,.inl S9.n6,fun y hy=>hy.elim (S9.nw y) fun e=>by
     rcases (NU y e).2.2 with e2|h2
     ·have:=(S9.ua y e2).2.1;omega
     ·have:=S9.bw.size;omega,S9.lo,fun y hy=>⟨(NU y hy).1,by
     rcases (NU y hy).2.2 with e2|h2
     ·exact (S9.ua y e2).2.1
     ·omega,fun e=>u6 (e▸hy)⟩⟩
  have azX:=gz (ai3 aiG f10 hKN hNN) xQ (.inl S9.n6);refine WL.nil ?_;refine vG (aK (CW.region ?_));refine ah (jB (r:=((k+1:Nat):Int)) (hb:=by rw [bW];omega)) ?_;refine ah aN ?_;exact WL.nil (NX.again m' [(1,.string s),(4,PH (w.heap.size+1)),(6,PH w2.heap.size),(7,.slice aa all.length ac),(45,.slice (some ⟨ub,uo,none⟩) ord.length oc),(46,.int .i64 (ord.length:Int)),(47,.int .i64 ((k+1:Nat):Int))] (by omega) ⟨rfl,rfl,rfl,rfl,rfl,rfl,rfl,trivial⟩ ⟨k+1,_,dr,by omega,rfl,S11,azX⟩)
 subst hm0;obtain rfl:k=ord.length:=by omega
 refine ah (jC (b:=false) (hb:=by simp [ba])) ?_;refine WL.nil (aK (CW.seq (CW.no (CW.exit (sQ (sQ (Ed (aK ?_))))))));have n6:N w2.heap.size/\vu.ownBlock≠some w2.heap.size:=⟨S.n6,fun e=>(S.ua _ e).2.2 rfl⟩;have n4:N (w.heap.size+1)/\vu.ownBlock≠some (w.heap.size+1):=⟨S.n4,fun e=>by have:=(S.ua _ e).2.1;omega⟩;have H7:=S.less;have U7:=S.up hMw;have z6:=S.q6;have z4:=S.q4;have iX:=S.bw;have ou:vu.oneCell'=true:=by obtain ⟨a,c,rfl,_⟩:=S.U.len;rfl
 clear S AW;rw [<-il, <-hall] at *;obtain ⟨ti,aO,hz,hsz,hby⟩:=uq (P:=ay) (e:=28) (z:= .agg #[.int .i64 0,.string ⟨#[]⟩,.string ⟨#[]⟩,.string ⟨#[]⟩,.int .i64 0,.string ⟨#[]⟩,ai]) (size:=7) (bytes:=104) (by kernel_rfl);refine aT ?_;refine ah (bD uA) ?_;refine ah (bM mY (v:=vl) ((z6.cell 4).trans rfl)) ?_;refine ah aN ?_;refine ah (jK (vs:=[(0,.int .i64 1),(1,.string s)]) (XZ 1 s)) ?_;refine ah (Js rfl rfl mY aO hsz hz) ?_;have cR:=eK w7 #[.int .i64 1,.string s,.string ⟨#[]⟩,.string ⟨#[]⟩,.int .i64 0,.string ⟨#[]⟩,ai] 28;have hnew: ∀(j:Nat) (u:Value),[Value.int .i64 1,.string s,.string ⟨#[]⟩,.string ⟨#[]⟩,.int .i64 0,.string ⟨#[]⟩,ai][j]? =some u->(w7.alloc (.cells #[.int .i64 1,.string s,.string ⟨#[]⟩,.string ⟨#[]⟩,.int .i64 0,.string ⟨#[]⟩,ai] 28)).cell? ((⟨w7.heap.size,0,none⟩:Addr).add j)=some u:=fun j u hu=>yJ (w:=w7) (xs:=[Value.int .i64 1,.string s,.string ⟨#[]⟩,.string ⟨#[]⟩,.int .i64 0,.string ⟨#[]⟩,ai]) (T:=28) j u hu;generalize w7.alloc (.cells #[.int .i64 1,.string s,.string ⟨#[]⟩,.string ⟨#[]⟩,.int .i64 0,.string ⟨#[]⟩,ai] 28)=w8 at cR hnew ⊢;have H8:=H7.below cR;have U8:=da (N':=(fun x=>N x/\vu.ownBlock≠some x)) U7 cR fun x hx=> .inl hx;have y6:=z6.below cR z6.lt;have y4:=z4.below cR z4.lt;have gG:=bt iX cR;have hll:(mg h (z8 h s) (rZ h.entries).length).log.length<1048576:=by rw [rk.l];omega
 have hrs:Rs w8 (BM M (fun x=>N x/\vu.ownBlock≠some x)) (aE.cells (nZ 1 s)) [Value.int .i64 1,.string s,.string ⟨#[]⟩,.string ⟨#[]⟩,.int .i64 0,.string ⟨#[]⟩,ai]:=YV (by decide) hs;obtain ⟨bG,w9,Fq,mL,jU,rR⟩:=or_append (P:=ay) (ty:=38) (c:=1) (a:=⟨w7.heap.size,0,none⟩) mY aO hz hsz hby rfl (by decide) H8.l H8.nb (r:=aE.cells (nZ 1 s)) (us:=[Value.int .i64 1,.string s,.string ⟨#[]⟩,.string ⟨#[]⟩,.int .i64 0,.string ⟨#[]⟩,ai]) rfl rfl (fun j d hj=>hrs.get hj) hnew (by intro u hu;simp at hu;rcases hu with rfl|rfl|rfl|rfl|rfl|rfl|rfl<;>rfl) (by rw [cV];exact hll) (by decide);have mL:OR M (fun x=>(fun x=>N x/\vu.ownBlock≠some x) x\/bG.ownBlock=some x) w9 28 7 (((mg h (z8 h s) (rZ h.entries).length).log++[nZ 1 s]).map aE.cells) bG:=by rw [uj];exact mL
 have H9:=H8.Me jU mL rR;have xR:bG.oneCell'=true:=by obtain ⟨a,c,rfl,_⟩:=mL.len;rfl
 have U9:=H8.Zd jU mL rR U8;have g6:some w2.heap.size≠vl.ownBlock:=fun e=>xM (.inr e.symm);have g4:some (w.heap.size+1)≠vl.ownBlock:=fun e=>uI (.inr e.symm);have x6:=y6.grown jU g6;have x4:=y4.grown jU g4;have lB:Below w.heap.size w w9:=⟨jU.os.trans gG.os,jU.tape.trans gG.tape,jU.output.trans gG.output,dq gG.size jU.size,fun i hi=>(jU.block i (by have:=gG.size;omega) fun e=>by have:=hkl i (.inr e.symm);omega).trans (gG.block i hi)⟩;refine ah (uS rfl rfl rfl Fq) ?_;refine ah (bD uA) ?_;refine qC (qg rfl rfl rfl (by kernel_rfl) xR ((x6.cell 4).trans rfl) (x6.frozen 4)) ?_;have t6:aC (w9.setCell ⟨w2.heap.size,0+4,none⟩ bG) w2.heap.size 40 (aD ve vp vu vs bG):=x6.sr 4 bG;have ja:bN w9 (w9.setCell ⟨w2.heap.size,0+4,none⟩ bG) w2.heap.size:=(bN.refl w9 w2.heap.size).set (0+4) bG;generalize w9.setCell ⟨w2.heap.size,0+4,none⟩ bG=qu at t6 ja ⊢;have k6': ¬KV vp bG w2.heap.size:=fun hk=>hk.elim (fun e=>xM (.inl e)) fun e=>by
  rcases rR with h1|h1
  ·exact xM (.inr (h1▸e))
  ·rw [h1] at e;have:=gh e;have:=y6.lt;omega
 have k4': ¬KV vp bG (w.heap.size+1):=fun hk=>hk.elim (fun e=>uI (.inl e)) fun e=>by
  rcases rR with h1|h1
  ·exact uI (.inr (h1▸e))
  ·rw [h1] at e;have:=gh e;have:=y4.lt;omega
 have kM': ∀x,KV vp bG x-> ∀o,¬M ⟨x,o,none⟩:=fun x hx=>hx.elim (fun e=>kM x (.inl e)) fun e o hm=>by
  rcases rR with h1|h1
  ·exact kM x (.inr (h1▸e)) o hm
  ·rw [h1] at e;have:=gh e;have h2:x<w.heap.size:=hG.1 _ hm;have:=gG.size;omega
 have Ec:=H9.one ja (.inl n6) k6' Np;have Ca:=gz U9 ja (.inl n6);have t4:=(ja.block (w.heap.size+1) (by omega)).trans x4;have xF:Below w.heap.size w qu:=⟨ja.os.trans lB.os,ja.tape.trans lB.tape,ja.output.trans lB.output,by rw [ja.size];exact lB.size,fun i hi=>(ja.block i (by omega)).trans (lB.block i hi)⟩;refine bQ ?_;refine bq (E':=[(4,PH (w.heap.size+1)),(6,PH w2.heap.size)]) ?_;refine aT ?_;refine ah (bE cZ t6 bK) ?_;refine cj rfl (cs:=aD ve vp vu vs bG) rfl t4 (one vu bG ou xR) bK fun vC z11 lF=> ?_;refine ah cy ?_;have WQ:=Ec.one lF (.inl n4) k4' C6;have Xf:=gz Ca lF (.inl n4);have ZC:Below w.heap.size w vC:=⟨lF.os.trans xF.os,lF.tape.trans xF.tape,lF.output.trans xF.output,by rw [lF.size];exact xF.size,fun i hi=>(lF.block i (by omega)).trans (xF.block i hi)⟩;refine WL.nil (aK (CW.ret (tZ rfl rfl rfl z11 cZ rfl bK ⟨_,rfl,?_,ZC⟩)));have hd:zu h s=tI (mg h (z8 h s) (rZ h.entries).length) (nZ 1 s):=by unfold zu;rw [aA ho]
 rw [hd,ho];exact ⟨_,rfl,_,_,rfl,WQ.done (Ab Xf) kM',_,_,rfl,rfl,rfl⟩
def avO(h:Host)(s:ByteArray)(hh:qv h):aH ay 21 none [enc h,.str s] (.aL [enc (zu h s),.bool (vc h s)]) [] :=
 yt (by kernel_rfl) fun w M vs hG hR=>by obtain ⟨v,_,rfl,hv,sv,_,rfl,⟨rfl,hs⟩,rfl⟩:=hR;exact aH6 hG hv hs hh
end
end Go.Proofs.YtekplmpbkgchfaaGreatDoor
