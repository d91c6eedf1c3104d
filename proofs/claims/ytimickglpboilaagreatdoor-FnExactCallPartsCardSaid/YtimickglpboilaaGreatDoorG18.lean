/- Walk: a layer's own calls in the reference (l4Own). -/
import Derived.Test.YtimickglpboilaaGreatDoorG17
set_option linter.unusedVariables false
set_option linter.unusedSimpArgs false
set_option linter.unusedSectionVars false
set_option maxRecDepth 100000
namespace Go.Proofs.YtimickglpboilaaGreatDoor
open Go.RowKit Go
variable [GC]
theorem ai8(n:Int):IntKind.i64.min<=IntKind.i64.wrap n/\IntKind.i64.wrap n<=IntKind.i64.max:=by
 have e:IntKind.i64.min= -9223372036854775808/\IntKind.i64.max=9223372036854775807:=by decide
 rw [IntKind.wrap_i64,e.1,e.2]
 omega
theorem QX{n:Int}(h:eU n=true):IntKind.i64.min<=bR n/\bR n<=IntKind.i64.max:=by
 have e:IntKind.i64.min= -9223372036854775808/\IntKind.i64.max=9223372036854775807:=by decide
 obtain ⟨h1, -,h2⟩:=zr h
 have:=rS.1 h1
 omega
theorem ad6{m:ByteArray}(ha: ¬gy m<0)(h:cK (mB jJ) (bI m)=true):m=dP:=by
 obtain ⟨j,ew,hm⟩:=Bp ha
 rw [ew] at h
 have h0: ∀j:Fin 6,cK (mB jJ) ((2^j.val:Nat):Int)=true-> ∀s,s∈methods j.val->s=dP:=by decide +kernel
 exact h0 j h m hm
set_option maxHeartbeats 8000000 in
theorem abL{k:Nat}(IH:wW k):JJ k:=by
 intro K N w S1 S2 p x h hx hp hc hk ho
 obtain ⟨b,o,cap,rfl⟩:=h.slot (k:=k) (by omega)
 obtain ⟨h1,h2,h3⟩:=nS.1 hp
 obtain ⟨la,lb,Nb,ld⟩:=h3 k (by omega)
 have ho':cK (mB (nth p.af k).name) (bI x.method)=true:=by
  unfold eC at ho;rw [if_neg (by omega)] at ho;exact ho
 have hsub:=Qq (qV p k) la lb (xy hc) ho'
 have hw:cv .sub .i64 ((k+1:Nat):Int) 1=(k:Int):=by rw [jO (by omega) (by omega)];omega
 have hK:=h.kn
 have HF:=dY.refl K w
 have HN: ∀i,N i->N i:=fun i hi=>hi
 have H:=h
 refine qc (E:=[(0,.agg (aE p S1 (.slice (some ⟨b,o,none⟩) p.af.length cap))),(1,.int .i64 ((k+1:Nat):Int)),(2,dL x)]) Tryz.func61 rfl Tryz.ntmps61 (by simp) (by simp) ?_
 clear h
 refine CW.seq (CW.region ?_)
 refine WL.vv rfl rfl (jH rfl rfl) (by decide) ?_
 obtain ⟨w1,JD,tD,iW,Ai,H',aw,Qr⟩:=H.alloc 37 (aE p S1 (.slice (some ⟨b,o,none⟩) p.af.length cap))
 change WL _ _ _ _ _ _ (w.alloc (.cells (aE p S1 (.slice (some ⟨b,o,none⟩) p.af.length cap)) 37))
 rw [<-tD]
 clear tD
 replace H:=H'
 clear H'
 replace HF:=HF.bQ iW
 replace HN:=fun i hi=>Ai i (HN i hi)
 have Hf:=iW.size
 refine WL.vv rfl rfl (jH rfl rfl) (by decide) ?_
 have Oh:=aw.lt
 obtain ⟨w2,JE,tE,pu,tL,H',az,Qs⟩:=H.alloc 43 #[.string x.method,.string x.key,.int .i64 x.val,.string x.text]
 change WL _ _ _ _ _ _ (w1.alloc (.cells #[.string x.method,.string x.key,.int .i64 x.val,.string x.text] 43))
 rw [<-tE]
 clear tE
 replace H:=H'
 clear H'
 replace HF:=HF.bQ pu
 replace aw:=(aw.below pu).more tL
 replace HN:=fun i hi=>tL i (HN i hi)
 have DJ:=pu.size
 refine WL.vv rfl rfl (cJ rfl gJ) (by decide) ?_
 have Oi:=aw.lt
 have Ol:=az.lt
 obtain ⟨w3,JG,tF,mK,pg,H',ak,Qt⟩:=H.alloc 37 bF
 change WL _ _ _ _ _ _ (w2.alloc (.cells bF 37))
 rw [<-tF]
 clear tF
 replace H:=H'
 clear H'
 replace HF:=HF.bQ mK
 replace aw:=(aw.below mK).more pg
 replace az:=(az.below mK).more pg
 replace HN:=fun i hi=>pg i (HN i hi)
 have DK:=mK.size
 refine WL.vv rfl rfl (cJ rfl gK) (by decide) ?_
 have Om:=aw.lt
 have Oo:=az.lt
 have Oq:=ak.lt
 obtain ⟨w4,uD,tG,fO,mC,H',aq,Qu⟩:=H.alloc 39 aY
 change WL _ _ _ _ _ _ (w3.alloc (.cells aY 39))
 rw [<-tG]
 clear tG
 replace H:=H'
 clear H'
 replace HF:=HF.bQ fO
 replace aw:=(aw.below fO).more mC
 replace az:=(az.below fO).more mC
 replace ak:=(ak.below fO).more mC
 replace HN:=fun i hi=>mC i (HN i hi)
 have Hk:=fO.size
 refine WL.vv rfl rfl (cq rfl rfl) (by decide) ?_
 refine WL.nil (NX.next ?_)
 refine CW.sub (E':=[(1,.int .i64 ((k+1:Nat):Int)),(3,.pointer (some ⟨w.heap.size,0,none⟩)),(5,.pointer (some ⟨w1.heap.size,0,none⟩)),(6,.pointer (some ⟨w2.heap.size,0,none⟩)),(7,.pointer (some ⟨w3.heap.size,0,none⟩)),(8,.bool false)]) ⟨rfl,rfl,rfl,rfl,rfl,rfl,trivial⟩ ?_
 obtain ⟨a0,a1, -, -, -⟩:=H.lay (k:=k) (by omega)
 refine CW.seq (CW.region ?_)
 refine WL.vv rfl rfl (cO rfl rfl oZ) (by decide) ?_
 refine WL.vv rfl rfl (cr rfl rfl Tryz.underlying35 rfl (v:= .slice (some ⟨b,o,none⟩) p.af.length cap) ((aw.bl.cell 5).trans rfl)) (by decide) ?_
 refine WL.vv rfl rfl (aU rfl rfl) (by decide) ?_
 refine WL.vv rfl rfl (iE rfl rfl rfl rfl hw) (by decide) ?_
 refine WL.vv rfl rfl (oK rfl rfl rfl (by omega) (by omega) tB) (by decide) ?_
 refine WL.vv rfl rfl (cO rfl rfl tJ) (by decide) ?_
 refine WL.vv rfl rfl (cr rfl rfl Tryz.underlying9 rfl a0) (by decide) ?_
 refine WL.vv rfl rfl (cq rfl rfl) (by decide) ?_
 refine WL.nil (NX.next ?_)
 clear a0 a1
 refine CW.sub (E':=[(1,.int .i64 ((k+1:Nat):Int)),(3,.pointer (some ⟨w.heap.size,0,none⟩)),(5,.pointer (some ⟨w1.heap.size,0,none⟩)),(6,.pointer (some ⟨w2.heap.size,0,none⟩)),(7,.pointer (some ⟨w3.heap.size,0,none⟩)),(8,.bool false),(9,.string (nth p.af k).name)]) ⟨rfl,rfl,rfl,rfl,rfl,rfl,rfl,trivial⟩ ?_
 refine CW.seq (CW.region (QE rfl rfl rfl rfl rfl rfl rfl rfl rfl rfl rfl rfl rfl rfl rfl rfl rfl rfl rfl rfl rfl rfl rfl rfl rfl rfl rfl (by decide) rfl (fun _ _ _ _=>rfl) (by decide) Tryz.underlying9 rfl mA ((az.bl.cell 0).trans rfl) ?_))
 intro E1 aO hb1
 refine NX.next (CW.sub (E':=(10,.bool (di x))::[(1,.int .i64 ((k+1:Nat):Int)),(3,.pointer (some ⟨w.heap.size,0,none⟩)),(5,.pointer (some ⟨w1.heap.size,0,none⟩)),(6,.pointer (some ⟨w2.heap.size,0,none⟩)),(7,.pointer (some ⟨w3.heap.size,0,none⟩)),(8,.bool false),(9,.string (nth p.af k).name)]) ⟨hb1.trans (by rw [fN,fN];rfl),(aO 1 (by decide)).trans rfl,(aO 3 (by decide)).trans rfl,(aO 5 (by decide)).trans rfl,(aO 6 (by decide)).trans rfl,(aO 7 (by decide)).trans rfl,(aO 8 (by decide)).trans rfl,(aO 9 (by decide)).trans rfl,trivial⟩ ?_)
 clear aO hb1
 refine CW.seq (CW.block ?_)
 refine CW.seq (CW.region (BN rfl rfl rfl rfl rfl rfl rfl rfl rfl rfl rfl rfl rfl rfl rfl rfl rfl rfl rfl rfl rfl rfl rfl rfl (by decide) (fun _ _ _=>rfl) (by decide) rfl Tryz.underlying9 rfl mA ((az.bl.cell 0).trans rfl) ?_))
 intro E1 aO hb1
 refine NX.next (CW.sub (E':=(39,.bool (decide ((nth p.af k).name=counts)&&decide (x.method=dP)))::[(1,.int .i64 ((k+1:Nat):Int)),(3,.pointer (some ⟨w.heap.size,0,none⟩)),(5,.pointer (some ⟨w1.heap.size,0,none⟩)),(6,.pointer (some ⟨w2.heap.size,0,none⟩)),(7,.pointer (some ⟨w3.heap.size,0,none⟩)),(8,.bool false),(9,.string (nth p.af k).name),(10,.bool (di x))]) ⟨hb1.trans (by rw [fN,fN];rfl),(aO 1 (by decide)).trans rfl,(aO 3 (by decide)).trans rfl,(aO 5 (by decide)).trans rfl,(aO 6 (by decide)).trans rfl,(aO 7 (by decide)).trans rfl,(aO 8 (by decide)).trans rfl,(aO 9 (by decide)).trans rfl,(aO 10 (by decide)).trans rfl,trivial⟩ ?_)
 clear aO hb1
 by_cases C:(nth p.af k).name=counts/\x.method=dP
 ·have hq:(decide ((nth p.af k).name=counts)&&decide (x.method=dP))=true:=by simp [C.1,C.2]
  rw [hq]
  clear hq
  refine CW.yes rfl ?_
  refine CW.sub (E':=[(1,.int .i64 ((k+1:Nat):Int)),(3,.pointer (some ⟨w.heap.size,0,none⟩)),(6,.pointer (some ⟨w2.heap.size,0,none⟩)),(7,.pointer (some ⟨w3.heap.size,0,none⟩)),(8,.bool false)]) ⟨rfl,rfl,rfl,rfl,rfl,trivial⟩ ?_
  obtain ⟨-,a1,jt,hKb, -⟩:=H.lay (k:=k) (by omega)
  refine CW.seq (CW.any (fun W=>aJ W w.heap.size 37 (aE p S1 (.slice (some ⟨b,o,none⟩) p.af.length cap))/\W.cell? ⟨b,o+k*2+1,none⟩=some (.int .i64 (nth p.af k).count)) 11 mo fun w5 hwd tO=> ?_)
  replace H:=H.below tO
  replace HF:=HF.bQ tO
  replace aw:=aw.below tO
  replace az:=az.below tO
  replace ak:=ak.below tO
  replace aq:=aq.below tO
  have akE:=tO.size
  replace a1:=ax tO a1
  clear jt hKb
  obtain ⟨-, -,jt,hKb, -⟩:=H.lay (k:=k) (by omega)
  clear hwd
  refine ⟨⟨aw.bl,a1⟩,?_⟩
  refine AU.tk 0 rfl (by kernel_rfl) (fun _ _ _ h=>h) rfl rfl (fun W hW=>bz rfl rfl Tryz.underlying37 rfl hW.1 aW) (by decide) ⟨aw.bl,a1⟩ ?_
  refine AU.tk 1 rfl (by kernel_rfl) (fun _ _ _ h=>h) rfl rfl (fun W hW=>cO rfl rfl oZ) (by decide) ⟨aw.bl,a1⟩ ?_
  refine AU.tk 2 rfl (by kernel_rfl) (fun _ _ _ h=>h) rfl rfl (fun W hW=>cr rfl rfl Tryz.underlying35 rfl (v:= .slice (some ⟨b,o,none⟩) p.af.length cap) ((hW.1.cell 5).trans rfl)) (by decide) ⟨aw.bl,a1⟩ ?_
  refine AU.tk 3 rfl (by kernel_rfl) (fun _ _ _ h=>h) rfl rfl (fun W hW=>aU rfl rfl) (by decide) ⟨aw.bl,a1⟩ ?_
  refine AU.tk 4 rfl (by kernel_rfl) (fun _ _ _ h=>h) rfl rfl (fun W hW=>iE rfl rfl rfl rfl hw) (by decide) ⟨aw.bl,a1⟩ ?_
  refine AU.tk 5 rfl (by kernel_rfl) (fun _ _ _ h=>h) rfl rfl (fun W hW=>oK rfl rfl rfl (by omega) (by omega) tB) (by decide) ⟨aw.bl,a1⟩ ?_
  refine AU.tk 6 rfl (by kernel_rfl) (fun _ _ _ h=>h) rfl rfl (fun W hW=>cO rfl rfl ox) (by decide) ⟨aw.bl,a1⟩ ?_
  refine AU.tk 7 rfl (by kernel_rfl) (fun _ _ _ h=>h) rfl rfl (fun W hW=>cr rfl rfl Tryz.underlying3 rfl hW.2) (by decide) ⟨aw.bl,a1⟩ ?_
  refine AU.tk 8 rfl (by kernel_rfl) (fun _ _ _ h=>h) rfl rfl (fun W hW=>jn (vs:=[(1,.int .i64 (nth p.af k).count)]) rfl rfl (Cn _)) (by decide) ⟨aw.bl,a1⟩ ?_
  refine AU.st 9 rfl (by kernel_rfl) rfl rfl rfl rfl rfl ak.bl rfl H.gq aW (fun w' ho _=>⟨(ho.block _ (by omega)).trans aw.bl,(cell_of_heap (ho.block b (fun e=>ak.k (e▸hKb)))).trans a1⟩) fun w6 bA j8=> ?_
  replace a1:=(cell_of_heap (j8.block b (fun e=>ak.k (e▸hKb)))).trans a1
  replace H:=H.one j8 ak.n ak.k ak.g
  replace HF:=HF.one j8 (.inr (by omega))
  replace aw:=aw.other j8 (by omega)
  replace az:=az.other j8 (by omega)
  replace aq:=aq.other j8 (by omega)
  replace ak:=ak.put bA
  have Hl:=Nat.le_of_eq j8.size.symm
  refine AU.st 10 rfl (by kernel_rfl) rfl rfl rfl rfl rfl aq.bl rfl (cX _) bn (fun w' ho _=>⟨(ho.block _ (by omega)).trans aw.bl,(cell_of_heap (ho.block b (fun e=>aq.k (e▸hKb)))).trans a1⟩) fun w7 Uo uI=> ?_
  replace a1:=(cell_of_heap (uI.block b (fun e=>aq.k (e▸hKb)))).trans a1
  replace H:=H.one uI aq.n aq.k aq.g
  replace HF:=HF.one uI (.inr (by omega))
  replace aw:=aw.other uI (by omega)
  replace az:=az.other uI (by omega)
  replace ak:=ak.other uI (by omega)
  replace aq:=aq.put Uo
  have Hm:=Nat.le_of_eq uI.size.symm
  refine AU.vv 11 rfl (by kernel_rfl) rfl rfl (cq rfl rfl) (by decide) (fun h=>absurd rfl h) ?_
  refine AU.done (by kernel_rfl) (NX.next (CW.ret ?_))
  exact NX.fT (NX.ret (NX.oV rfl rfl rfl rfl ak.bl aq.bl Tryz.underlying37 Tryz.underlying39 rfl rfl aW bn (mf.mk (q:=p) rfl H HN hK HF (fun _=>by rw [aA,if_pos C]) (fun h=>by cases h))))
 have hq:(decide ((nth p.af k).name=counts)&&decide (x.method=dP))=false:=by
  simp only [Bool.and_eq_false_iff,decide_eq_false_iff_not]
  by_cases h1:(nth p.af k).name=counts
  ·right;exact fun h2=>C ⟨h1,h2⟩
  ·left;exact h1
 have N0:=C
 clear C
 rw [hq]
 clear hq
 refine CW.no rfl ?_
 refine CW.sub (E':=[(1,.int .i64 ((k+1:Nat):Int)),(3,.pointer (some ⟨w.heap.size,0,none⟩)),(5,.pointer (some ⟨w1.heap.size,0,none⟩)),(6,.pointer (some ⟨w2.heap.size,0,none⟩)),(7,.pointer (some ⟨w3.heap.size,0,none⟩)),(8,.bool false),(9,.string (nth p.af k).name),(10,.bool (di x))]) ⟨rfl,rfl,rfl,rfl,rfl,rfl,rfl,rfl,trivial⟩ ?_
 refine CW.seq (CW.region (QF rfl rfl rfl rfl rfl rfl rfl rfl rfl rfl rfl rfl rfl rfl rfl rfl rfl rfl (by decide) (fun _ _ _=>rfl) (by decide) rfl ?_))
 intro E1 aO hb1
 refine NX.next (CW.sub (E':=(56,.bool (decide ((nth p.af k).name=counts)&&di x))::[(1,.int .i64 ((k+1:Nat):Int)),(3,.pointer (some ⟨w.heap.size,0,none⟩)),(5,.pointer (some ⟨w1.heap.size,0,none⟩)),(6,.pointer (some ⟨w2.heap.size,0,none⟩)),(7,.pointer (some ⟨w3.heap.size,0,none⟩)),(8,.bool false),(9,.string (nth p.af k).name),(10,.bool (di x))]) ⟨hb1.trans (by rw [fN];rfl),(aO 1 (by decide)).trans rfl,(aO 3 (by decide)).trans rfl,(aO 5 (by decide)).trans rfl,(aO 6 (by decide)).trans rfl,(aO 7 (by decide)).trans rfl,(aO 8 (by decide)).trans rfl,(aO 9 (by decide)).trans rfl,(aO 10 (by decide)).trans rfl,trivial⟩ ?_)
 clear aO hb1
 by_cases C:(nth p.af k).name=counts/\di x=true
 ·have hq:(decide ((nth p.af k).name=counts)&&di x)=true:=by simp [C.1,C.2]
  rw [hq]
  clear hq
  refine CW.yes rfl ?_
  have kn:=Bj C.2
  have lT:cK (eC p k) (bI x.method)=true:=by rcases hsub with h|h|h|h;exact absurd h.2 kn.1;exact absurd h.2 kn.2.1;exact absurd h.2 kn.2.2.1;exact h
  have oH:=pQ k p x hp (by omega) hc lT
  have hl1:=oH.2.1.len
  have hn1:eU (nth (aA k p x).1.af k).count=true:=((nS.1 oH.1).2.2 k (by omega)).2.2.1
  refine CW.sub (E':=[(1,.int .i64 ((k+1:Nat):Int)),(3,.pointer (some ⟨w.heap.size,0,none⟩)),(5,.pointer (some ⟨w1.heap.size,0,none⟩)),(6,.pointer (some ⟨w2.heap.size,0,none⟩)),(7,.pointer (some ⟨w3.heap.size,0,none⟩)),(8,.bool false)]) ⟨rfl,rfl,rfl,rfl,rfl,rfl,trivial⟩ ?_
  refine CW.seq (CW.region ?_)
  refine WL.vv rfl rfl (bz rfl rfl Tryz.underlying37 rfl aw.bl aW) (by decide) ?_
  refine WL.vv rfl rfl (aU rfl rfl) (by decide) ?_
  refine WL.vv rfl rfl (iE rfl rfl rfl rfl hw) (by decide) ?_
  refine WL.vv rfl rfl (bz rfl rfl Tryz.underlying43 rfl az.bl kA) (by decide) ?_
  refine WL.c rfl rfl (bT (args:= #[.agg (aE p S1 (.slice (some ⟨b,o,none⟩) p.af.length cap)),.int .i64 (k:Int),.agg #[.string x.method,.string x.key,.int .i64 x.val,.string x.text]]) (by kernel_rfl) rfl rfl rfl) (by decide) (IH K uD _ _ _ p x H hx hp hc (by omega) lT) ?_
  rintro _ w8 ⟨EQ,rfl,H',lQ⟩
  refine ⟨_,rfl,?_⟩
  replace H:=H'
  clear H'
  replace HF:=HF.mY lQ
  replace aw:=aw.bV lQ
  replace az:=az.bV lQ
  replace ak:=ak.bV lQ
  replace aq:=aq.bV lQ
  have aaH:=lQ.size
  refine WL.vv rfl rfl (aU rfl rfl) (by decide) ?_
  refine WL.vv rfl rfl (dQ rfl rfl rfl) (by decide) ?_
  refine WL.vv rfl rfl (dQ rfl rfl rfl) (by decide) ?_
  refine WL.vv rfl rfl (cJ rfl gJ) (by decide) ?_
  have amr:=aw.lt
  have ams:=az.lt
  have amt:=ak.lt
  have amu:=aq.lt
  obtain ⟨w9,Nw9,LK,jA,Ap,H',dC,amM⟩:=H.alloc 37 bF
  change WL _ _ _ _ _ _ (w8.alloc (.cells bF 37))
  rw [<-LK]
  clear LK
  replace H:=H'
  clear H'
  replace HF:=HF.bQ jA
  replace aw:=(aw.below jA).more Ap
  replace az:=(az.below jA).more Ap
  replace ak:=(ak.below jA).more Ap
  replace aq:=(aq.below jA).more Ap
  replace HN:=fun i hi=>Ap i (HN i hi)
  have Ho:=jA.size
  refine WL.vv rfl rfl (cJ rfl gK) (by decide) ?_
  have alu:=aw.lt
  have alv:=az.lt
  have alw:=ak.lt
  have alx:=aq.lt
  have aly:=dC.lt
  obtain ⟨fJ,aji,K5,jg,x8,H',gL,amA⟩:=H.alloc 39 aY
  change WL _ _ _ _ _ _ (w9.alloc (.cells aY 39))
  rw [<-K5]
  clear K5
  replace H:=H'
  clear H'
  replace HF:=HF.bQ jg
  replace aw:=(aw.below jg).more x8
  replace az:=(az.below jg).more x8
  replace ak:=(ak.below jg).more x8
  replace aq:=(aq.below jg).more x8
  replace dC:=(dC.below jg).more x8
  replace HN:=fun i hi=>x8 i (HN i hi)
  have Hg:=jg.size
  refine WL.st rfl rfl rfl rfl rfl dC.bl rfl H.gq aW fun pS bS pX=> ?_
  replace H:=H.one pX dC.n dC.k dC.g
  replace HF:=HF.one pX (.inr (by omega))
  replace aw:=aw.other pX (by omega)
  replace az:=az.other pX (by omega)
  replace ak:=ak.other pX (by omega)
  replace aq:=aq.other pX (by omega)
  replace gL:=gL.other pX (by omega)
  replace dC:=dC.put bS
  have aaq:=Nat.le_of_eq pX.size.symm
  refine WL.st rfl rfl rfl rfl rfl gL.bl rfl (cX _) bn fun Jc TH sG=> ?_
  replace H:=H.one sG gL.n gL.k gL.g
  replace HF:=HF.one sG (.inr (by omega))
  replace aw:=aw.other sG (by omega)
  replace az:=az.other sG (by omega)
  replace ak:=ak.other sG (by omega)
  replace aq:=aq.other sG (by omega)
  replace dC:=dC.other sG (by omega)
  replace gL:=gL.put TH
  have NZ:=Nat.le_of_eq sG.size.symm
  refine WL.nil (NX.next ?_)
  refine CW.sub (E':=[(1,.int .i64 ((k+1:Nat):Int)),(6,.pointer (some ⟨w2.heap.size,0,none⟩)),(7,.pointer (some ⟨w3.heap.size,0,none⟩)),(8,.bool false),(11,.pointer (some ⟨w8.heap.size,0,none⟩)),(12,.pointer (some ⟨w9.heap.size,0,none⟩))]) ⟨rfl,rfl,rfl,rfl,rfl,rfl,trivial⟩ ?_
  obtain ⟨-,a1,jt,hKb, -⟩:=H.lay (k:=k) (by rw [hl1];omega)
  refine CW.seq (CW.any (fun W=>aJ W w8.heap.size 37 (aE (aA k p x).1 EQ (.slice (some ⟨b,o,none⟩) p.af.length cap))/\W.cell? ⟨b,o+k*2+1,none⟩=some (.int .i64 (nth (aA k p x).1.af k).count)) 14 mo fun Jd hwd fu=> ?_)
  replace H:=H.below fu
  replace HF:=HF.bQ fu
  replace aw:=aw.below fu
  replace az:=az.below fu
  replace ak:=ak.below fu
  replace aq:=aq.below fu
  replace dC:=dC.below fu
  replace gL:=gL.below fu
  have NY:=fu.size
  replace a1:=ax fu a1
  clear jt hKb
  obtain ⟨-, -,jt,hKb, -⟩:=H.lay (k:=k) (by rw [hl1];omega)
  clear hwd
  refine ⟨⟨dC.bl,a1⟩,?_⟩
  refine AU.tk 0 rfl (by kernel_rfl) (fun _ _ _ h=>h) rfl rfl (fun W hW=>cO rfl rfl oZ) (by decide) ⟨dC.bl,a1⟩ ?_
  refine AU.tk 1 rfl (by kernel_rfl) (fun _ _ _ h=>h) rfl rfl (fun W hW=>cr rfl rfl Tryz.underlying35 rfl (v:= .slice (some ⟨b,o,none⟩) p.af.length cap) ((hW.1.cell 5).trans rfl)) (by decide) ⟨dC.bl,a1⟩ ?_
  refine AU.tk 2 rfl (by kernel_rfl) (fun _ _ _ h=>h) rfl rfl (fun W hW=>aU rfl rfl) (by decide) ⟨dC.bl,a1⟩ ?_
  refine AU.tk 3 rfl (by kernel_rfl) (fun _ _ _ h=>h) rfl rfl (fun W hW=>iE rfl rfl rfl rfl hw) (by decide) ⟨dC.bl,a1⟩ ?_
  refine AU.tk 4 rfl (by kernel_rfl) (fun _ _ _ h=>h) rfl rfl (fun W hW=>cO rfl rfl oZ) (by decide) ⟨dC.bl,a1⟩ ?_
  refine AU.tk 5 rfl (by kernel_rfl) (fun _ _ _ h=>h) rfl rfl (fun W hW=>cr rfl rfl Tryz.underlying35 rfl (v:= .slice (some ⟨b,o,none⟩) p.af.length cap) ((hW.1.cell 5).trans rfl)) (by decide) ⟨dC.bl,a1⟩ ?_
  refine AU.tk 6 rfl (by kernel_rfl) (fun _ _ _ h=>h) rfl rfl (fun W hW=>aU rfl rfl) (by decide) ⟨dC.bl,a1⟩ ?_
  refine AU.tk 7 rfl (by kernel_rfl) (fun _ _ _ h=>h) rfl rfl (fun W hW=>iE rfl rfl rfl rfl hw) (by decide) ⟨dC.bl,a1⟩ ?_
  refine AU.tk 8 rfl (by kernel_rfl) (fun _ _ _ h=>h) rfl rfl (fun W hW=>oK rfl rfl rfl (by omega) (by omega) tB) (by decide) ⟨dC.bl,a1⟩ ?_
  refine AU.tk 9 rfl (by kernel_rfl) (fun _ _ _ h=>h) rfl rfl (fun W hW=>cO rfl rfl ox) (by decide) ⟨dC.bl,a1⟩ ?_
  refine AU.tk 10 rfl (by kernel_rfl) (fun _ _ _ h=>h) rfl rfl (fun W hW=>cr rfl rfl Tryz.underlying3 rfl hW.2) (by decide) ⟨dC.bl,a1⟩ ?_
  refine AU.c 11 (args:= #[.int .i64 (nth (aA k p x).1.af k).count]) rfl (by kernel_rfl) rfl rfl (bT (by kernel_rfl) rfl rfl rfl) (by decide) (SX H _ hn1) ?_
  rintro _ zx ⟨rfl,qi⟩
  replace H:=H.below qi
  replace HF:=HF.bQ qi
  replace aw:=aw.below qi
  replace az:=az.below qi
  replace ak:=ak.below qi
  replace aq:=aq.below qi
  replace dC:=dC.below qi
  replace gL:=gL.below qi
  have akv:=qi.size
  replace a1:=ax qi a1
  clear jt hKb
  obtain ⟨-, -,jt,hKb, -⟩:=H.lay (k:=k) (by rw [hl1];omega)
  refine ⟨_,rfl,fun _=>⟨dC.bl,a1⟩,?_⟩
  refine AU.tk 12 rfl (by kernel_rfl) (fun _ _ _ h=>h) rfl rfl (fun W hW=>oK rfl rfl rfl (by omega) (by omega) tB) (by decide) ⟨dC.bl,a1⟩ ?_
  refine AU.tk 13 rfl (by kernel_rfl) (fun _ _ _ h=>h) rfl rfl (fun W hW=>cO rfl rfl ox) (by decide) ⟨dC.bl,a1⟩ ?_
  refine AU.ss 14 rfl (by kernel_rfl) rfl rfl (ze rfl rfl rfl yR rfl a1 (jt _)) (fun h=>absurd rfl h) ?_
  replace H:=H.bump (k:=k) (by rw [hl1];omega) (QX hn1)
  replace HF:=HF.BM (q:=⟨b,o+k*2+1,none⟩) (.int .i64 (bR (nth (aA k p x).1.af k).count)) (.inl hKb)
  replace aw:=aw.far (a:=⟨b,o+k*2+1,none⟩) (.int .i64 (bR (nth (aA k p x).1.af k).count)) hKb
  replace az:=az.far (a:=⟨b,o+k*2+1,none⟩) (.int .i64 (bR (nth (aA k p x).1.af k).count)) hKb
  replace ak:=ak.far (a:=⟨b,o+k*2+1,none⟩) (.int .i64 (bR (nth (aA k p x).1.af k).count)) hKb
  replace aq:=aq.far (a:=⟨b,o+k*2+1,none⟩) (.int .i64 (bR (nth (aA k p x).1.af k).count)) hKb
  replace dC:=dC.far (a:=⟨b,o+k*2+1,none⟩) (.int .i64 (bR (nth (aA k p x).1.af k).count)) hKb
  replace gL:=gL.far (a:=⟨b,o+k*2+1,none⟩) (.int .i64 (bR (nth (aA k p x).1.af k).count)) hKb
  obtain ⟨Et,FM⟩: ∃z,z=zx.setCell ⟨b,o+k*2+1,none⟩ (.int .i64 (bR (nth (aA k p x).1.af k).count)):=⟨_,rfl⟩
  have Hj:zx.heap.size<=Et.heap.size:=by rw [FM];simp
  change AU _ _ _ _ _ _ _ _ _ (zx.setCell ⟨b,o+k*2+1,none⟩ (.int .i64 (bR (nth (aA k p x).1.af k).count)))
  rw [<-FM] at H HF aw az ak aq dC gL ⊢
  clear FM a1 jt hKb
  refine AU.done (by kernel_rfl) (NX.next ?_)
  refine CW.sub (E':=[(6,.pointer (some ⟨w2.heap.size,0,none⟩)),(7,.pointer (some ⟨w3.heap.size,0,none⟩)),(8,.bool false),(11,.pointer (some ⟨w8.heap.size,0,none⟩)),(12,.pointer (some ⟨w9.heap.size,0,none⟩))]) ⟨rfl,rfl,rfl,rfl,rfl,trivial⟩ ?_
  refine CW.seq (CW.any (fun W=>aJ W w8.heap.size 37 (aE (aA k p x).1 EQ (.slice (some ⟨b,o,none⟩) p.af.length cap))/\aJ W w9.heap.size 39 (dV (aA k p x).2)) 4 mo fun SP hwd rl=> ?_)
  replace H:=H.below rl
  replace HF:=HF.bQ rl
  replace aw:=aw.below rl
  replace az:=az.below rl
  replace ak:=ak.below rl
  replace aq:=aq.below rl
  replace dC:=dC.below rl
  replace gL:=gL.below rl
  have akw:=rl.size
  clear hwd
  refine ⟨⟨dC.bl,gL.bl⟩,?_⟩
  refine AU.tk 0 rfl (by kernel_rfl) (fun _ _ _ h=>h) rfl rfl (fun W hW=>bz rfl rfl Tryz.underlying37 rfl hW.1 aW) (by decide) ⟨dC.bl,gL.bl⟩ ?_
  refine AU.tk 1 rfl (by kernel_rfl) (fun _ _ _ h=>h) rfl rfl (fun W hW=>bz rfl rfl Tryz.underlying39 rfl hW.2 bn) (by decide) ⟨dC.bl,gL.bl⟩ ?_
  refine AU.st 2 rfl (by kernel_rfl) rfl rfl rfl rfl rfl ak.bl rfl H.gq aW (fun w' ho _=>⟨(ho.block _ (by omega)).trans dC.bl,(ho.block _ (by omega)).trans gL.bl⟩) fun w17 TJ sJ=> ?_
  replace H:=H.one sJ ak.n ak.k ak.g
  replace HF:=HF.one sJ (.inr (by omega))
  replace aw:=aw.other sJ (by omega)
  replace az:=az.other sJ (by omega)
  replace aq:=aq.other sJ (by omega)
  replace dC:=dC.other sJ (by omega)
  replace gL:=gL.other sJ (by omega)
  replace ak:=ak.put TJ
  have aar:=Nat.le_of_eq sJ.size.symm
  refine AU.st 3 rfl (by kernel_rfl) rfl rfl rfl rfl rfl aq.bl rfl (cX _) bn (fun w' ho _=>⟨(ho.block _ (by omega)).trans dC.bl,(ho.block _ (by omega)).trans gL.bl⟩) fun w18 TK sK=> ?_
  replace H:=H.one sK aq.n aq.k aq.g
  replace HF:=HF.one sK (.inr (by omega))
  replace aw:=aw.other sK (by omega)
  replace az:=az.other sK (by omega)
  replace ak:=ak.other sK (by omega)
  replace dC:=dC.other sK (by omega)
  replace gL:=gL.other sK (by omega)
  replace aq:=aq.put TK
  have aas:=Nat.le_of_eq sK.size.symm
  refine AU.vv 4 rfl (by kernel_rfl) rfl rfl (cq rfl rfl) (by decide) (fun h=>absurd rfl h) ?_
  refine AU.done (by kernel_rfl) (NX.next (CW.ret ?_))
  exact NX.fT (NX.ret (NX.oV rfl rfl rfl rfl ak.bl aq.bl Tryz.underlying37 Tryz.underlying39 rfl rfl aW bn (mf.mk (q:=(bump (aA k p x).1 k)) rfl H HN hK HF (fun _=>by rw [aA,if_neg N0,if_pos C]) (fun h=>by cases h))))
 have hq:(decide ((nth p.af k).name=counts)&&di x)=false:=by
  simp only [Bool.and_eq_false_iff,decide_eq_false_iff_not]
  by_cases h1:(nth p.af k).name=counts
  ·right;simpa [h1] using C
  ·left;exact h1
 have N1:=C
 clear C
 rw [hq]
 clear hq
 refine CW.no rfl ?_
 refine CW.sub (E':=[(1,.int .i64 ((k+1:Nat):Int)),(3,.pointer (some ⟨w.heap.size,0,none⟩)),(5,.pointer (some ⟨w1.heap.size,0,none⟩)),(6,.pointer (some ⟨w2.heap.size,0,none⟩)),(7,.pointer (some ⟨w3.heap.size,0,none⟩)),(8,.bool false),(9,.string (nth p.af k).name),(10,.bool (di x))]) ⟨rfl,rfl,rfl,rfl,rfl,rfl,rfl,rfl,trivial⟩ ?_
 refine CW.seq (CW.region (QF rfl rfl rfl rfl rfl rfl rfl rfl rfl rfl rfl rfl rfl rfl rfl rfl rfl rfl (by decide) (fun _ _ _=>rfl) (by decide) rfl ?_))
 intro E1 aO hb1
 refine NX.next (CW.sub (E':=(86,.bool (decide ((nth p.af k).name=jR)&&di x))::[(1,.int .i64 ((k+1:Nat):Int)),(3,.pointer (some ⟨w.heap.size,0,none⟩)),(5,.pointer (some ⟨w1.heap.size,0,none⟩)),(6,.pointer (some ⟨w2.heap.size,0,none⟩)),(7,.pointer (some ⟨w3.heap.size,0,none⟩)),(8,.bool false),(9,.string (nth p.af k).name),(10,.bool (di x))]) ⟨hb1.trans (by rw [fN];rfl),(aO 1 (by decide)).trans rfl,(aO 3 (by decide)).trans rfl,(aO 5 (by decide)).trans rfl,(aO 6 (by decide)).trans rfl,(aO 7 (by decide)).trans rfl,(aO 8 (by decide)).trans rfl,(aO 9 (by decide)).trans rfl,(aO 10 (by decide)).trans rfl,trivial⟩ ?_)
 clear aO hb1
 by_cases C:(nth p.af k).name=jR/\di x=true
 ·have hq:(decide ((nth p.af k).name=jR)&&di x)=true:=by simp [C.1,C.2]
  rw [hq]
  clear hq
  refine CW.yes rfl ?_
  have kn:=Bj C.2
  have lT:cK (eC p k) (bI x.method)=true:=by rcases hsub with h|h|h|h;exact absurd h.2 kn.1;exact absurd h.2 kn.2.1;exact absurd h.2 kn.2.2.1;exact h
  have hr:=xT (qV p k) lb (.inl C.1)
  have oH:=pQ k p x hp (by omega) hc lT
  have hl1:=oH.2.1.len
  have DQ:cK (eC (aA k p x).1 k) (bI (br mStart).method)=true:=by rw [oH.2.1.qg (by omega)];exact hr.1
  have Ib:=pQ k (aA k p x).1 (br mStart) oH.1 (by omega) tw.1 DQ
  have fD:(aA k (aA k p x).1 (br mStart)).1.af.length=p.af.length:=by rw [Ib.2.1.len,hl1]
  have of2:cK (eC (aA k (aA k p x).1 (br mStart)).1 k) (bI x.method)=true:=by rw [Ib.2.1.qg (by omega),oH.2.1.qg (by omega)];exact lT
  refine CW.sub (E':=[(1,.int .i64 ((k+1:Nat):Int)),(3,.pointer (some ⟨w.heap.size,0,none⟩)),(5,.pointer (some ⟨w1.heap.size,0,none⟩)),(6,.pointer (some ⟨w2.heap.size,0,none⟩)),(7,.pointer (some ⟨w3.heap.size,0,none⟩)),(8,.bool false)]) ⟨rfl,rfl,rfl,rfl,rfl,rfl,trivial⟩ ?_
  refine CW.seq (CW.region ?_)
  refine WL.vv rfl rfl (bz rfl rfl Tryz.underlying37 rfl aw.bl aW) (by decide) ?_
  refine WL.vv rfl rfl (aU rfl rfl) (by decide) ?_
  refine WL.vv rfl rfl (iE rfl rfl rfl rfl hw) (by decide) ?_
  refine WL.vv rfl rfl (bz rfl rfl Tryz.underlying43 rfl az.bl kA) (by decide) ?_
  refine WL.c rfl rfl (bT (args:= #[.agg (aE p S1 (.slice (some ⟨b,o,none⟩) p.af.length cap)),.int .i64 (k:Int),.agg #[.string x.method,.string x.key,.int .i64 x.val,.string x.text]]) (by kernel_rfl) rfl rfl rfl) (by decide) (IH K uD _ _ _ p x H hx hp hc (by omega) lT) ?_
  rintro _ sw ⟨JL,rfl,H',yx⟩
  refine ⟨_,rfl,?_⟩
  replace H:=H'
  clear H'
  replace HF:=HF.mY yx
  replace aw:=aw.bV yx
  replace az:=az.bV yx
  replace ak:=ak.bV yx
  replace aq:=aq.bV yx
  have aat:=yx.size
  refine WL.vv rfl rfl (aU rfl rfl) (by decide) ?_
  refine WL.vv rfl rfl (dQ rfl rfl rfl) (by decide) ?_
  refine WL.vv rfl rfl (dQ rfl rfl rfl) (by decide) ?_
  refine WL.vv rfl rfl (cJ rfl gJ) (by decide) ?_
  have alI:=aw.lt
  have alJ:=az.lt
  have alK:=ak.lt
  have alL:=aq.lt
  obtain ⟨sy,ajl,K8,yo,Ak,H',cN,amD⟩:=H.alloc 37 bF
  change WL _ _ _ _ _ _ (sw.alloc (.cells bF 37))
  rw [<-K8]
  clear K8
  replace H:=H'
  clear H'
  replace HF:=HF.bQ yo
  replace aw:=(aw.below yo).more Ak
  replace az:=(az.below yo).more Ak
  replace ak:=(ak.below yo).more Ak
  replace aq:=(aq.below yo).more Ak
  replace HN:=fun i hi=>Ak i (HN i hi)
  have aau:=yo.size
  refine WL.vv rfl rfl (cJ rfl gK) (by decide) ?_
  have alM:=aw.lt
  have alN:=az.lt
  have alP:=ak.lt
  have alQ:=aq.lt
  have alO:=cN.lt
  obtain ⟨w21,JF,K9,vr,yc,H',du,amE⟩:=H.alloc 39 aY
  change WL _ _ _ _ _ _ (sy.alloc (.cells aY 39))
  rw [<-K9]
  clear K9
  replace H:=H'
  clear H'
  replace HF:=HF.bQ vr
  replace aw:=(aw.below vr).more yc
  replace az:=(az.below vr).more yc
  replace ak:=(ak.below vr).more yc
  replace aq:=(aq.below vr).more yc
  replace cN:=(cN.below vr).more yc
  replace HN:=fun i hi=>yc i (HN i hi)
  have aav:=vr.size
  refine WL.st rfl rfl rfl rfl rfl cN.bl rfl H.gq aW fun w22 TM sL=> ?_
  replace H:=H.one sL cN.n cN.k cN.g
  replace HF:=HF.one sL (.inr (by omega))
  replace aw:=aw.other sL (by omega)
  replace az:=az.other sL (by omega)
  replace ak:=ak.other sL (by omega)
  replace aq:=aq.other sL (by omega)
  replace du:=du.other sL (by omega)
  replace cN:=cN.put TM
  have aaw:=Nat.le_of_eq sL.size.symm
  refine WL.st rfl rfl rfl rfl rfl du.bl rfl (cX _) bn fun w23 TN sM=> ?_
  replace H:=H.one sM du.n du.k du.g
  replace HF:=HF.one sM (.inr (by omega))
  replace aw:=aw.other sM (by omega)
  replace az:=az.other sM (by omega)
  replace ak:=ak.other sM (by omega)
  replace aq:=aq.other sM (by omega)
  replace cN:=cN.other sM (by omega)
  replace du:=du.put TN
  have aax:=Nat.le_of_eq sM.size.symm
  refine WL.nil (NX.next ?_)
  refine CW.sub (E':=[(1,.int .i64 ((k+1:Nat):Int)),(5,.pointer (some ⟨w1.heap.size,0,none⟩)),(6,.pointer (some ⟨w2.heap.size,0,none⟩)),(7,.pointer (some ⟨w3.heap.size,0,none⟩)),(8,.bool false),(13,.pointer (some ⟨sw.heap.size,0,none⟩)),(14,.pointer (some ⟨sy.heap.size,0,none⟩))]) ⟨rfl,rfl,rfl,rfl,rfl,rfl,rfl,trivial⟩ ?_
  by_cases h2:(aA k p x).2.code=2
  ·refine CW.seq (CW.seq (CW.region ?_))
   refine WL.vv rfl rfl (cO rfl rfl xQ) (by decide) ?_
   refine WL.vv rfl rfl (cr rfl rfl Tryz.underlying3 rfl (v:= .int .i64 (aA k p x).2.code) ((du.bl.cell 0).trans rfl)) (by decide) ?_
   refine WL.vv rfl rfl (gr (b:=true) rfl rfl rfl rfl (by simp [aS,h2])) (by decide) ?_
   refine WL.nil (NX.next (CW.yes rfl ?_))
   refine CW.sub (E':=[(1,.int .i64 ((k+1:Nat):Int)),(5,.pointer (some ⟨w1.heap.size,0,none⟩)),(6,.pointer (some ⟨w2.heap.size,0,none⟩)),(7,.pointer (some ⟨w3.heap.size,0,none⟩)),(8,.bool false),(13,.pointer (some ⟨sw.heap.size,0,none⟩)),(14,.pointer (some ⟨sy.heap.size,0,none⟩))]) ⟨rfl,rfl,rfl,rfl,rfl,rfl,rfl,trivial⟩ ?_
   refine CW.seq (CW.region ?_)
   refine WL.vv rfl rfl (bz rfl rfl Tryz.underlying37 rfl cN.bl aW) (by decide) ?_
   refine WL.vv rfl rfl (aU rfl rfl) (by decide) ?_
   refine WL.vv rfl rfl (iE rfl rfl rfl rfl hw) (by decide) ?_
   refine WL.vv rfl rfl (jn (vs:=[(0,.string mStart)]) rfl rfl (uT _)) (by decide) ?_
   refine WL.c rfl rfl (bT (args:= #[.agg (aE (aA k p x).1 JL (.slice (some ⟨b,o,none⟩) p.af.length cap)),.int .i64 (k:Int),.agg #[.string mStart,.string cI,.int .i64 0,.string cI]]) (by kernel_rfl) rfl rfl rfl) (by decide) (IH K JF _ _ _ (aA k p x).1 (br mStart) H (Bw (by decide)) oH.1 tw.1 (by rw [hl1];omega) DQ) ?_
   rintro _ w24 ⟨UB,rfl,H',tU⟩
   refine ⟨_,rfl,?_⟩
   replace H:=H'
   clear H'
   replace HF:=HF.mY tU
   replace aw:=aw.bV tU
   replace az:=az.bV tU
   replace ak:=ak.bV tU
   replace aq:=aq.bV tU
   replace cN:=cN.bV tU
   replace du:=du.bV tU
   have aay:=tU.size
   refine WL.vv rfl rfl (aU rfl rfl) (by decide) ?_
   refine WL.vv rfl rfl (dQ rfl rfl rfl) (by decide) ?_
   refine WL.vv rfl rfl (dQ rfl rfl rfl) (by decide) ?_
   refine WL.st rfl rfl rfl rfl rfl cN.bl rfl H.gq aW fun w25 TP sN=> ?_
   replace H:=H.one sN cN.n cN.k cN.g
   replace HF:=HF.one sN (.inr (by omega))
   replace aw:=aw.other sN (by omega)
   replace az:=az.other sN (by omega)
   replace ak:=ak.other sN (by omega)
   replace aq:=aq.other sN (by omega)
   replace du:=du.other sN (by omega)
   replace cN:=cN.put TP
   have aaz:=Nat.le_of_eq sN.size.symm
   refine WL.nil (NX.next ?_)
   refine CW.sub (E':=[(1,.int .i64 ((k+1:Nat):Int)),(5,.pointer (some ⟨w1.heap.size,0,none⟩)),(6,.pointer (some ⟨w2.heap.size,0,none⟩)),(7,.pointer (some ⟨w3.heap.size,0,none⟩)),(8,.bool false),(13,.pointer (some ⟨sw.heap.size,0,none⟩)),(14,.pointer (some ⟨sy.heap.size,0,none⟩))]) ⟨rfl,rfl,rfl,rfl,rfl,rfl,rfl,trivial⟩ ?_
   refine CW.region ?_
   refine WL.vv rfl rfl (bz rfl rfl Tryz.underlying37 rfl cN.bl aW) (by decide) ?_
   refine WL.vv rfl rfl (aU rfl rfl) (by decide) ?_
   refine WL.vv rfl rfl (iE rfl rfl rfl rfl hw) (by decide) ?_
   refine WL.vv rfl rfl (bz rfl rfl Tryz.underlying43 rfl az.bl kA) (by decide) ?_
   refine WL.c rfl rfl (bT (args:= #[.agg (aE (aA k (aA k p x).1 (br mStart)).1 UB (.slice (some ⟨b,o,none⟩) p.af.length cap)),.int .i64 (k:Int),.agg #[.string x.method,.string x.key,.int .i64 x.val,.string x.text]]) (by kernel_rfl) rfl rfl rfl) (by decide) (IH K JF _ _ _ (aA k (aA k p x).1 (br mStart)).1 x H hx Ib.1 hc (by rw [fD];omega) of2) ?_
   rintro _ w26 ⟨UC,rfl,H',tV⟩
   refine ⟨_,rfl,?_⟩
   replace H:=H'
   clear H'
   replace HF:=HF.mY tV
   replace aw:=aw.bV tV
   replace az:=az.bV tV
   replace ak:=ak.bV tV
   replace aq:=aq.bV tV
   replace cN:=cN.bV tV
   replace du:=du.bV tV
   have aaA:=tV.size
   refine WL.vv rfl rfl (aU rfl rfl) (by decide) ?_
   refine WL.vv rfl rfl (dQ rfl rfl rfl) (by decide) ?_
   refine WL.vv rfl rfl (dQ rfl rfl rfl) (by decide) ?_
   refine WL.st rfl rfl rfl rfl rfl cN.bl rfl H.gq aW fun w27 TQ sO=> ?_
   replace H:=H.one sO cN.n cN.k cN.g
   replace HF:=HF.one sO (.inr (by omega))
   replace aw:=aw.other sO (by omega)
   replace az:=az.other sO (by omega)
   replace ak:=ak.other sO (by omega)
   replace aq:=aq.other sO (by omega)
   replace du:=du.other sO (by omega)
   replace cN:=cN.put TQ
   have aaB:=Nat.le_of_eq sO.size.symm
   refine WL.st rfl rfl rfl rfl rfl du.bl rfl (cX _) bn fun w28 TT sP=> ?_
   replace H:=H.one sP du.n du.k du.g
   replace HF:=HF.one sP (.inr (by omega))
   replace aw:=aw.other sP (by omega)
   replace az:=az.other sP (by omega)
   replace ak:=ak.other sP (by omega)
   replace aq:=aq.other sP (by omega)
   replace cN:=cN.other sP (by omega)
   replace du:=du.put TT
   have aaC:=Nat.le_of_eq sP.size.symm
   refine WL.nil (NX.next ?_)
   refine CW.sub (E':=[(6,.pointer (some ⟨w2.heap.size,0,none⟩)),(7,.pointer (some ⟨w3.heap.size,0,none⟩)),(8,.bool false),(13,.pointer (some ⟨sw.heap.size,0,none⟩)),(14,.pointer (some ⟨sy.heap.size,0,none⟩))]) ⟨rfl,rfl,rfl,rfl,rfl,trivial⟩ ?_
   refine CW.seq (CW.any (fun W=>aJ W sw.heap.size 37 (aE (aA k (aA k (aA k p x).1 (br mStart)).1 x).1 UC (.slice (some ⟨b,o,none⟩) p.af.length cap))/\aJ W sy.heap.size 39 (dV (aA k (aA k (aA k p x).1 (br mStart)).1 x).2)) 4 mo fun uA hwd rm=> ?_)
   replace H:=H.below rm
   replace HF:=HF.bQ rm
   replace aw:=aw.below rm
   replace az:=az.below rm
   replace ak:=ak.below rm
   replace aq:=aq.below rm
   replace cN:=cN.below rm
   replace du:=du.below rm
   have akx:=rm.size
   clear hwd
   refine ⟨⟨cN.bl,du.bl⟩,?_⟩
   refine AU.tk 0 rfl (by kernel_rfl) (fun _ _ _ h=>h) rfl rfl (fun W hW=>bz rfl rfl Tryz.underlying37 rfl hW.1 aW) (by decide) ⟨cN.bl,du.bl⟩ ?_
   refine AU.tk 1 rfl (by kernel_rfl) (fun _ _ _ h=>h) rfl rfl (fun W hW=>bz rfl rfl Tryz.underlying39 rfl hW.2 bn) (by decide) ⟨cN.bl,du.bl⟩ ?_
   refine AU.st 2 rfl (by kernel_rfl) rfl rfl rfl rfl rfl ak.bl rfl H.gq aW (fun w' ho _=>⟨(ho.block _ (by omega)).trans cN.bl,(ho.block _ (by omega)).trans du.bl⟩) fun Je kL pY=> ?_
   replace H:=H.one pY ak.n ak.k ak.g
   replace HF:=HF.one pY (.inr (by omega))
   replace aw:=aw.other pY (by omega)
   replace az:=az.other pY (by omega)
   replace aq:=aq.other pY (by omega)
   replace cN:=cN.other pY (by omega)
   replace du:=du.other pY (by omega)
   replace ak:=ak.put kL
   have akQ:=Nat.le_of_eq pY.size.symm
   refine AU.st 3 rfl (by kernel_rfl) rfl rfl rfl rfl rfl aq.bl rfl (cX _) bn (fun w' ho _=>⟨(ho.block _ (by omega)).trans cN.bl,(ho.block _ (by omega)).trans du.bl⟩) fun w31 TV sQ=> ?_
   replace H:=H.one sQ aq.n aq.k aq.g
   replace HF:=HF.one sQ (.inr (by omega))
   replace aw:=aw.other sQ (by omega)
   replace az:=az.other sQ (by omega)
   replace ak:=ak.other sQ (by omega)
   replace cN:=cN.other sQ (by omega)
   replace du:=du.other sQ (by omega)
   replace aq:=aq.put TV
   have aaD:=Nat.le_of_eq sQ.size.symm
   refine AU.vv 4 rfl (by kernel_rfl) rfl rfl (cq rfl rfl) (by decide) (fun h=>absurd rfl h) ?_
   refine AU.done (by kernel_rfl) (NX.next (CW.ret ?_))
   exact NX.fT (NX.ret (NX.oV rfl rfl rfl rfl ak.bl aq.bl Tryz.underlying37 Tryz.underlying39 rfl rfl aW bn (mf.mk (q:=(aA k (aA k (aA k p x).1 (br mStart)).1 x).1) rfl H HN hK HF (fun _=>by rw [aA,if_neg N0,if_neg N1,if_pos C,if_pos h2]) (fun h=>by cases h))))
  ·refine CW.seq (CW.seq (CW.region ?_))
   refine WL.vv rfl rfl (cO rfl rfl xQ) (by decide) ?_
   refine WL.vv rfl rfl (cr rfl rfl Tryz.underlying3 rfl (v:= .int .i64 (aA k p x).2.code) ((du.bl.cell 0).trans rfl)) (by decide) ?_
   refine WL.vv rfl rfl (gr (b:=false) rfl rfl rfl rfl (by simp [aS,h2])) (by decide) ?_
   refine WL.nil (NX.next (CW.no rfl (CW.skip (NX.next ?_))))
   refine CW.sub (E':=[(6,.pointer (some ⟨w2.heap.size,0,none⟩)),(7,.pointer (some ⟨w3.heap.size,0,none⟩)),(8,.bool false),(13,.pointer (some ⟨sw.heap.size,0,none⟩)),(14,.pointer (some ⟨sy.heap.size,0,none⟩))]) ⟨rfl,rfl,rfl,rfl,rfl,trivial⟩ ?_
   refine CW.seq (CW.any (fun W=>aJ W sw.heap.size 37 (aE (aA k p x).1 JL (.slice (some ⟨b,o,none⟩) p.af.length cap))/\aJ W sy.heap.size 39 (dV (aA k p x).2)) 4 mo fun w32 hwd rn=> ?_)
   replace H:=H.below rn
   replace HF:=HF.bQ rn
   replace aw:=aw.below rn
   replace az:=az.below rn
   replace ak:=ak.below rn
   replace aq:=aq.below rn
   replace cN:=cN.below rn
   replace du:=du.below rn
   have aky:=rn.size
   clear hwd
   refine ⟨⟨cN.bl,du.bl⟩,?_⟩
   refine AU.tk 0 rfl (by kernel_rfl) (fun _ _ _ h=>h) rfl rfl (fun W hW=>bz rfl rfl Tryz.underlying37 rfl hW.1 aW) (by decide) ⟨cN.bl,du.bl⟩ ?_
   refine AU.tk 1 rfl (by kernel_rfl) (fun _ _ _ h=>h) rfl rfl (fun W hW=>bz rfl rfl Tryz.underlying39 rfl hW.2 bn) (by decide) ⟨cN.bl,du.bl⟩ ?_
   refine AU.st 2 rfl (by kernel_rfl) rfl rfl rfl rfl rfl ak.bl rfl H.gq aW (fun w' ho _=>⟨(ho.block _ (by omega)).trans cN.bl,(ho.block _ (by omega)).trans du.bl⟩) fun w33 TW sR=> ?_
   replace H:=H.one sR ak.n ak.k ak.g
   replace HF:=HF.one sR (.inr (by omega))
   replace aw:=aw.other sR (by omega)
   replace az:=az.other sR (by omega)
   replace aq:=aq.other sR (by omega)
   replace cN:=cN.other sR (by omega)
   replace du:=du.other sR (by omega)
   replace ak:=ak.put TW
   have aaE:=Nat.le_of_eq sR.size.symm
   refine AU.st 3 rfl (by kernel_rfl) rfl rfl rfl rfl rfl aq.bl rfl (cX _) bn (fun w' ho _=>⟨(ho.block _ (by omega)).trans cN.bl,(ho.block _ (by omega)).trans du.bl⟩) fun w34 TX sS=> ?_
   replace H:=H.one sS aq.n aq.k aq.g
   replace HF:=HF.one sS (.inr (by omega))
   replace aw:=aw.other sS (by omega)
   replace az:=az.other sS (by omega)
   replace ak:=ak.other sS (by omega)
   replace cN:=cN.other sS (by omega)
   replace du:=du.other sS (by omega)
   replace aq:=aq.put TX
   have aaF:=Nat.le_of_eq sS.size.symm
   refine AU.vv 4 rfl (by kernel_rfl) rfl rfl (cq rfl rfl) (by decide) (fun h=>absurd rfl h) ?_
   refine AU.done (by kernel_rfl) (NX.next (CW.ret ?_))
   exact NX.fT (NX.ret (NX.oV rfl rfl rfl rfl ak.bl aq.bl Tryz.underlying37 Tryz.underlying39 rfl rfl aW bn (mf.mk (q:=(aA k p x).1) rfl H HN hK HF (fun _=>by rw [aA,if_neg N0,if_neg N1,if_pos C,if_neg h2]) (fun h=>by cases h))))
 have hq:(decide ((nth p.af k).name=jR)&&di x)=false:=by
  simp only [Bool.and_eq_false_iff,decide_eq_false_iff_not]
  by_cases h1:(nth p.af k).name=jR
  ·right;simpa [h1] using C
  ·left;exact h1
 have N2:=C
 clear C
 rw [hq]
 clear hq
 refine CW.no rfl ?_
 refine CW.sub (E':=[(1,.int .i64 ((k+1:Nat):Int)),(3,.pointer (some ⟨w.heap.size,0,none⟩)),(5,.pointer (some ⟨w1.heap.size,0,none⟩)),(6,.pointer (some ⟨w2.heap.size,0,none⟩)),(7,.pointer (some ⟨w3.heap.size,0,none⟩)),(8,.bool false),(9,.string (nth p.af k).name),(10,.bool (di x))]) ⟨rfl,rfl,rfl,rfl,rfl,rfl,rfl,rfl,trivial⟩ ?_
 refine CW.seq (CW.region (BN rfl rfl rfl rfl rfl rfl rfl rfl rfl rfl rfl rfl rfl rfl rfl rfl rfl rfl rfl rfl rfl rfl rfl rfl (by decide) (fun _ _ _=>rfl) (by decide) rfl Tryz.underlying9 rfl mA ((az.bl.cell 0).trans rfl) ?_))
 intro E1 aO hb1
 refine NX.next (CW.sub (E':=(121,.bool (decide ((nth p.af k).name=kU)&&decide (x.method=fj)))::[(1,.int .i64 ((k+1:Nat):Int)),(3,.pointer (some ⟨w.heap.size,0,none⟩)),(5,.pointer (some ⟨w1.heap.size,0,none⟩)),(6,.pointer (some ⟨w2.heap.size,0,none⟩)),(7,.pointer (some ⟨w3.heap.size,0,none⟩)),(8,.bool false),(9,.string (nth p.af k).name),(10,.bool (di x))]) ⟨hb1.trans (by rw [fN,fN];rfl),(aO 1 (by decide)).trans rfl,(aO 3 (by decide)).trans rfl,(aO 5 (by decide)).trans rfl,(aO 6 (by decide)).trans rfl,(aO 7 (by decide)).trans rfl,(aO 8 (by decide)).trans rfl,(aO 9 (by decide)).trans rfl,(aO 10 (by decide)).trans rfl,trivial⟩ ?_)
 clear aO hb1
 by_cases C:(nth p.af k).name=kU/\x.method=fj
 ·have hq:(decide ((nth p.af k).name=kU)&&decide (x.method=fj))=true:=by simp [C.1,C.2]
  rw [hq]
  clear hq
  refine CW.yes rfl ?_
  refine CW.sub (E':=[(3,.pointer (some ⟨w.heap.size,0,none⟩)),(6,.pointer (some ⟨w2.heap.size,0,none⟩)),(7,.pointer (some ⟨w3.heap.size,0,none⟩)),(8,.bool false)]) ⟨rfl,rfl,rfl,rfl,trivial⟩ ?_
  refine CW.seq (CW.region ?_)
  refine WL.vv rfl rfl (bz rfl rfl Tryz.underlying37 rfl aw.bl aW) (by decide) ?_
  refine WL.vv rfl rfl (jn (vs:=[(0,.int .i64 6)]) rfl rfl (xw _)) (by decide) ?_
  refine WL.st rfl rfl rfl rfl rfl ak.bl rfl H.gq aW fun w35 TY xe=> ?_
  replace H:=H.one xe ak.n ak.k ak.g
  replace HF:=HF.one xe (.inr (by omega))
  replace aw:=aw.other xe (by omega)
  replace az:=az.other xe (by omega)
  replace aq:=aq.other xe (by omega)
  replace ak:=ak.put TY
  have akS:=Nat.le_of_eq xe.size.symm
  refine WL.st rfl rfl rfl rfl rfl aq.bl rfl (cX _) bn fun w36 TZ xg=> ?_
  replace H:=H.one xg aq.n aq.k aq.g
  replace HF:=HF.one xg (.inr (by omega))
  replace aw:=aw.other xg (by omega)
  replace az:=az.other xg (by omega)
  replace ak:=ak.other xg (by omega)
  replace aq:=aq.put TZ
  have akT:=Nat.le_of_eq xg.size.symm
  refine WL.vv rfl rfl (cq rfl rfl) (by decide) ?_
  refine WL.nil (NX.next (CW.ret ?_))
  exact NX.fT (NX.ret (NX.oV rfl rfl rfl rfl ak.bl aq.bl Tryz.underlying37 Tryz.underlying39 rfl rfl aW bn (mf.mk (q:=p) rfl H HN hK HF (fun _=>by rw [aA,if_neg N0,if_neg N1,if_neg N2,if_pos C]) (fun h=>by cases h))))
 have hq:(decide ((nth p.af k).name=kU)&&decide (x.method=fj))=false:=by
  simp only [Bool.and_eq_false_iff,decide_eq_false_iff_not]
  by_cases h1:(nth p.af k).name=kU
  ·right;exact fun h2=>C ⟨h1,h2⟩
  ·left;exact h1
 have N3:=C
 clear C
 rw [hq]
 clear hq
 refine CW.no rfl ?_
 refine CW.sub (E':=[(1,.int .i64 ((k+1:Nat):Int)),(3,.pointer (some ⟨w.heap.size,0,none⟩)),(5,.pointer (some ⟨w1.heap.size,0,none⟩)),(6,.pointer (some ⟨w2.heap.size,0,none⟩)),(7,.pointer (some ⟨w3.heap.size,0,none⟩)),(8,.bool false),(9,.string (nth p.af k).name),(10,.bool (di x))]) ⟨rfl,rfl,rfl,rfl,rfl,rfl,rfl,rfl,trivial⟩ ?_
 refine CW.seq (CW.region (BN rfl rfl rfl rfl rfl rfl rfl rfl rfl rfl rfl rfl rfl rfl rfl rfl rfl rfl rfl rfl rfl rfl rfl rfl (by decide) (fun _ _ _=>rfl) (by decide) rfl Tryz.underlying9 rfl mA ((az.bl.cell 0).trans rfl) ?_))
 intro E1 aO hb1
 refine NX.next (CW.sub (E':=(131,.bool (decide ((nth p.af k).name=gH)&&decide (x.method=eT)))::[(1,.int .i64 ((k+1:Nat):Int)),(3,.pointer (some ⟨w.heap.size,0,none⟩)),(5,.pointer (some ⟨w1.heap.size,0,none⟩)),(6,.pointer (some ⟨w2.heap.size,0,none⟩)),(7,.pointer (some ⟨w3.heap.size,0,none⟩)),(8,.bool false),(9,.string (nth p.af k).name),(10,.bool (di x))]) ⟨hb1.trans (by rw [fN,fN];rfl),(aO 1 (by decide)).trans rfl,(aO 3 (by decide)).trans rfl,(aO 5 (by decide)).trans rfl,(aO 6 (by decide)).trans rfl,(aO 7 (by decide)).trans rfl,(aO 8 (by decide)).trans rfl,(aO 9 (by decide)).trans rfl,(aO 10 (by decide)).trans rfl,trivial⟩ ?_)
 clear aO hb1
 by_cases C:(nth p.af k).name=gH/\x.method=eT
 ·have hq:(decide ((nth p.af k).name=gH)&&decide (x.method=eT))=true:=by simp [C.1,C.2]
  rw [hq]
  clear hq
  refine CW.yes rfl ?_
  have hr:=xT (qV p k) lb (.inr (.inl C.1))
  have q9:=EZ hp (k:=k) (by omega) (.inr C.1)
  have hsh:gP p (bump p k):=Cq (by omega)
  have hlb:=zP p k
  have hnb:eU (nth (bump p k).af k).count=true:=((nS.1 q9).2.2 k (by omega)).2.2.1
  refine CW.sub (E':=[(1,.int .i64 ((k+1:Nat):Int)),(3,.pointer (some ⟨w.heap.size,0,none⟩)),(5,.pointer (some ⟨w1.heap.size,0,none⟩)),(6,.pointer (some ⟨w2.heap.size,0,none⟩)),(7,.pointer (some ⟨w3.heap.size,0,none⟩)),(8,.bool false)]) ⟨rfl,rfl,rfl,rfl,rfl,rfl,trivial⟩ ?_
  refine CW.seq (CW.region ?_)
  refine WL.vv rfl rfl (bz rfl rfl Tryz.underlying37 rfl aw.bl aW) (by decide) ?_
  refine WL.vv rfl rfl (cJ rfl gJ) (by decide) ?_
  have alR:=aw.lt
  have alS:=az.lt
  have alT:=ak.lt
  have alU:=aq.lt
  obtain ⟨w37,Ty,LA,yp,Al,H',cZ,amF⟩:=H.alloc 37 bF
  change WL _ _ _ _ _ _ (w4.alloc (.cells bF 37))
  rw [<-LA]
  clear LA
  replace H:=H'
  clear H'
  replace HF:=HF.bQ yp
  replace aw:=(aw.below yp).more Al
  replace az:=(az.below yp).more Al
  replace ak:=(ak.below yp).more Al
  replace aq:=(aq.below yp).more Al
  replace HN:=fun i hi=>Al i (HN i hi)
  have akU:=yp.size
  refine WL.st rfl rfl rfl rfl rfl cZ.bl rfl H.gq aW fun w38 T9 uG=> ?_
  replace H:=H.one uG cZ.n cZ.k cZ.g
  replace HF:=HF.one uG (.inr (by omega))
  replace aw:=aw.other uG (by omega)
  replace az:=az.other uG (by omega)
  replace ak:=ak.other uG (by omega)
  replace aq:=aq.other uG (by omega)
  replace cZ:=cZ.put T9
  have akV:=Nat.le_of_eq uG.size.symm
  refine WL.nil (NX.next ?_)
  refine CW.sub (E':=[(1,.int .i64 ((k+1:Nat):Int)),(5,.pointer (some ⟨w1.heap.size,0,none⟩)),(6,.pointer (some ⟨w2.heap.size,0,none⟩)),(7,.pointer (some ⟨w3.heap.size,0,none⟩)),(8,.bool false),(15,.pointer (some ⟨w4.heap.size,0,none⟩))]) ⟨rfl,rfl,rfl,rfl,rfl,rfl,trivial⟩ ?_
  obtain ⟨-,a1,jt,hKb, -⟩:=H.lay (k:=k) (by omega)
  refine CW.seq (CW.any (fun W=>aJ W w4.heap.size 37 (aE p S1 (.slice (some ⟨b,o,none⟩) p.af.length cap))/\W.cell? ⟨b,o+k*2+1,none⟩=some (.int .i64 (nth p.af k).count)) 14 mo fun w39 hwd rp=> ?_)
  replace H:=H.below rp
  replace HF:=HF.bQ rp
  replace aw:=aw.below rp
  replace az:=az.below rp
  replace ak:=ak.below rp
  replace aq:=aq.below rp
  replace cZ:=cZ.below rp
  have akz:=rp.size
  replace a1:=ax rp a1
  clear jt hKb
  obtain ⟨-, -,jt,hKb, -⟩:=H.lay (k:=k) (by omega)
  clear hwd
  refine ⟨⟨cZ.bl,a1⟩,?_⟩
  refine AU.tk 0 rfl (by kernel_rfl) (fun _ _ _ h=>h) rfl rfl (fun W hW=>cO rfl rfl oZ) (by decide) ⟨cZ.bl,a1⟩ ?_
  refine AU.tk 1 rfl (by kernel_rfl) (fun _ _ _ h=>h) rfl rfl (fun W hW=>cr rfl rfl Tryz.underlying35 rfl (v:= .slice (some ⟨b,o,none⟩) p.af.length cap) ((hW.1.cell 5).trans rfl)) (by decide) ⟨cZ.bl,a1⟩ ?_
  refine AU.tk 2 rfl (by kernel_rfl) (fun _ _ _ h=>h) rfl rfl (fun W hW=>aU rfl rfl) (by decide) ⟨cZ.bl,a1⟩ ?_
  refine AU.tk 3 rfl (by kernel_rfl) (fun _ _ _ h=>h) rfl rfl (fun W hW=>iE rfl rfl rfl rfl hw) (by decide) ⟨cZ.bl,a1⟩ ?_
  refine AU.tk 4 rfl (by kernel_rfl) (fun _ _ _ h=>h) rfl rfl (fun W hW=>cO rfl rfl oZ) (by decide) ⟨cZ.bl,a1⟩ ?_
  refine AU.tk 5 rfl (by kernel_rfl) (fun _ _ _ h=>h) rfl rfl (fun W hW=>cr rfl rfl Tryz.underlying35 rfl (v:= .slice (some ⟨b,o,none⟩) p.af.length cap) ((hW.1.cell 5).trans rfl)) (by decide) ⟨cZ.bl,a1⟩ ?_
  refine AU.tk 6 rfl (by kernel_rfl) (fun _ _ _ h=>h) rfl rfl (fun W hW=>aU rfl rfl) (by decide) ⟨cZ.bl,a1⟩ ?_
  refine AU.tk 7 rfl (by kernel_rfl) (fun _ _ _ h=>h) rfl rfl (fun W hW=>iE rfl rfl rfl rfl hw) (by decide) ⟨cZ.bl,a1⟩ ?_
  refine AU.tk 8 rfl (by kernel_rfl) (fun _ _ _ h=>h) rfl rfl (fun W hW=>oK rfl rfl rfl (by omega) (by omega) tB) (by decide) ⟨cZ.bl,a1⟩ ?_
  refine AU.tk 9 rfl (by kernel_rfl) (fun _ _ _ h=>h) rfl rfl (fun W hW=>cO rfl rfl ox) (by decide) ⟨cZ.bl,a1⟩ ?_
  refine AU.tk 10 rfl (by kernel_rfl) (fun _ _ _ h=>h) rfl rfl (fun W hW=>cr rfl rfl Tryz.underlying3 rfl hW.2) (by decide) ⟨cZ.bl,a1⟩ ?_
  refine AU.c 11 (args:= #[.int .i64 (nth p.af k).count]) rfl (by kernel_rfl) rfl rfl (bT (by kernel_rfl) rfl rfl rfl) (by decide) (SX H _ Nb) ?_
  rintro _ Jf ⟨rfl,ru⟩
  replace H:=H.below ru
  replace HF:=HF.bQ ru
  replace aw:=aw.below ru
  replace az:=az.below ru
  replace ak:=ak.below ru
  replace aq:=aq.below ru
  replace cZ:=cZ.below ru
  have akB:=ru.size
  replace a1:=ax ru a1
  clear jt hKb
  obtain ⟨-, -,jt,hKb, -⟩:=H.lay (k:=k) (by omega)
  refine ⟨_,rfl,fun _=>⟨cZ.bl,a1⟩,?_⟩
  refine AU.tk 12 rfl (by kernel_rfl) (fun _ _ _ h=>h) rfl rfl (fun W hW=>oK rfl rfl rfl (by omega) (by omega) tB) (by decide) ⟨cZ.bl,a1⟩ ?_
  refine AU.tk 13 rfl (by kernel_rfl) (fun _ _ _ h=>h) rfl rfl (fun W hW=>cO rfl rfl ox) (by decide) ⟨cZ.bl,a1⟩ ?_
  refine AU.ss 14 rfl (by kernel_rfl) rfl rfl (ze rfl rfl rfl yR rfl a1 (jt _)) (fun h=>absurd rfl h) ?_
  replace H:=H.bump (k:=k) (by omega) (QX Nb)
  replace HF:=HF.BM (q:=⟨b,o+k*2+1,none⟩) (.int .i64 (bR (nth p.af k).count)) (.inl hKb)
  replace aw:=aw.far (a:=⟨b,o+k*2+1,none⟩) (.int .i64 (bR (nth p.af k).count)) hKb
  replace az:=az.far (a:=⟨b,o+k*2+1,none⟩) (.int .i64 (bR (nth p.af k).count)) hKb
  replace ak:=ak.far (a:=⟨b,o+k*2+1,none⟩) (.int .i64 (bR (nth p.af k).count)) hKb
  replace aq:=aq.far (a:=⟨b,o+k*2+1,none⟩) (.int .i64 (bR (nth p.af k).count)) hKb
  replace cZ:=cZ.far (a:=⟨b,o+k*2+1,none⟩) (.int .i64 (bR (nth p.af k).count)) hKb
  obtain ⟨SQ,FN⟩: ∃z,z=Jf.setCell ⟨b,o+k*2+1,none⟩ (.int .i64 (bR (nth p.af k).count)):=⟨_,rfl⟩
  have akW:Jf.heap.size<=SQ.heap.size:=by rw [FN];simp
  change AU _ _ _ _ _ _ _ _ _ (Jf.setCell ⟨b,o+k*2+1,none⟩ (.int .i64 (bR (nth p.af k).count)))
  rw [<-FN] at H HF aw az ak aq cZ ⊢
  clear FN a1 jt hKb
  refine AU.done (by kernel_rfl) (NX.next ?_)
  refine CW.sub (E':=[(1,.int .i64 ((k+1:Nat):Int)),(5,.pointer (some ⟨w1.heap.size,0,none⟩)),(6,.pointer (some ⟨w2.heap.size,0,none⟩)),(7,.pointer (some ⟨w3.heap.size,0,none⟩)),(8,.bool false),(15,.pointer (some ⟨w4.heap.size,0,none⟩))]) ⟨rfl,rfl,rfl,rfl,rfl,rfl,trivial⟩ ?_
  have Dz:=rS.1 (Ku hc)
  by_cases hv:x.val<=1
  case neg =>
   refine CW.seq (CW.seq (CW.region ?_))
   refine WL.vv rfl rfl (cO rfl rfl CY) (by decide) ?_
   refine WL.vv rfl rfl (cr rfl rfl Tryz.underlying3 rfl (v:= .int .i64 x.val) ((az.bl.cell 2).trans rfl)) (by decide) ?_
   refine WL.vv rfl rfl (gr (b:=true) rfl rfl rfl rfl (by simp [aS];omega)) (by decide) ?_
   refine WL.nil (NX.next (CW.yes rfl ?_))
   refine CW.sub (E':=[(1,.int .i64 ((k+1:Nat):Int)),(6,.pointer (some ⟨w2.heap.size,0,none⟩)),(7,.pointer (some ⟨w3.heap.size,0,none⟩)),(8,.bool false),(15,.pointer (some ⟨w4.heap.size,0,none⟩))]) ⟨rfl,rfl,rfl,rfl,rfl,trivial⟩ ?_
   obtain ⟨-,a1,jt,hKb, -⟩:=H.lay (k:=k) (by rw [hlb];omega)
   refine CW.seq (CW.any (fun W=>aJ W w4.heap.size 37 (aE p S1 (.slice (some ⟨b,o,none⟩) p.af.length cap))/\W.cell? ⟨b,o+k*2+1,none⟩=some (.int .i64 (nth (bump p k).af k).count)) 11 mo fun w42 hwd rz=> ?_)
   replace H:=H.below rz
   replace HF:=HF.bQ rz
   replace aw:=aw.below rz
   replace az:=az.below rz
   replace ak:=ak.below rz
   replace aq:=aq.below rz
   replace cZ:=cZ.below rz
   have akC:=rz.size
   replace a1:=ax rz a1
   clear jt hKb
   obtain ⟨-, -,jt,hKb, -⟩:=H.lay (k:=k) (by rw [hlb];omega)
   clear hwd
   refine ⟨⟨cZ.bl,a1⟩,?_⟩
   refine AU.tk 0 rfl (by kernel_rfl) (fun _ _ _ h=>h) rfl rfl (fun W hW=>bz rfl rfl Tryz.underlying37 rfl hW.1 aW) (by decide) ⟨cZ.bl,a1⟩ ?_
   refine AU.tk 1 rfl (by kernel_rfl) (fun _ _ _ h=>h) rfl rfl (fun W hW=>cO rfl rfl oZ) (by decide) ⟨cZ.bl,a1⟩ ?_
   refine AU.tk 2 rfl (by kernel_rfl) (fun _ _ _ h=>h) rfl rfl (fun W hW=>cr rfl rfl Tryz.underlying35 rfl (v:= .slice (some ⟨b,o,none⟩) p.af.length cap) ((hW.1.cell 5).trans rfl)) (by decide) ⟨cZ.bl,a1⟩ ?_
   refine AU.tk 3 rfl (by kernel_rfl) (fun _ _ _ h=>h) rfl rfl (fun W hW=>aU rfl rfl) (by decide) ⟨cZ.bl,a1⟩ ?_
   refine AU.tk 4 rfl (by kernel_rfl) (fun _ _ _ h=>h) rfl rfl (fun W hW=>iE rfl rfl rfl rfl hw) (by decide) ⟨cZ.bl,a1⟩ ?_
   refine AU.tk 5 rfl (by kernel_rfl) (fun _ _ _ h=>h) rfl rfl (fun W hW=>oK rfl rfl rfl (by omega) (by omega) tB) (by decide) ⟨cZ.bl,a1⟩ ?_
   refine AU.tk 6 rfl (by kernel_rfl) (fun _ _ _ h=>h) rfl rfl (fun W hW=>cO rfl rfl ox) (by decide) ⟨cZ.bl,a1⟩ ?_
   refine AU.tk 7 rfl (by kernel_rfl) (fun _ _ _ h=>h) rfl rfl (fun W hW=>cr rfl rfl Tryz.underlying3 rfl hW.2) (by decide) ⟨cZ.bl,a1⟩ ?_
   refine AU.tk 8 rfl (by kernel_rfl) (fun _ _ _ h=>h) rfl rfl (fun W hW=>jn (vs:=[(1,.int .i64 (nth (bump p k).af k).count)]) rfl rfl (Cn _)) (by decide) ⟨cZ.bl,a1⟩ ?_
   refine AU.st 9 rfl (by kernel_rfl) rfl rfl rfl rfl rfl ak.bl rfl H.gq aW (fun w' ho _=>⟨(ho.block _ (by omega)).trans cZ.bl,(cell_of_heap (ho.block b (fun e=>ak.k (e▸hKb)))).trans a1⟩) fun w43 Ua sU=> ?_
   replace a1:=(cell_of_heap (sU.block b (fun e=>ak.k (e▸hKb)))).trans a1
   replace H:=H.one sU ak.n ak.k ak.g
   replace HF:=HF.one sU (.inr (by omega))
   replace aw:=aw.other sU (by omega)
   replace az:=az.other sU (by omega)
   replace aq:=aq.other sU (by omega)
   replace cZ:=cZ.other sU (by omega)
   replace ak:=ak.put Ua
   have akX:=Nat.le_of_eq sU.size.symm
   refine AU.st 10 rfl (by kernel_rfl) rfl rfl rfl rfl rfl aq.bl rfl (cX _) bn (fun w' ho _=>⟨(ho.block _ (by omega)).trans cZ.bl,(cell_of_heap (ho.block b (fun e=>aq.k (e▸hKb)))).trans a1⟩) fun w44 Ub sV=> ?_
   replace a1:=(cell_of_heap (sV.block b (fun e=>aq.k (e▸hKb)))).trans a1
   replace H:=H.one sV aq.n aq.k aq.g
   replace HF:=HF.one sV (.inr (by omega))
   replace aw:=aw.other sV (by omega)
   replace az:=az.other sV (by omega)
   replace ak:=ak.other sV (by omega)
   replace cZ:=cZ.other sV (by omega)
   replace aq:=aq.put Ub
   have akY:=Nat.le_of_eq sV.size.symm
   refine AU.vv 11 rfl (by kernel_rfl) rfl rfl (cq rfl rfl) (by decide) (fun h=>absurd rfl h) ?_
   refine AU.done (by kernel_rfl) (NX.next (CW.ret ?_))
   exact NX.ret (NX.fT (NX.ret (NX.oV rfl rfl rfl rfl ak.bl aq.bl Tryz.underlying37 Tryz.underlying39 rfl rfl aW bn (mf.mk (q:=(bump p k)) rfl H HN hK HF (fun _=>by rw [aA,if_neg N0,if_neg N1,if_neg N2,if_neg N3,if_pos C,if_neg (by omega),if_neg (by omega)]) (fun h=>by cases h)))))
  case pos =>
   refine CW.seq (CW.seq (CW.region ?_))
   refine WL.vv rfl rfl (cO rfl rfl CY) (by decide) ?_
   refine WL.vv rfl rfl (cr rfl rfl Tryz.underlying3 rfl (v:= .int .i64 x.val) ((az.bl.cell 2).trans rfl)) (by decide) ?_
   refine WL.vv rfl rfl (gr (b:=false) rfl rfl rfl rfl (by simp [aS];omega)) (by decide) ?_
   refine WL.nil (NX.next (CW.no rfl (CW.skip (NX.next ?_))))
   obtain ⟨j,m,hj,hj2,mM,hms,yF,hmo,YZ⟩: ∃(j:Nat) (m:ByteArray),(#[Value.string bZ,.string mStart])[j]? =some (.string m)/\j<2/\x.val=(j:Int)/\m.size<=maxLen/\ek (br m)=true/\cK (eC (bump p k) k) (bI (br m).method)=true/\aA (k+1) p x=aA k (bump p k) (br m):=by
    by_cases v0:x.val=0
    ·exact ⟨0,bZ,rfl,by omega,v0,by decide,tw.2.1,by rw [hsh.qg (by omega)];exact hr.2,by rw [aA,if_neg N0,if_neg N1,if_neg N2,if_neg N3,if_pos C,if_pos v0]⟩
    ·have v1:x.val=1:=by omega
     exact ⟨1,mStart,rfl,by omega,v1,by decide,tw.1,by rw [hsh.qg (by omega)];exact hr.1,by rw [aA,if_neg N0,if_neg N1,if_neg N2,if_neg N3,if_pos C,if_neg v0,if_pos v1]⟩
   refine CW.sub (E':=[(1,.int .i64 ((k+1:Nat):Int)),(5,.pointer (some ⟨w1.heap.size,0,none⟩)),(6,.pointer (some ⟨w2.heap.size,0,none⟩)),(7,.pointer (some ⟨w3.heap.size,0,none⟩)),(15,.pointer (some ⟨w4.heap.size,0,none⟩))]) ⟨rfl,rfl,rfl,rfl,rfl,trivial⟩ ?_
   have lo3:=aw.lt
   have lo5:=az.lt
   have lo6:=ak.lt
   have lo7:=aq.lt
   have aaI:=cZ.lt
   refine CW.seq (CW.any (sH (bump p k) x S1 (.slice (some ⟨b,o,none⟩) p.af.length cap) (w1.heap.size) (w4.heap.size)) 16 mo fun wd hwd cy=>⟨⟨(cZ.below cy).bl,(az.below cy).bl⟩,?_⟩)
   refine ab9 IH (lo:=SQ.heap.size) (fun _ _ t _ _ h=>by cases t<;>exact h) hj hj2 mM (Bw hms) yF q9 (by rw [hlb];omega) hmo (by omega) (fun N2 W2 U2 b16 b17 H2 X2 dz dG aj5 aj6 hne hlo2=> ?_) Ty wd ⟨H.below cy,HF.bQ cy,HN⟩ ⟨aw.below cy,az.below cy,ak.below cy,aq.below cy,cZ.below cy,⟨lo3,lo5,lo6,lo7,aaI⟩⟩ cy.size
   refine NX.next ?_
   obtain ⟨z3,z5,z6,z7,z15⟩:=X2.lt
   clear H HF HN
   have H:=H2.h
   have HF:=H2.hf
   have HN:=H2.hn
   have Q6:=X2.m6
   have Q7:=X2.m7
   refine CW.sub (E':=[(6,.pointer (some ⟨w2.heap.size,0,none⟩)),(7,.pointer (some ⟨w3.heap.size,0,none⟩)),(16,.pointer (some ⟨b16,0,none⟩)),(17,.pointer (some ⟨b17,0,none⟩))]) ⟨rfl,rfl,rfl,rfl,trivial⟩ ?_
   refine CW.seq (CW.any (fun W=>aJ W b16 37 (aE (aA k (bump p k) (br m)).1 U2 (.slice (some ⟨b,o,none⟩) p.af.length cap))/\aJ W b17 39 (dV (aA k (bump p k) (br m)).2)) 4 mo fun w45 hwd vw=> ?_)
   replace H:=H.below vw
   replace HF:=HF.bQ vw
   replace Q6:=Q6.below vw
   replace Q7:=Q7.below vw
   replace dz:=dz.below vw
   replace dG:=dG.below vw
   have akD:=vw.size
   clear hwd
   refine ⟨⟨dz.bl,dG.bl⟩,?_⟩
   refine AU.tk 0 rfl (by kernel_rfl) (fun _ _ _ h=>h) rfl rfl (fun W hW=>bz rfl rfl Tryz.underlying37 rfl hW.1 aW) (by decide) ⟨dz.bl,dG.bl⟩ ?_
   refine AU.tk 1 rfl (by kernel_rfl) (fun _ _ _ h=>h) rfl rfl (fun W hW=>bz rfl rfl Tryz.underlying39 rfl hW.2 bn) (by decide) ⟨dz.bl,dG.bl⟩ ?_
   refine AU.st 2 rfl (by kernel_rfl) rfl rfl rfl rfl rfl Q6.bl rfl H.gq aW (fun w' ho _=>⟨(ho.block _ (by omega)).trans dz.bl,(ho.block _ (by omega)).trans dG.bl⟩) fun w46 Uc xh=> ?_
   replace H:=H.one xh Q6.n Q6.k Q6.g
   replace HF:=HF.one xh (.inr (by omega))
   replace Q7:=Q7.other xh (by omega)
   replace dz:=dz.other xh (by omega)
   replace dG:=dG.other xh (by omega)
   replace Q6:=Q6.put Uc
   have akZ:=Nat.le_of_eq xh.size.symm
   refine AU.st 3 rfl (by kernel_rfl) rfl rfl rfl rfl rfl Q7.bl rfl (cX _) bn (fun w' ho _=>⟨(ho.block _ (by omega)).trans dz.bl,(ho.block _ (by omega)).trans dG.bl⟩) fun w47 Ud xj=> ?_
   replace H:=H.one xj Q7.n Q7.k Q7.g
   replace HF:=HF.one xj (.inr (by omega))
   replace Q6:=Q6.other xj (by omega)
   replace dz:=dz.other xj (by omega)
   replace dG:=dG.other xj (by omega)
   replace Q7:=Q7.put Ud
   have ak0:=Nat.le_of_eq xj.size.symm
   refine AU.vv 4 rfl (by kernel_rfl) rfl rfl (cq rfl rfl) (by decide) (fun h=>absurd rfl h) ?_
   refine AU.done (by kernel_rfl) (NX.next (CW.ret ?_))
   exact NX.fT (NX.ret (NX.oV rfl rfl rfl rfl Q6.bl Q7.bl Tryz.underlying37 Tryz.underlying39 rfl rfl aW bn (mf.mk (q:=(aA k (bump p k) (br m)).1) rfl H HN hK HF (fun _=>by rw [YZ]) (fun h=>by cases h))))
 have hq:(decide ((nth p.af k).name=gH)&&decide (x.method=eT))=false:=by
  simp only [Bool.and_eq_false_iff,decide_eq_false_iff_not]
  by_cases h1:(nth p.af k).name=gH
  ·right;exact fun h2=>C ⟨h1,h2⟩
  ·left;exact h1
 have N4:=C
 clear C
 rw [hq]
 clear hq
 refine CW.no rfl ?_
 refine CW.sub (E':=[(1,.int .i64 ((k+1:Nat):Int)),(3,.pointer (some ⟨w.heap.size,0,none⟩)),(5,.pointer (some ⟨w1.heap.size,0,none⟩)),(6,.pointer (some ⟨w2.heap.size,0,none⟩)),(7,.pointer (some ⟨w3.heap.size,0,none⟩)),(8,.bool false),(9,.string (nth p.af k).name),(10,.bool (di x))]) ⟨rfl,rfl,rfl,rfl,rfl,rfl,rfl,rfl,trivial⟩ ?_
 refine CW.seq (CW.region (BN rfl rfl rfl rfl rfl rfl rfl rfl rfl rfl rfl rfl rfl rfl rfl rfl rfl rfl rfl rfl rfl rfl rfl rfl (by decide) (fun _ _ _=>rfl) (by decide) rfl Tryz.underlying9 rfl mA ((az.bl.cell 0).trans rfl) ?_))
 intro E1 aO hb1
 refine NX.next (CW.sub (E':=(181,.bool (decide ((nth p.af k).name=jC)&&decide (x.method=eS)))::[(1,.int .i64 ((k+1:Nat):Int)),(3,.pointer (some ⟨w.heap.size,0,none⟩)),(5,.pointer (some ⟨w1.heap.size,0,none⟩)),(6,.pointer (some ⟨w2.heap.size,0,none⟩)),(7,.pointer (some ⟨w3.heap.size,0,none⟩)),(8,.bool false),(9,.string (nth p.af k).name),(10,.bool (di x))]) ⟨hb1.trans (by rw [fN,fN];rfl),(aO 1 (by decide)).trans rfl,(aO 3 (by decide)).trans rfl,(aO 5 (by decide)).trans rfl,(aO 6 (by decide)).trans rfl,(aO 7 (by decide)).trans rfl,(aO 8 (by decide)).trans rfl,(aO 9 (by decide)).trans rfl,(aO 10 (by decide)).trans rfl,trivial⟩ ?_)
 clear aO hb1
 by_cases C:(nth p.af k).name=jC/\x.method=eS
 ·have hq:(decide ((nth p.af k).name=jC)&&decide (x.method=eS))=true:=by simp [C.1,C.2]
  rw [hq]
  clear hq
  refine CW.yes rfl ?_
  have hr:=xT (qV p k) lb (.inr (.inr C.1))
  have oH:=pQ k p (br bZ) hp (by omega) tw.2.1 hr.2
  have hl1:=oH.2.1.len
  have DQ:cK (eC (aA k p (br bZ)).1 k) (bI (br mStart).method)=true:=by rw [oH.2.1.qg (by omega)];exact hr.1
  refine CW.sub (E':=[(1,.int .i64 ((k+1:Nat):Int)),(3,.pointer (some ⟨w.heap.size,0,none⟩)),(6,.pointer (some ⟨w2.heap.size,0,none⟩)),(7,.pointer (some ⟨w3.heap.size,0,none⟩)),(8,.bool false)]) ⟨rfl,rfl,rfl,rfl,rfl,trivial⟩ ?_
  refine CW.seq (CW.region ?_)
  refine WL.vv rfl rfl (bz rfl rfl Tryz.underlying37 rfl aw.bl aW) (by decide) ?_
  refine WL.vv rfl rfl (aU rfl rfl) (by decide) ?_
  refine WL.vv rfl rfl (iE rfl rfl rfl rfl hw) (by decide) ?_
  refine WL.vv rfl rfl (jn (vs:=[(0,.string bZ)]) rfl rfl (uT _)) (by decide) ?_
  refine WL.c rfl rfl (bT (args:= #[.agg (aE p S1 (.slice (some ⟨b,o,none⟩) p.af.length cap)),.int .i64 (k:Int),.agg #[.string bZ,.string cI,.int .i64 0,.string cI]]) (by kernel_rfl) rfl rfl rfl) (by decide) (IH K uD _ _ _ p (br bZ) H (Bw (by decide)) hp tw.2.1 (by omega) hr.2) ?_
  rintro _ SR ⟨UD,rfl,H',yz⟩
  refine ⟨_,rfl,?_⟩
  replace H:=H'
  clear H'
  replace HF:=HF.mY yz
  replace aw:=aw.bV yz
  replace az:=az.bV yz
  replace ak:=ak.bV yz
  replace aq:=aq.bV yz
  have ak1:=yz.size
  refine WL.vv rfl rfl (aU rfl rfl) (by decide) ?_
  refine WL.vv rfl rfl (dQ rfl rfl rfl) (by decide) ?_
  refine WL.vv rfl rfl (dQ rfl rfl rfl) (by decide) ?_
  refine WL.vv rfl rfl (cJ rfl gJ) (by decide) ?_
  have alV:=aw.lt
  have alW:=az.lt
  have alX:=ak.lt
  have alY:=aq.lt
  obtain ⟨w49,ajm,LB,yq,Am,H',fL,amG⟩:=H.alloc 37 bF
  change WL _ _ _ _ _ _ (SR.alloc (.cells bF 37))
  rw [<-LB]
  clear LB
  replace H:=H'
  clear H'
  replace HF:=HF.bQ yq
  replace aw:=(aw.below yq).more Am
  replace az:=(az.below yq).more Am
  replace ak:=(ak.below yq).more Am
  replace aq:=(aq.below yq).more Am
  replace HN:=fun i hi=>Am i (HN i hi)
  have ak2:=yq.size
  refine WL.vv rfl rfl (cJ rfl gK) (by decide) ?_
  have alZ:=aw.lt
  have al0:=az.lt
  have al1:=ak.lt
  have al2:=aq.lt
  have al3:=fL.lt
  obtain ⟨w50,Tz,LC,vz,yd,H',gM,amH⟩:=H.alloc 39 aY
  change WL _ _ _ _ _ _ (w49.alloc (.cells aY 39))
  rw [<-LC]
  clear LC
  replace H:=H'
  clear H'
  replace HF:=HF.bQ vz
  replace aw:=(aw.below vz).more yd
  replace az:=(az.below vz).more yd
  replace ak:=(ak.below vz).more yd
  replace aq:=(aq.below vz).more yd
  replace fL:=(fL.below vz).more yd
  replace HN:=fun i hi=>yd i (HN i hi)
  have ak3:=vz.size
  refine WL.st rfl rfl rfl rfl rfl fL.bl rfl H.gq aW fun w51 Uf sW=> ?_
  replace H:=H.one sW fL.n fL.k fL.g
  replace HF:=HF.one sW (.inr (by omega))
  replace aw:=aw.other sW (by omega)
  replace az:=az.other sW (by omega)
  replace ak:=ak.other sW (by omega)
  replace aq:=aq.other sW (by omega)
  replace gM:=gM.other sW (by omega)
  replace fL:=fL.put Uf
  have ak4:=Nat.le_of_eq sW.size.symm
  refine WL.st rfl rfl rfl rfl rfl gM.bl rfl (cX _) bn fun w52 Ug sX=> ?_
  replace H:=H.one sX gM.n gM.k gM.g
  replace HF:=HF.one sX (.inr (by omega))
  replace aw:=aw.other sX (by omega)
  replace az:=az.other sX (by omega)
  replace ak:=ak.other sX (by omega)
  replace aq:=aq.other sX (by omega)
  replace fL:=fL.other sX (by omega)
  replace gM:=gM.put Ug
  have ak5:=Nat.le_of_eq sX.size.symm
  refine WL.nil (NX.next ?_)
  refine CW.sub (E':=[(1,.int .i64 ((k+1:Nat):Int)),(6,.pointer (some ⟨w2.heap.size,0,none⟩)),(7,.pointer (some ⟨w3.heap.size,0,none⟩)),(8,.bool false),(18,.pointer (some ⟨SR.heap.size,0,none⟩))]) ⟨rfl,rfl,rfl,rfl,rfl,trivial⟩ ?_
  refine CW.seq (CW.region ?_)
  refine WL.vv rfl rfl (bz rfl rfl Tryz.underlying37 rfl fL.bl aW) (by decide) ?_
  refine WL.vv rfl rfl (aU rfl rfl) (by decide) ?_
  refine WL.vv rfl rfl (iE rfl rfl rfl rfl hw) (by decide) ?_
  refine WL.vv rfl rfl (jn (vs:=[(0,.string mStart)]) rfl rfl (uT _)) (by decide) ?_
  refine WL.c rfl rfl (bT (args:= #[.agg (aE (aA k p (br bZ)).1 UD (.slice (some ⟨b,o,none⟩) p.af.length cap)),.int .i64 (k:Int),.agg #[.string mStart,.string cI,.int .i64 0,.string cI]]) (by kernel_rfl) rfl rfl rfl) (by decide) (IH K Tz _ _ _ (aA k p (br bZ)).1 (br mStart) H (Bw (by decide)) oH.1 tw.1 (by rw [hl1];omega) DQ) ?_
  rintro _ Jg ⟨UE,rfl,H',tW⟩
  refine ⟨_,rfl,?_⟩
  replace H:=H'
  clear H'
  replace HF:=HF.mY tW
  replace aw:=aw.bV tW
  replace az:=az.bV tW
  replace ak:=ak.bV tW
  replace aq:=aq.bV tW
  replace fL:=fL.bV tW
  replace gM:=gM.bV tW
  have ak6:=tW.size
  refine WL.vv rfl rfl (aU rfl rfl) (by decide) ?_
  refine WL.vv rfl rfl (dQ rfl rfl rfl) (by decide) ?_
  refine WL.vv rfl rfl (dQ rfl rfl rfl) (by decide) ?_
  refine WL.vv rfl rfl (cJ rfl gJ) (by decide) ?_
  have al4:=aw.lt
  have al5:=az.lt
  have al6:=ak.lt
  have al7:=aq.lt
  have al8:=fL.lt
  have al9:=gM.lt
  obtain ⟨Jh,ajn,LD,tP,vk,H',iJ,amI⟩:=H.alloc 37 bF
  change WL _ _ _ _ _ _ (Jg.alloc (.cells bF 37))
  rw [<-LD]
  clear LD
  replace H:=H'
  clear H'
  replace HF:=HF.bQ tP
  replace aw:=(aw.below tP).more vk
  replace az:=(az.below tP).more vk
  replace ak:=(ak.below tP).more vk
  replace aq:=(aq.below tP).more vk
  replace fL:=(fL.below tP).more vk
  replace gM:=(gM.below tP).more vk
  replace HN:=fun i hi=>vk i (HN i hi)
  have ak7:=tP.size
  refine WL.vv rfl rfl (cJ rfl gK) (by decide) ?_
  have ama:=aw.lt
  have amb:=az.lt
  have amc:=ak.lt
  have amd:=aq.lt
  have ame:=fL.lt
  have amf:=gM.lt
  have amg:=iJ.lt
  obtain ⟨w55,ajo,LF,rA,tM,H',js,amJ⟩:=H.alloc 39 aY
  change WL _ _ _ _ _ _ (Jh.alloc (.cells aY 39))
  rw [<-LF]
  clear LF
  replace H:=H'
  clear H'
  replace HF:=HF.bQ rA
  replace aw:=(aw.below rA).more tM
  replace az:=(az.below rA).more tM
  replace ak:=(ak.below rA).more tM
  replace aq:=(aq.below rA).more tM
  replace fL:=(fL.below rA).more tM
  replace gM:=(gM.below rA).more tM
  replace iJ:=(iJ.below rA).more tM
  replace HN:=fun i hi=>tM i (HN i hi)
  have ak8:=rA.size
  refine WL.st rfl rfl rfl rfl rfl iJ.bl rfl H.gq aW fun w56 Uh pZ=> ?_
  replace H:=H.one pZ iJ.n iJ.k iJ.g
  replace HF:=HF.one pZ (.inr (by omega))
  replace aw:=aw.other pZ (by omega)
  replace az:=az.other pZ (by omega)
  replace ak:=ak.other pZ (by omega)
  replace aq:=aq.other pZ (by omega)
  replace fL:=fL.other pZ (by omega)
  replace gM:=gM.other pZ (by omega)
  replace js:=js.other pZ (by omega)
  replace iJ:=iJ.put Uh
  have ak9:=Nat.le_of_eq pZ.size.symm
  refine WL.st rfl rfl rfl rfl rfl js.bl rfl (cX _) bn fun w57 Ui p7=> ?_
  replace H:=H.one p7 js.n js.k js.g
  replace HF:=HF.one p7 (.inr (by omega))
  replace aw:=aw.other p7 (by omega)
  replace az:=az.other p7 (by omega)
  replace ak:=ak.other p7 (by omega)
  replace aq:=aq.other p7 (by omega)
  replace fL:=fL.other p7 (by omega)
  replace gM:=gM.other p7 (by omega)
  replace iJ:=iJ.other p7 (by omega)
  replace js:=js.put Ui
  have ala:=Nat.le_of_eq p7.size.symm
  refine WL.nil (NX.next ?_)
  refine CW.sub (E':=[(6,.pointer (some ⟨w2.heap.size,0,none⟩)),(7,.pointer (some ⟨w3.heap.size,0,none⟩)),(8,.bool false),(20,.pointer (some ⟨Jg.heap.size,0,none⟩)),(21,.pointer (some ⟨Jh.heap.size,0,none⟩))]) ⟨rfl,rfl,rfl,rfl,rfl,trivial⟩ ?_
  refine CW.seq (CW.any (fun W=>aJ W Jg.heap.size 37 (aE (aA k (aA k p (br bZ)).1 (br mStart)).1 UE (.slice (some ⟨b,o,none⟩) p.af.length cap))/\aJ W Jh.heap.size 39 (dV (aA k (aA k p (br bZ)).1 (br mStart)).2)) 4 mo fun w58 hwd pz=> ?_)
  replace H:=H.below pz
  replace HF:=HF.bQ pz
  replace aw:=aw.below pz
  replace az:=az.below pz
  replace ak:=ak.below pz
  replace aq:=aq.below pz
  replace fL:=fL.below pz
  replace gM:=gM.below pz
  replace iJ:=iJ.below pz
  replace js:=js.below pz
  have akF:=pz.size
  clear hwd
  refine ⟨⟨iJ.bl,js.bl⟩,?_⟩
  refine AU.tk 0 rfl (by kernel_rfl) (fun _ _ _ h=>h) rfl rfl (fun W hW=>bz rfl rfl Tryz.underlying37 rfl hW.1 aW) (by decide) ⟨iJ.bl,js.bl⟩ ?_
  refine AU.tk 1 rfl (by kernel_rfl) (fun _ _ _ h=>h) rfl rfl (fun W hW=>bz rfl rfl Tryz.underlying39 rfl hW.2 bn) (by decide) ⟨iJ.bl,js.bl⟩ ?_
  refine AU.st 2 rfl (by kernel_rfl) rfl rfl rfl rfl rfl ak.bl rfl H.gq aW (fun w' ho _=>⟨(ho.block _ (by omega)).trans iJ.bl,(ho.block _ (by omega)).trans js.bl⟩) fun w59 Uj p8=> ?_
  replace H:=H.one p8 ak.n ak.k ak.g
  replace HF:=HF.one p8 (.inr (by omega))
  replace aw:=aw.other p8 (by omega)
  replace az:=az.other p8 (by omega)
  replace aq:=aq.other p8 (by omega)
  replace fL:=fL.other p8 (by omega)
  replace gM:=gM.other p8 (by omega)
  replace iJ:=iJ.other p8 (by omega)
  replace js:=js.other p8 (by omega)
  replace ak:=ak.put Uj
  have alb:=Nat.le_of_eq p8.size.symm
  refine AU.st 3 rfl (by kernel_rfl) rfl rfl rfl rfl rfl aq.bl rfl (cX _) bn (fun w' ho _=>⟨(ho.block _ (by omega)).trans iJ.bl,(ho.block _ (by omega)).trans js.bl⟩) fun w60 Uk p9=> ?_
  replace H:=H.one p9 aq.n aq.k aq.g
  replace HF:=HF.one p9 (.inr (by omega))
  replace aw:=aw.other p9 (by omega)
  replace az:=az.other p9 (by omega)
  replace ak:=ak.other p9 (by omega)
  replace fL:=fL.other p9 (by omega)
  replace gM:=gM.other p9 (by omega)
  replace iJ:=iJ.other p9 (by omega)
  replace js:=js.other p9 (by omega)
  replace aq:=aq.put Uk
  have alc:=Nat.le_of_eq p9.size.symm
  refine AU.vv 4 rfl (by kernel_rfl) rfl rfl (cq rfl rfl) (by decide) (fun h=>absurd rfl h) ?_
  refine AU.done (by kernel_rfl) (NX.next (CW.ret ?_))
  exact NX.fT (NX.ret (NX.oV rfl rfl rfl rfl ak.bl aq.bl Tryz.underlying37 Tryz.underlying39 rfl rfl aW bn (mf.mk (q:=(aA k (aA k p (br bZ)).1 (br mStart)).1) rfl H HN hK HF (fun _=>by rw [aA,if_neg N0,if_neg N1,if_neg N2,if_neg N3,if_neg N4,if_pos C]) (fun h=>by cases h))))
 have hq:(decide ((nth p.af k).name=jC)&&decide (x.method=eS))=false:=by
  simp only [Bool.and_eq_false_iff,decide_eq_false_iff_not]
  by_cases h1:(nth p.af k).name=jC
  ·right;exact fun h2=>C ⟨h1,h2⟩
  ·left;exact h1
 have N5:=C
 clear C
 rw [hq]
 clear hq
 refine CW.no rfl ?_
 refine CW.sub (E':=[(1,.int .i64 ((k+1:Nat):Int)),(3,.pointer (some ⟨w.heap.size,0,none⟩)),(5,.pointer (some ⟨w1.heap.size,0,none⟩)),(6,.pointer (some ⟨w2.heap.size,0,none⟩)),(7,.pointer (some ⟨w3.heap.size,0,none⟩)),(8,.bool false),(9,.string (nth p.af k).name),(10,.bool (di x))]) ⟨rfl,rfl,rfl,rfl,rfl,rfl,rfl,rfl,trivial⟩ ?_
 refine CW.seq (CW.region (BN rfl rfl rfl rfl rfl rfl rfl rfl rfl rfl rfl rfl rfl rfl rfl rfl rfl rfl rfl rfl rfl rfl rfl rfl (by decide) (fun _ _ _=>rfl) (by decide) rfl Tryz.underlying9 rfl mA ((az.bl.cell 0).trans rfl) ?_))
 intro E1 aO hb1
 refine NX.next (CW.sub (E':=(207,.bool (decide ((nth p.af k).name=jJ)&&decide (x.method=dP)))::[(1,.int .i64 ((k+1:Nat):Int)),(3,.pointer (some ⟨w.heap.size,0,none⟩)),(5,.pointer (some ⟨w1.heap.size,0,none⟩)),(6,.pointer (some ⟨w2.heap.size,0,none⟩)),(7,.pointer (some ⟨w3.heap.size,0,none⟩)),(8,.bool false),(9,.string (nth p.af k).name),(10,.bool (di x))]) ⟨hb1.trans (by rw [fN,fN];rfl),(aO 1 (by decide)).trans rfl,(aO 3 (by decide)).trans rfl,(aO 5 (by decide)).trans rfl,(aO 6 (by decide)).trans rfl,(aO 7 (by decide)).trans rfl,(aO 8 (by decide)).trans rfl,(aO 9 (by decide)).trans rfl,(aO 10 (by decide)).trans rfl,trivial⟩ ?_)
 clear aO hb1
 by_cases C:(nth p.af k).name=jJ/\x.method=dP
 ·have hq:(decide ((nth p.af k).name=jJ)&&decide (x.method=dP))=true:=by simp [C.1,C.2]
  rw [hq]
  clear hq
  refine CW.yes rfl ?_
  have lT:cK (eC p k) (bI x.method)=true:=by rcases hsub with h|h|h|h;exact absurd h N0;exact absurd h N4;exact absurd h N5;exact h
  refine CW.sub (E':=[(1,.int .i64 ((k+1:Nat):Int)),(3,.pointer (some ⟨w.heap.size,0,none⟩)),(5,.pointer (some ⟨w1.heap.size,0,none⟩)),(6,.pointer (some ⟨w2.heap.size,0,none⟩)),(7,.pointer (some ⟨w3.heap.size,0,none⟩)),(8,.bool false)]) ⟨rfl,rfl,rfl,rfl,rfl,rfl,trivial⟩ ?_
  refine CW.seq (CW.region ?_)
  refine WL.vv rfl rfl (bz rfl rfl Tryz.underlying37 rfl aw.bl aW) (by decide) ?_
  refine WL.vv rfl rfl (aU rfl rfl) (by decide) ?_
  refine WL.vv rfl rfl (iE rfl rfl rfl rfl hw) (by decide) ?_
  refine WL.vv rfl rfl (bz rfl rfl Tryz.underlying43 rfl az.bl kA) (by decide) ?_
  refine WL.c rfl rfl (bT (args:= #[.agg (aE p S1 (.slice (some ⟨b,o,none⟩) p.af.length cap)),.int .i64 (k:Int),.agg #[.string x.method,.string x.key,.int .i64 x.val,.string x.text]]) (by kernel_rfl) rfl rfl rfl) (by decide) (IH K uD _ _ _ p x H hx hp hc (by omega) lT) ?_
  rintro _ wQ ⟨JM,rfl,H',yA⟩
  refine ⟨_,rfl,?_⟩
  replace H:=H'
  clear H'
  replace HF:=HF.mY yA
  replace aw:=aw.bV yA
  replace az:=az.bV yA
  replace ak:=ak.bV yA
  replace aq:=aq.bV yA
  have ald:=yA.size
  refine WL.vv rfl rfl (aU rfl rfl) (by decide) ?_
  refine WL.vv rfl rfl (dQ rfl rfl rfl) (by decide) ?_
  refine WL.vv rfl rfl (dQ rfl rfl rfl) (by decide) ?_
  refine WL.vv rfl rfl (cJ rfl gJ) (by decide) ?_
  have amh:=aw.lt
  have ami:=az.lt
  have amj:=ak.lt
  have amk:=aq.lt
  obtain ⟨pT,ajp,LG,yt,Ao,H',eA,amK⟩:=H.alloc 37 bF
  change WL _ _ _ _ _ _ (wQ.alloc (.cells bF 37))
  rw [<-LG]
  clear LG
  replace H:=H'
  clear H'
  replace HF:=HF.bQ yt
  replace aw:=(aw.below yt).more Ao
  replace az:=(az.below yt).more Ao
  replace ak:=(ak.below yt).more Ao
  replace aq:=(aq.below yt).more Ao
  replace HN:=fun i hi=>Ao i (HN i hi)
  have ale:=yt.size
  refine WL.vv rfl rfl (cJ rfl gK) (by decide) ?_
  have aml:=aw.lt
  have amm:=az.lt
  have amn:=ak.lt
  have amo:=aq.lt
  have amq:=eA.lt
  obtain ⟨w63,ajq,LH,vA,ye,H',dF,amL⟩:=H.alloc 39 aY
  change WL _ _ _ _ _ _ (pT.alloc (.cells aY 39))
  rw [<-LH]
  clear LH
  replace H:=H'
  clear H'
  replace HF:=HF.bQ vA
  replace aw:=(aw.below vA).more ye
  replace az:=(az.below vA).more ye
  replace ak:=(ak.below vA).more ye
  replace aq:=(aq.below vA).more ye
  replace eA:=(eA.below vA).more ye
  replace HN:=fun i hi=>ye i (HN i hi)
  have alf:=vA.size
  refine WL.st rfl rfl rfl rfl rfl eA.bl rfl H.gq aW fun w64 Ul sY=> ?_
  replace H:=H.one sY eA.n eA.k eA.g
  replace HF:=HF.one sY (.inr (by omega))
  replace aw:=aw.other sY (by omega)
  replace az:=az.other sY (by omega)
  replace ak:=ak.other sY (by omega)
  replace aq:=aq.other sY (by omega)
  replace dF:=dF.other sY (by omega)
  replace eA:=eA.put Ul
  have alg:=Nat.le_of_eq sY.size.symm
  refine WL.st rfl rfl rfl rfl rfl dF.bl rfl (cX _) bn fun w65 Um sZ=> ?_
  replace H:=H.one sZ dF.n dF.k dF.g
  replace HF:=HF.one sZ (.inr (by omega))
  replace aw:=aw.other sZ (by omega)
  replace az:=az.other sZ (by omega)
  replace ak:=ak.other sZ (by omega)
  replace aq:=aq.other sZ (by omega)
  replace eA:=eA.other sZ (by omega)
  replace dF:=dF.put Um
  have alh:=Nat.le_of_eq sZ.size.symm
  refine WL.nil (NX.next ?_)
  refine CW.sub (E':=[(6,.pointer (some ⟨w2.heap.size,0,none⟩)),(7,.pointer (some ⟨w3.heap.size,0,none⟩)),(8,.bool false),(22,.pointer (some ⟨wQ.heap.size,0,none⟩)),(23,.pointer (some ⟨pT.heap.size,0,none⟩))]) ⟨rfl,rfl,rfl,rfl,rfl,trivial⟩ ?_
  by_cases h2:(aA k p x).2.code=0
  ·refine CW.seq (CW.seq (CW.region ?_))
   refine WL.vv rfl rfl (cO rfl rfl xQ) (by decide) ?_
   refine WL.vv rfl rfl (cr rfl rfl Tryz.underlying3 rfl (v:= .int .i64 (aA k p x).2.code) ((dF.bl.cell 0).trans rfl)) (by decide) ?_
   refine WL.vv rfl rfl (gr (b:=true) rfl rfl rfl rfl (by simp [aS,h2])) (by decide) ?_
   refine WL.nil (NX.next (CW.yes rfl ?_))
   refine CW.sub (E':=[(6,.pointer (some ⟨w2.heap.size,0,none⟩)),(7,.pointer (some ⟨w3.heap.size,0,none⟩)),(8,.bool false),(22,.pointer (some ⟨wQ.heap.size,0,none⟩)),(23,.pointer (some ⟨pT.heap.size,0,none⟩))]) ⟨rfl,rfl,rfl,rfl,rfl,trivial⟩ ?_
   refine CW.region ?_
   refine WL.vv rfl rfl (cO rfl rfl C0) (by decide) ?_
   refine WL.vv rfl rfl (cr rfl rfl Tryz.underlying3 rfl (v:= .int .i64 (aA k p x).2.val) ((dF.bl.cell 1).trans rfl)) (by decide) ?_
   refine WL.vv rfl rfl (iE rfl rfl rfl rfl rfl) (by decide) ?_
   refine WL.c rfl rfl (bT (args:= #[.int .i64 (IntKind.i64.wrap (2*(aA k p x).2.val)),.int .i64 999]) (by kernel_rfl) rfl rfl rfl) (by decide) (ai4 H _ (ai8 _)) ?_
   rintro _ Ji ⟨rfl,rB⟩
   refine ⟨_,rfl,?_⟩
   replace H:=H.below rB
   replace HF:=HF.bQ rB
   replace aw:=aw.below rB
   replace az:=az.below rB
   replace ak:=ak.below rB
   replace aq:=aq.below rB
   replace eA:=eA.below rB
   replace dF:=dF.below rB
   have akG:=rB.size
   refine WL.vv rfl rfl (cO rfl rfl C0) (by decide) ?_
   refine WL.s rfl rfl (ze rfl rfl rfl yR rfl ((dF.bl.cell 1).trans rfl) (dF.bl.frozen _)) ?_
   have qM:=(gx.refl Ji (pT.heap.size)).set 1 (.int .i64 (min (IntKind.i64.wrap (2*(aA k p x).2.val)) 999))
   have Cg:=dF.bl.ux 1 (.int .i64 (min (IntKind.i64.wrap (2*(aA k p x).2.val)) 999))
   obtain ⟨w67,LJ⟩: ∃z,z=Ji.setCell ⟨pT.heap.size,1,none⟩ (.int .i64 (min (IntKind.i64.wrap (2*(aA k p x).2.val)) 999)):=⟨_,rfl⟩
   change WL _ _ _ _ _ _ (Ji.setCell ⟨pT.heap.size,1,none⟩ (.int .i64 (min (IntKind.i64.wrap (2*(aA k p x).2.val)) 999)))
   rw [<-LJ] at qM Cg ⊢
   clear LJ
   replace Cg:aJ w67 (pT.heap.size) 39 (dV ⟨(aA k p x).2.code,(min (IntKind.i64.wrap (2*(aA k p x).2.val)) 999),(aA k p x).2.text,(aA k p x).2.want,(aA k p x).2.had⟩):=Cg
   replace H:=H.one qM dF.n dF.k dF.g
   replace HF:=HF.one qM (.inr (by omega))
   replace aw:=aw.other qM (by omega)
   replace az:=az.other qM (by omega)
   replace ak:=ak.other qM (by omega)
   replace aq:=aq.other qM (by omega)
   replace eA:=eA.other qM (by omega)
   replace dF:=dF.put Cg
   have ali:=Nat.le_of_eq qM.size.symm
   refine WL.nil (NX.next ?_)
   refine CW.sub (E':=[(6,.pointer (some ⟨w2.heap.size,0,none⟩)),(7,.pointer (some ⟨w3.heap.size,0,none⟩)),(8,.bool false),(22,.pointer (some ⟨wQ.heap.size,0,none⟩)),(23,.pointer (some ⟨pT.heap.size,0,none⟩))]) ⟨rfl,rfl,rfl,rfl,rfl,trivial⟩ ?_
   refine CW.seq (CW.any (fun W=>aJ W wQ.heap.size 37 (aE (aA k p x).1 JM (.slice (some ⟨b,o,none⟩) p.af.length cap))/\aJ W pT.heap.size 39 (dV (⟨(aA k p x).2.code,(min (IntKind.i64.wrap (2*(aA k p x).2.val)) 999),(aA k p x).2.text,(aA k p x).2.want,(aA k p x).2.had⟩:da))) 4 mo fun w68 hwd rC=> ?_)
   replace H:=H.below rC
   replace HF:=HF.bQ rC
   replace aw:=aw.below rC
   replace az:=az.below rC
   replace ak:=ak.below rC
   replace aq:=aq.below rC
   replace eA:=eA.below rC
   replace dF:=dF.below rC
   have akH:=rC.size
   clear hwd
   refine ⟨⟨eA.bl,dF.bl⟩,?_⟩
   refine AU.tk 0 rfl (by kernel_rfl) (fun _ _ _ h=>h) rfl rfl (fun W hW=>bz rfl rfl Tryz.underlying37 rfl hW.1 aW) (by decide) ⟨eA.bl,dF.bl⟩ ?_
   refine AU.tk 1 rfl (by kernel_rfl) (fun _ _ _ h=>h) rfl rfl (fun W hW=>bz rfl rfl Tryz.underlying39 rfl hW.2 bn) (by decide) ⟨eA.bl,dF.bl⟩ ?_
   refine AU.st 2 rfl (by kernel_rfl) rfl rfl rfl rfl rfl ak.bl rfl H.gq aW (fun w' ho _=>⟨(ho.block _ (by omega)).trans eA.bl,(ho.block _ (by omega)).trans dF.bl⟩) fun w69 Un s9=> ?_
   replace H:=H.one s9 ak.n ak.k ak.g
   replace HF:=HF.one s9 (.inr (by omega))
   replace aw:=aw.other s9 (by omega)
   replace az:=az.other s9 (by omega)
   replace aq:=aq.other s9 (by omega)
   replace eA:=eA.other s9 (by omega)
   replace dF:=dF.other s9 (by omega)
   replace ak:=ak.put Un
   have alj:=Nat.le_of_eq s9.size.symm
   refine AU.st 3 rfl (by kernel_rfl) rfl rfl rfl rfl rfl aq.bl rfl (cX _) bn (fun w' ho _=>⟨(ho.block _ (by omega)).trans eA.bl,(ho.block _ (by omega)).trans dF.bl⟩) fun w70 Uq tf=> ?_
   replace H:=H.one tf aq.n aq.k aq.g
   replace HF:=HF.one tf (.inr (by omega))
   replace aw:=aw.other tf (by omega)
   replace az:=az.other tf (by omega)
   replace ak:=ak.other tf (by omega)
   replace eA:=eA.other tf (by omega)
   replace dF:=dF.other tf (by omega)
   replace aq:=aq.put Uq
   have alk:=Nat.le_of_eq tf.size.symm
   refine AU.vv 4 rfl (by kernel_rfl) rfl rfl (cq rfl rfl) (by decide) (fun h=>absurd rfl h) ?_
   refine AU.done (by kernel_rfl) (NX.next (CW.ret ?_))
   exact NX.fT (NX.ret (NX.oV rfl rfl rfl rfl ak.bl aq.bl Tryz.underlying37 Tryz.underlying39 rfl rfl aW bn (mf.mk (q:=(aA k p x).1) rfl H HN hK HF (fun _=>by rw [aA,if_neg N0,if_neg N1,if_neg N2,if_neg N3,if_neg N4,if_neg N5,if_pos C.1];unfold wO;rw [if_pos h2]) (fun h=>by cases h))))
  ·refine CW.seq (CW.seq (CW.region ?_))
   refine WL.vv rfl rfl (cO rfl rfl xQ) (by decide) ?_
   refine WL.vv rfl rfl (cr rfl rfl Tryz.underlying3 rfl (v:= .int .i64 (aA k p x).2.code) ((dF.bl.cell 0).trans rfl)) (by decide) ?_
   refine WL.vv rfl rfl (gr (b:=false) rfl rfl rfl rfl (by simp [aS,h2])) (by decide) ?_
   refine WL.nil (NX.next (CW.no rfl (CW.skip (NX.next ?_))))
   refine CW.sub (E':=[(6,.pointer (some ⟨w2.heap.size,0,none⟩)),(7,.pointer (some ⟨w3.heap.size,0,none⟩)),(8,.bool false),(22,.pointer (some ⟨wQ.heap.size,0,none⟩)),(23,.pointer (some ⟨pT.heap.size,0,none⟩))]) ⟨rfl,rfl,rfl,rfl,rfl,trivial⟩ ?_
   refine CW.seq (CW.any (fun W=>aJ W wQ.heap.size 37 (aE (aA k p x).1 JM (.slice (some ⟨b,o,none⟩) p.af.length cap))/\aJ W pT.heap.size 39 (dV (aA k p x).2)) 4 mo fun w71 hwd rD=> ?_)
   replace H:=H.below rD
   replace HF:=HF.bQ rD
   replace aw:=aw.below rD
   replace az:=az.below rD
   replace ak:=ak.below rD
   replace aq:=aq.below rD
   replace eA:=eA.below rD
   replace dF:=dF.below rD
   have akJ:=rD.size
   clear hwd
   refine ⟨⟨eA.bl,dF.bl⟩,?_⟩
   refine AU.tk 0 rfl (by kernel_rfl) (fun _ _ _ h=>h) rfl rfl (fun W hW=>bz rfl rfl Tryz.underlying37 rfl hW.1 aW) (by decide) ⟨eA.bl,dF.bl⟩ ?_
   refine AU.tk 1 rfl (by kernel_rfl) (fun _ _ _ h=>h) rfl rfl (fun W hW=>bz rfl rfl Tryz.underlying39 rfl hW.2 bn) (by decide) ⟨eA.bl,dF.bl⟩ ?_
   refine AU.st 2 rfl (by kernel_rfl) rfl rfl rfl rfl rfl ak.bl rfl H.gq aW (fun w' ho _=>⟨(ho.block _ (by omega)).trans eA.bl,(ho.block _ (by omega)).trans dF.bl⟩) fun w72 Ur tg=> ?_
   replace H:=H.one tg ak.n ak.k ak.g
   replace HF:=HF.one tg (.inr (by omega))
   replace aw:=aw.other tg (by omega)
   replace az:=az.other tg (by omega)
   replace aq:=aq.other tg (by omega)
   replace eA:=eA.other tg (by omega)
   replace dF:=dF.other tg (by omega)
   replace ak:=ak.put Ur
   have alm:=Nat.le_of_eq tg.size.symm
   refine AU.st 3 rfl (by kernel_rfl) rfl rfl rfl rfl rfl aq.bl rfl (cX _) bn (fun w' ho _=>⟨(ho.block _ (by omega)).trans eA.bl,(ho.block _ (by omega)).trans dF.bl⟩) fun w73 Us th=> ?_
   replace H:=H.one th aq.n aq.k aq.g
   replace HF:=HF.one th (.inr (by omega))
   replace aw:=aw.other th (by omega)
   replace az:=az.other th (by omega)
   replace ak:=ak.other th (by omega)
   replace eA:=eA.other th (by omega)
   replace dF:=dF.other th (by omega)
   replace aq:=aq.put Us
   have aln:=Nat.le_of_eq th.size.symm
   refine AU.vv 4 rfl (by kernel_rfl) rfl rfl (cq rfl rfl) (by decide) (fun h=>absurd rfl h) ?_
   refine AU.done (by kernel_rfl) (NX.next (CW.ret ?_))
   exact NX.fT (NX.ret (NX.oV rfl rfl rfl rfl ak.bl aq.bl Tryz.underlying37 Tryz.underlying39 rfl rfl aW bn (mf.mk (q:=(aA k p x).1) rfl H HN hK HF (fun _=>by rw [aA,if_neg N0,if_neg N1,if_neg N2,if_neg N3,if_neg N4,if_neg N5,if_pos C.1];unfold wO;rw [if_neg h2]) (fun h=>by cases h))))
 have hq:(decide ((nth p.af k).name=jJ)&&decide (x.method=dP))=false:=by
  simp only [Bool.and_eq_false_iff,decide_eq_false_iff_not]
  by_cases h1:(nth p.af k).name=jJ
  ·right;exact fun h2=>C ⟨h1,h2⟩
  ·left;exact h1
 have N6:=C
 clear C
 rw [hq]
 clear hq
 refine CW.no rfl ?_
 refine CW.sub (E':=[(1,.int .i64 ((k+1:Nat):Int)),(3,.pointer (some ⟨w.heap.size,0,none⟩)),(5,.pointer (some ⟨w1.heap.size,0,none⟩)),(6,.pointer (some ⟨w2.heap.size,0,none⟩)),(7,.pointer (some ⟨w3.heap.size,0,none⟩)),(8,.bool false),(9,.string (nth p.af k).name),(10,.bool (di x))]) ⟨rfl,rfl,rfl,rfl,rfl,rfl,rfl,rfl,trivial⟩ ?_
 refine CW.skip (NX.HU (NX.next ?_))
 refine CW.sub (E':=[(3,.pointer (some ⟨w.heap.size,0,none⟩)),(6,.pointer (some ⟨w2.heap.size,0,none⟩)),(7,.pointer (some ⟨w3.heap.size,0,none⟩)),(8,.bool false)]) ⟨rfl,rfl,rfl,rfl,trivial⟩ ?_
 have lT:cK (eC p k) (bI x.method)=true:=by rcases hsub with h|h|h|h;exact absurd h N0;exact absurd h N4;exact absurd h N5;exact h
 have hT: ¬(nth p.af k).name=jJ:=fun e=>N6 ⟨e,ad6 (xy hc) (by rw [<-e];exact ho')⟩
 refine CW.seq (CW.region ?_)
 refine WL.vv rfl rfl (bz rfl rfl Tryz.underlying37 rfl aw.bl aW) (by decide) ?_
 refine WL.vv rfl rfl (jn (vs:=[]) rfl rfl UU) (by decide) ?_
 refine WL.st rfl rfl rfl rfl rfl ak.bl rfl H.gq aW fun w74 Ut xk=> ?_
 replace H:=H.one xk ak.n ak.k ak.g
 replace HF:=HF.one xk (.inr (by omega))
 replace aw:=aw.other xk (by omega)
 replace az:=az.other xk (by omega)
 replace aq:=aq.other xk (by omega)
 replace ak:=ak.put Ut
 have alo:=Nat.le_of_eq xk.size.symm
 refine WL.st rfl rfl rfl rfl rfl aq.bl rfl (cX _) bn fun w75 Uu xm=> ?_
 replace H:=H.one xm aq.n aq.k aq.g
 replace HF:=HF.one xm (.inr (by omega))
 replace aw:=aw.other xm (by omega)
 replace az:=az.other xm (by omega)
 replace ak:=ak.other xm (by omega)
 replace aq:=aq.put Uu
 have alp:=Nat.le_of_eq xm.size.symm
 refine WL.vv rfl rfl (cq rfl rfl) (by decide) ?_
 refine WL.nil (NX.next (CW.ret ?_))
 exact NX.oV rfl rfl rfl rfl ak.bl aq.bl Tryz.underlying37 Tryz.underlying39 rfl rfl aW bn (mf.mk (q:=p) rfl H HN hK HF (fun h=>by cases h) (fun _=>⟨rfl,by rw [aA,if_neg N0,if_neg N1,if_neg N2,if_neg N3,if_neg N4,if_neg N5,if_neg hT],lT⟩))
end Go.Proofs.YtimickglpboilaaGreatDoor
