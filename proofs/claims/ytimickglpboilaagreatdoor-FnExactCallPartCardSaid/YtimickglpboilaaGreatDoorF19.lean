/- Walk: a layer's own calls in the reference (l4Own). -/
import Derived.Test.YtimickglpboilaaGreatDoorF16
set_option linter.unusedVariables false
set_option linter.unusedSimpArgs false
set_option linter.unusedSectionVars false
set_option maxRecDepth 100000
namespace Go.Proofs.YtimickglpboilaaGreatDoor
open Go.RowKit Go
variable [GC]
theorem ah3(n:Int):IntKind.i64.min<=IntKind.i64.wrap n/\IntKind.i64.wrap n<=IntKind.i64.max:=by
 have e:IntKind.i64.min= -9223372036854775808/\IntKind.i64.max=9223372036854775807:=by decide
 rw [IntKind.wrap_i64,e.1,e.2]
 omega
theorem QR{n:Int}(h:fg n=true):IntKind.i64.min<=bU n/\bU n<=IntKind.i64.max:=by
 have e:IntKind.i64.min= -9223372036854775808/\IntKind.i64.max=9223372036854775807:=by decide
 obtain ⟨h1, -,h2⟩:=zn h
 have:=rJ.1 h1
 omega
theorem adv{m:ByteArray}(ha: ¬gD m<0)(h:cV (mA jP) (bK m)=true):m=ep:=by
 obtain ⟨j,ew,hm⟩:=Bq ha
 rw [ew] at h
 have h0: ∀j:Fin 6,cV (mA jP) ((2^j.val:Nat):Int)=true-> ∀s,s∈methods j.val->s=ep:=by decide +kernel
 exact h0 j h m hm
set_option maxHeartbeats 8000000 in
theorem abn{k:Nat}(IH:wX k):JH k:=by
 intro K N w S1 S2 p x h hx hp hc hk ho
 obtain ⟨b,o,cap,rfl⟩:=h.slot (k:=k) (by omega)
 obtain ⟨h1,h2,h3⟩:=nH.1 hp
 obtain ⟨la,lb,Na,ld⟩:=h3 k (by omega)
 have ho':cV (mA (nth p.af k).name) (bK x.method)=true:=by
  unfold eQ at ho;rw [if_neg (by omega)] at ho;exact ho
 have hsub:=Qo (qK p k) la lb (xx hc) ho'
 have hw:cP .sub .i64 ((k+1:Nat):Int) 1=(k:Int):=by rw [kA (by omega) (by omega)];omega
 have hK:=h.kn
 have HF:=eE.refl K w
 have HN: ∀i,N i->N i:=fun i hi=>hi
 have H:=h
 refine pT (E:=[(0,.agg (aF p S1 (.slice (some ⟨b,o,none⟩) p.af.length cap))),(1,.int .i64 ((k+1:Nat):Int)),(2,cm x)]) Tryz.func61 rfl Tryz.ntmps61 (by simp) (by simp) ?_
 clear h
 refine CW.seq (CW.region ?_)
 refine WL.vv rfl rfl (ju rfl rfl) (by decide) ?_
 obtain ⟨w1,JB,tr,jc,Ah,H',ax,Qq⟩:=H.alloc 37 (aF p S1 (.slice (some ⟨b,o,none⟩) p.af.length cap))
 change WL _ _ _ _ _ _ (w.alloc (.cells (aF p S1 (.slice (some ⟨b,o,none⟩) p.af.length cap)) 37))
 rw [<-tr]
 clear tr
 replace H:=H'
 clear H'
 replace HF:=HF.bT jc
 replace HN:=fun i hi=>Ah i (HN i hi)
 have Hu:=jc.size
 refine WL.vv rfl rfl (ju rfl rfl) (by decide) ?_
 have Ol:=ax.lt
 obtain ⟨w2,JC,tu,oT,tF,H',az,Qr⟩:=H.alloc 43 #[.string x.method,.string x.key,.int .i64 x.val,.string x.text]
 change WL _ _ _ _ _ _ (w1.alloc (.cells #[.string x.method,.string x.key,.int .i64 x.val,.string x.text] 43))
 rw [<-tu]
 clear tu
 replace H:=H'
 clear H'
 replace HF:=HF.bT oT
 replace ax:=(ax.below oT).more tF
 replace HN:=fun i hi=>tF i (HN i hi)
 have DY:=oT.size
 refine WL.vv rfl rfl (bp rfl dH) (by decide) ?_
 have Om:=ax.lt
 have Oo:=az.lt
 obtain ⟨w3,JE,tv,mD,oQ,H',aq,Qs⟩:=H.alloc 37 aH
 change WL _ _ _ _ _ _ (w2.alloc (.cells aH 37))
 rw [<-tv]
 clear tv
 replace H:=H'
 clear H'
 replace HF:=HF.bT mD
 replace ax:=(ax.below mD).more oQ
 replace az:=(az.below mD).more oQ
 replace HN:=fun i hi=>oQ i (HN i hi)
 have DZ:=mD.size
 refine WL.vv rfl rfl (bp rfl dr) (by decide) ?_
 have Oq:=ax.lt
 have Ot:=az.lt
 have Ou:=aq.lt
 obtain ⟨w4,sr,tw,fU,iE,H',aw,Qt⟩:=H.alloc 39 aC
 change WL _ _ _ _ _ _ (w3.alloc (.cells aC 39))
 rw [<-tw]
 clear tw
 replace H:=H'
 clear H'
 replace HF:=HF.bT fU
 replace ax:=(ax.below fU).more iE
 replace az:=(az.below fU).more iE
 replace aq:=(aq.below fU).more iE
 replace HN:=fun i hi=>iE i (HN i hi)
 have Hy:=fU.size
 refine WL.vv rfl rfl (cO rfl rfl) (by decide) ?_
 refine WL.nil (NX.next ?_)
 refine CW.sub (E':=[(1,.int .i64 ((k+1:Nat):Int)),(3,.pointer (some ⟨w.heap.size,0,none⟩)),(5,.pointer (some ⟨w1.heap.size,0,none⟩)),(6,.pointer (some ⟨w2.heap.size,0,none⟩)),(7,.pointer (some ⟨w3.heap.size,0,none⟩)),(8,.bool false)]) ⟨rfl,rfl,rfl,rfl,rfl,rfl,trivial⟩ ?_
 obtain ⟨a0,a1, -, -, -⟩:=H.lay (k:=k) (by omega)
 refine CW.seq (CW.region ?_)
 refine WL.vv rfl rfl (cY rfl rfl oO) (by decide) ?_
 refine WL.vv rfl rfl (cz rfl rfl Tryz.underlying35 rfl (v:= .slice (some ⟨b,o,none⟩) p.af.length cap) ((ax.bl.cell 5).trans rfl)) (by decide) ?_
 refine WL.vv rfl rfl (bf rfl rfl) (by decide) ?_
 refine WL.vv rfl rfl (iI rfl rfl rfl rfl hw) (by decide) ?_
 refine WL.vv rfl rfl (oA rfl rfl rfl (by omega) (by omega) tj) (by decide) ?_
 refine WL.vv rfl rfl (cY rfl rfl tD) (by decide) ?_
 refine WL.vv rfl rfl (cz rfl rfl Tryz.underlying9 rfl a0) (by decide) ?_
 refine WL.vv rfl rfl (cO rfl rfl) (by decide) ?_
 refine WL.nil (NX.next ?_)
 clear a0 a1
 refine CW.sub (E':=[(1,.int .i64 ((k+1:Nat):Int)),(3,.pointer (some ⟨w.heap.size,0,none⟩)),(5,.pointer (some ⟨w1.heap.size,0,none⟩)),(6,.pointer (some ⟨w2.heap.size,0,none⟩)),(7,.pointer (some ⟨w3.heap.size,0,none⟩)),(8,.bool false),(9,.string (nth p.af k).name)]) ⟨rfl,rfl,rfl,rfl,rfl,rfl,rfl,trivial⟩ ?_
 refine CW.seq (CW.region (QB rfl rfl rfl rfl rfl rfl rfl rfl rfl rfl rfl rfl rfl rfl rfl rfl rfl rfl rfl rfl rfl rfl rfl rfl rfl rfl rfl (by decide) rfl (fun _ _ _ _=>rfl) (by decide) Tryz.underlying9 rfl mz ((az.bl.cell 0).trans rfl) ?_))
 intro E1 aR hb1
 refine NX.next (CW.sub (E':=(10,.bool (dz x))::[(1,.int .i64 ((k+1:Nat):Int)),(3,.pointer (some ⟨w.heap.size,0,none⟩)),(5,.pointer (some ⟨w1.heap.size,0,none⟩)),(6,.pointer (some ⟨w2.heap.size,0,none⟩)),(7,.pointer (some ⟨w3.heap.size,0,none⟩)),(8,.bool false),(9,.string (nth p.af k).name)]) ⟨hb1.trans (by rw [fR,fR];rfl),(aR 1 (by decide)).trans rfl,(aR 3 (by decide)).trans rfl,(aR 5 (by decide)).trans rfl,(aR 6 (by decide)).trans rfl,(aR 7 (by decide)).trans rfl,(aR 8 (by decide)).trans rfl,(aR 9 (by decide)).trans rfl,trivial⟩ ?_)
 clear aR hb1
 refine CW.seq (CW.block ?_)
 refine CW.seq (CW.region (BQ rfl rfl rfl rfl rfl rfl rfl rfl rfl rfl rfl rfl rfl rfl rfl rfl rfl rfl rfl rfl rfl rfl rfl rfl (by decide) (fun _ _ _=>rfl) (by decide) rfl Tryz.underlying9 rfl mz ((az.bl.cell 0).trans rfl) ?_))
 intro E1 aR hb1
 refine NX.next (CW.sub (E':=(39,.bool (decide ((nth p.af k).name=counts)&&decide (x.method=ep)))::[(1,.int .i64 ((k+1:Nat):Int)),(3,.pointer (some ⟨w.heap.size,0,none⟩)),(5,.pointer (some ⟨w1.heap.size,0,none⟩)),(6,.pointer (some ⟨w2.heap.size,0,none⟩)),(7,.pointer (some ⟨w3.heap.size,0,none⟩)),(8,.bool false),(9,.string (nth p.af k).name),(10,.bool (dz x))]) ⟨hb1.trans (by rw [fR,fR];rfl),(aR 1 (by decide)).trans rfl,(aR 3 (by decide)).trans rfl,(aR 5 (by decide)).trans rfl,(aR 6 (by decide)).trans rfl,(aR 7 (by decide)).trans rfl,(aR 8 (by decide)).trans rfl,(aR 9 (by decide)).trans rfl,(aR 10 (by decide)).trans rfl,trivial⟩ ?_)
 clear aR hb1
 by_cases C:(nth p.af k).name=counts/\x.method=ep
 ·have hq:(decide ((nth p.af k).name=counts)&&decide (x.method=ep))=true:=by simp [C.1,C.2]
  rw [hq]
  clear hq
  refine CW.yes rfl ?_
  refine CW.sub (E':=[(1,.int .i64 ((k+1:Nat):Int)),(3,.pointer (some ⟨w.heap.size,0,none⟩)),(6,.pointer (some ⟨w2.heap.size,0,none⟩)),(7,.pointer (some ⟨w3.heap.size,0,none⟩)),(8,.bool false)]) ⟨rfl,rfl,rfl,rfl,rfl,trivial⟩ ?_
  obtain ⟨-,a1,jB,hKb, -⟩:=H.lay (k:=k) (by omega)
  refine CW.seq (CW.any (fun W=>ai W w.heap.size 37 (aF p S1 (.slice (some ⟨b,o,none⟩) p.af.length cap))/\W.cell? ⟨b,o+k*2+1,none⟩=some (.int .i64 (nth p.af k).count)) 11 mo fun w5 hwd tI=> ?_)
  replace H:=H.below tI
  replace HF:=HF.bT tI
  replace ax:=ax.below tI
  replace az:=az.below tI
  replace aq:=aq.below tI
  replace aw:=aw.below tI
  have ajE:=tI.size
  replace a1:=ay tI a1
  clear jB hKb
  obtain ⟨-, -,jB,hKb, -⟩:=H.lay (k:=k) (by omega)
  clear hwd
  refine ⟨⟨ax.bl,a1⟩,?_⟩
  refine AU.tk 0 rfl (by kernel_rfl) (fun _ _ _ h=>h) rfl rfl (fun W hW=>bh rfl rfl Tryz.underlying37 rfl hW.1 aY) (by decide) ⟨ax.bl,a1⟩ ?_
  refine AU.tk 1 rfl (by kernel_rfl) (fun _ _ _ h=>h) rfl rfl (fun W hW=>cY rfl rfl oO) (by decide) ⟨ax.bl,a1⟩ ?_
  refine AU.tk 2 rfl (by kernel_rfl) (fun _ _ _ h=>h) rfl rfl (fun W hW=>cz rfl rfl Tryz.underlying35 rfl (v:= .slice (some ⟨b,o,none⟩) p.af.length cap) ((hW.1.cell 5).trans rfl)) (by decide) ⟨ax.bl,a1⟩ ?_
  refine AU.tk 3 rfl (by kernel_rfl) (fun _ _ _ h=>h) rfl rfl (fun W hW=>bf rfl rfl) (by decide) ⟨ax.bl,a1⟩ ?_
  refine AU.tk 4 rfl (by kernel_rfl) (fun _ _ _ h=>h) rfl rfl (fun W hW=>iI rfl rfl rfl rfl hw) (by decide) ⟨ax.bl,a1⟩ ?_
  refine AU.tk 5 rfl (by kernel_rfl) (fun _ _ _ h=>h) rfl rfl (fun W hW=>oA rfl rfl rfl (by omega) (by omega) tj) (by decide) ⟨ax.bl,a1⟩ ?_
  refine AU.tk 6 rfl (by kernel_rfl) (fun _ _ _ h=>h) rfl rfl (fun W hW=>cY rfl rfl nU) (by decide) ⟨ax.bl,a1⟩ ?_
  refine AU.tk 7 rfl (by kernel_rfl) (fun _ _ _ h=>h) rfl rfl (fun W hW=>cz rfl rfl Tryz.underlying3 rfl hW.2) (by decide) ⟨ax.bl,a1⟩ ?_
  refine AU.tk 8 rfl (by kernel_rfl) (fun _ _ _ h=>h) rfl rfl (fun W hW=>jv (vs:=[(1,.int .i64 (nth p.af k).count)]) rfl rfl (Co _)) (by decide) ⟨ax.bl,a1⟩ ?_
  refine AU.st 9 rfl (by kernel_rfl) rfl rfl rfl rfl rfl aq.bl rfl H.gz aY (fun w' ho _=>⟨(ho.block _ (by omega)).trans ax.bl,(cell_of_heap (ho.block b (fun e=>aq.k (e▸hKb)))).trans a1⟩) fun w6 cv kr=> ?_
  replace a1:=(cell_of_heap (kr.block b (fun e=>aq.k (e▸hKb)))).trans a1
  replace H:=H.one kr aq.n aq.k aq.g
  replace HF:=HF.one kr (.inr (by omega))
  replace ax:=ax.other kr (by omega)
  replace az:=az.other kr (by omega)
  replace aw:=aw.other kr (by omega)
  replace aq:=aq.put cv
  have Hz:=Nat.le_of_eq kr.size.symm
  refine AU.st 10 rfl (by kernel_rfl) rfl rfl rfl rfl rfl aw.bl rfl (da _) aZ (fun w' ho _=>⟨(ho.block _ (by omega)).trans ax.bl,(cell_of_heap (ho.block b (fun e=>aw.k (e▸hKb)))).trans a1⟩) fun w7 Uf uB=> ?_
  replace a1:=(cell_of_heap (uB.block b (fun e=>aw.k (e▸hKb)))).trans a1
  replace H:=H.one uB aw.n aw.k aw.g
  replace HF:=HF.one uB (.inr (by omega))
  replace ax:=ax.other uB (by omega)
  replace az:=az.other uB (by omega)
  replace aq:=aq.other uB (by omega)
  replace aw:=aw.put Uf
  have HE:=Nat.le_of_eq uB.size.symm
  refine AU.vv 11 rfl (by kernel_rfl) rfl rfl (cO rfl rfl) (by decide) (fun h=>absurd rfl h) ?_
  refine AU.done (by kernel_rfl) (NX.next (CW.ret ?_))
  exact NX.fY (NX.ret (NX.oL rfl rfl rfl rfl aq.bl aw.bl Tryz.underlying37 Tryz.underlying39 rfl rfl aY aZ (mf.mk (q:=p) rfl H HN hK HF (fun _=>by rw [aA,if_pos C]) (fun h=>by cases h))))
 have hq:(decide ((nth p.af k).name=counts)&&decide (x.method=ep))=false:=by
  simp only [Bool.and_eq_false_iff,decide_eq_false_iff_not]
  by_cases h1:(nth p.af k).name=counts
  ·right;exact fun h2=>C ⟨h1,h2⟩
  ·left;exact h1
 have N0:=C
 clear C
 rw [hq]
 clear hq
 refine CW.no rfl ?_
 refine CW.sub (E':=[(1,.int .i64 ((k+1:Nat):Int)),(3,.pointer (some ⟨w.heap.size,0,none⟩)),(5,.pointer (some ⟨w1.heap.size,0,none⟩)),(6,.pointer (some ⟨w2.heap.size,0,none⟩)),(7,.pointer (some ⟨w3.heap.size,0,none⟩)),(8,.bool false),(9,.string (nth p.af k).name),(10,.bool (dz x))]) ⟨rfl,rfl,rfl,rfl,rfl,rfl,rfl,rfl,trivial⟩ ?_
 refine CW.seq (CW.region (QC rfl rfl rfl rfl rfl rfl rfl rfl rfl rfl rfl rfl rfl rfl rfl rfl rfl rfl (by decide) (fun _ _ _=>rfl) (by decide) rfl ?_))
 intro E1 aR hb1
 refine NX.next (CW.sub (E':=(56,.bool (decide ((nth p.af k).name=counts)&&dz x))::[(1,.int .i64 ((k+1:Nat):Int)),(3,.pointer (some ⟨w.heap.size,0,none⟩)),(5,.pointer (some ⟨w1.heap.size,0,none⟩)),(6,.pointer (some ⟨w2.heap.size,0,none⟩)),(7,.pointer (some ⟨w3.heap.size,0,none⟩)),(8,.bool false),(9,.string (nth p.af k).name),(10,.bool (dz x))]) ⟨hb1.trans (by rw [fR];rfl),(aR 1 (by decide)).trans rfl,(aR 3 (by decide)).trans rfl,(aR 5 (by decide)).trans rfl,(aR 6 (by decide)).trans rfl,(aR 7 (by decide)).trans rfl,(aR 8 (by decide)).trans rfl,(aR 9 (by decide)).trans rfl,(aR 10 (by decide)).trans rfl,trivial⟩ ?_)
 clear aR hb1
 by_cases C:(nth p.af k).name=counts/\dz x=true
 ·have hq:(decide ((nth p.af k).name=counts)&&dz x)=true:=by simp [C.1,C.2]
  rw [hq]
  clear hq
  refine CW.yes rfl ?_
  have kn:=Bj C.2
  have lS:cV (eQ p k) (bK x.method)=true:=by rcases hsub with h|h|h|h;exact absurd h.2 kn.1;exact absurd h.2 kn.2.1;exact absurd h.2 kn.2.2.1;exact h
  have ox:=pI k p x hp (by omega) hc lS
  have hl1:=ox.2.1.len
  have hn1:fg (nth (aA k p x).1.af k).count=true:=((nH.1 ox.1).2.2 k (by omega)).2.2.1
  refine CW.sub (E':=[(1,.int .i64 ((k+1:Nat):Int)),(3,.pointer (some ⟨w.heap.size,0,none⟩)),(5,.pointer (some ⟨w1.heap.size,0,none⟩)),(6,.pointer (some ⟨w2.heap.size,0,none⟩)),(7,.pointer (some ⟨w3.heap.size,0,none⟩)),(8,.bool false)]) ⟨rfl,rfl,rfl,rfl,rfl,rfl,trivial⟩ ?_
  refine CW.seq (CW.region ?_)
  refine WL.vv rfl rfl (bh rfl rfl Tryz.underlying37 rfl ax.bl aY) (by decide) ?_
  refine WL.vv rfl rfl (bf rfl rfl) (by decide) ?_
  refine WL.vv rfl rfl (iI rfl rfl rfl rfl hw) (by decide) ?_
  refine WL.vv rfl rfl (bh rfl rfl Tryz.underlying43 rfl az.bl kG) (by decide) ?_
  refine WL.c rfl rfl (bu (args:= #[.agg (aF p S1 (.slice (some ⟨b,o,none⟩) p.af.length cap)),.int .i64 (k:Int),.agg #[.string x.method,.string x.key,.int .i64 x.val,.string x.text]]) (by kernel_rfl) rfl rfl rfl) (by decide) (IH K sr _ _ _ p x H hx hp hc (by omega) lS) ?_
  rintro _ w8 ⟨E6,rfl,H',lP⟩
  refine ⟨_,rfl,?_⟩
  replace H:=H'
  clear H'
  replace HF:=HF.mQ lP
  replace ax:=ax.bY lP
  replace az:=az.bY lP
  replace aq:=aq.bY lP
  replace aw:=aw.bY lP
  have N9:=lP.size
  refine WL.vv rfl rfl (bf rfl rfl) (by decide) ?_
  refine WL.vv rfl rfl (cJ rfl rfl rfl) (by decide) ?_
  refine WL.vv rfl rfl (cJ rfl rfl rfl) (by decide) ?_
  refine WL.vv rfl rfl (bp rfl dH) (by decide) ?_
  have alw:=ax.lt
  have alx:=az.lt
  have aly:=aq.lt
  have alz:=aw.lt
  obtain ⟨w9,Nw9,LH,jI,Am,H',dL,alR⟩:=H.alloc 37 aH
  change WL _ _ _ _ _ _ (w8.alloc (.cells aH 37))
  rw [<-LH]
  clear LH
  replace H:=H'
  clear H'
  replace HF:=HF.bT jI
  replace ax:=(ax.below jI).more Am
  replace az:=(az.below jI).more Am
  replace aq:=(aq.below jI).more Am
  replace aw:=(aw.below jI).more Am
  replace HN:=fun i hi=>Am i (HN i hi)
  have HL:=jI.size
  refine WL.vv rfl rfl (bp rfl dr) (by decide) ?_
  have aky:=ax.lt
  have akz:=az.lt
  have akA:=aq.lt
  have akB:=aw.lt
  have akC:=dL.lt
  obtain ⟨Ca,aid,K3,jl,xY,H',gR,alF⟩:=H.alloc 39 aC
  change WL _ _ _ _ _ _ (w9.alloc (.cells aC 39))
  rw [<-K3]
  clear K3
  replace H:=H'
  clear H'
  replace HF:=HF.bT jl
  replace ax:=(ax.below jl).more xY
  replace az:=(az.below jl).more xY
  replace aq:=(aq.below jl).more xY
  replace aw:=(aw.below jl).more xY
  replace dL:=(dL.below jl).more xY
  replace HN:=fun i hi=>xY i (HN i hi)
  have Hv:=jl.size
  refine WL.st rfl rfl rfl rfl rfl dL.bl rfl H.gz aY fun rT Tu su=> ?_
  replace H:=H.one su dL.n dL.k dL.g
  replace HF:=HF.one su (.inr (by omega))
  replace ax:=ax.other su (by omega)
  replace az:=az.other su (by omega)
  replace aq:=aq.other su (by omega)
  replace aw:=aw.other su (by omega)
  replace gR:=gR.other su (by omega)
  replace dL:=dL.put Tu
  have NZ:=Nat.le_of_eq su.size.symm
  refine WL.st rfl rfl rfl rfl rfl gR.bl rfl (da _) aZ fun Jc Tv sw=> ?_
  replace H:=H.one sw gR.n gR.k gR.g
  replace HF:=HF.one sw (.inr (by omega))
  replace ax:=ax.other sw (by omega)
  replace az:=az.other sw (by omega)
  replace aq:=aq.other sw (by omega)
  replace aw:=aw.other sw (by omega)
  replace dL:=dL.other sw (by omega)
  replace gR:=gR.put Tv
  have N7:=Nat.le_of_eq sw.size.symm
  refine WL.nil (NX.next ?_)
  refine CW.sub (E':=[(1,.int .i64 ((k+1:Nat):Int)),(6,.pointer (some ⟨w2.heap.size,0,none⟩)),(7,.pointer (some ⟨w3.heap.size,0,none⟩)),(8,.bool false),(11,.pointer (some ⟨w8.heap.size,0,none⟩)),(12,.pointer (some ⟨w9.heap.size,0,none⟩))]) ⟨rfl,rfl,rfl,rfl,rfl,rfl,trivial⟩ ?_
  obtain ⟨-,a1,jB,hKb, -⟩:=H.lay (k:=k) (by rw [hl1];omega)
  refine CW.seq (CW.any (fun W=>ai W w8.heap.size 37 (aF (aA k p x).1 E6 (.slice (some ⟨b,o,none⟩) p.af.length cap))/\W.cell? ⟨b,o+k*2+1,none⟩=some (.int .i64 (nth (aA k p x).1.af k).count)) 14 mo fun Jd hwd fA=> ?_)
  replace H:=H.below fA
  replace HF:=HF.bT fA
  replace ax:=ax.below fA
  replace az:=az.below fA
  replace aq:=aq.below fA
  replace aw:=aw.below fA
  replace dL:=dL.below fA
  replace gR:=gR.below fA
  have NY:=fA.size
  replace a1:=ay fA a1
  clear jB hKb
  obtain ⟨-, -,jB,hKb, -⟩:=H.lay (k:=k) (by rw [hl1];omega)
  clear hwd
  refine ⟨⟨dL.bl,a1⟩,?_⟩
  refine AU.tk 0 rfl (by kernel_rfl) (fun _ _ _ h=>h) rfl rfl (fun W hW=>cY rfl rfl oO) (by decide) ⟨dL.bl,a1⟩ ?_
  refine AU.tk 1 rfl (by kernel_rfl) (fun _ _ _ h=>h) rfl rfl (fun W hW=>cz rfl rfl Tryz.underlying35 rfl (v:= .slice (some ⟨b,o,none⟩) p.af.length cap) ((hW.1.cell 5).trans rfl)) (by decide) ⟨dL.bl,a1⟩ ?_
  refine AU.tk 2 rfl (by kernel_rfl) (fun _ _ _ h=>h) rfl rfl (fun W hW=>bf rfl rfl) (by decide) ⟨dL.bl,a1⟩ ?_
  refine AU.tk 3 rfl (by kernel_rfl) (fun _ _ _ h=>h) rfl rfl (fun W hW=>iI rfl rfl rfl rfl hw) (by decide) ⟨dL.bl,a1⟩ ?_
  refine AU.tk 4 rfl (by kernel_rfl) (fun _ _ _ h=>h) rfl rfl (fun W hW=>cY rfl rfl oO) (by decide) ⟨dL.bl,a1⟩ ?_
  refine AU.tk 5 rfl (by kernel_rfl) (fun _ _ _ h=>h) rfl rfl (fun W hW=>cz rfl rfl Tryz.underlying35 rfl (v:= .slice (some ⟨b,o,none⟩) p.af.length cap) ((hW.1.cell 5).trans rfl)) (by decide) ⟨dL.bl,a1⟩ ?_
  refine AU.tk 6 rfl (by kernel_rfl) (fun _ _ _ h=>h) rfl rfl (fun W hW=>bf rfl rfl) (by decide) ⟨dL.bl,a1⟩ ?_
  refine AU.tk 7 rfl (by kernel_rfl) (fun _ _ _ h=>h) rfl rfl (fun W hW=>iI rfl rfl rfl rfl hw) (by decide) ⟨dL.bl,a1⟩ ?_
  refine AU.tk 8 rfl (by kernel_rfl) (fun _ _ _ h=>h) rfl rfl (fun W hW=>oA rfl rfl rfl (by omega) (by omega) tj) (by decide) ⟨dL.bl,a1⟩ ?_
  refine AU.tk 9 rfl (by kernel_rfl) (fun _ _ _ h=>h) rfl rfl (fun W hW=>cY rfl rfl nU) (by decide) ⟨dL.bl,a1⟩ ?_
  refine AU.tk 10 rfl (by kernel_rfl) (fun _ _ _ h=>h) rfl rfl (fun W hW=>cz rfl rfl Tryz.underlying3 rfl hW.2) (by decide) ⟨dL.bl,a1⟩ ?_
  refine AU.c 11 (args:= #[.int .i64 (nth (aA k p x).1.af k).count]) rfl (by kernel_rfl) rfl rfl (bu (by kernel_rfl) rfl rfl rfl) (by decide) (SH H _ hn1) ?_
  rintro _ zr ⟨rfl,p7⟩
  replace H:=H.below p7
  replace HF:=HF.bT p7
  replace ax:=ax.below p7
  replace az:=az.below p7
  replace aq:=aq.below p7
  replace aw:=aw.below p7
  replace dL:=dL.below p7
  replace gR:=gR.below p7
  have ajv:=p7.size
  replace a1:=ay p7 a1
  clear jB hKb
  obtain ⟨-, -,jB,hKb, -⟩:=H.lay (k:=k) (by rw [hl1];omega)
  refine ⟨_,rfl,fun _=>⟨dL.bl,a1⟩,?_⟩
  refine AU.tk 12 rfl (by kernel_rfl) (fun _ _ _ h=>h) rfl rfl (fun W hW=>oA rfl rfl rfl (by omega) (by omega) tj) (by decide) ⟨dL.bl,a1⟩ ?_
  refine AU.tk 13 rfl (by kernel_rfl) (fun _ _ _ h=>h) rfl rfl (fun W hW=>cY rfl rfl nU) (by decide) ⟨dL.bl,a1⟩ ?_
  refine AU.ss 14 rfl (by kernel_rfl) rfl rfl (y8 rfl rfl rfl yO rfl a1 (jB _)) (fun h=>absurd rfl h) ?_
  replace H:=H.bump (k:=k) (by rw [hl1];omega) (QR hn1)
  replace HF:=HF.BP (q:=⟨b,o+k*2+1,none⟩) (.int .i64 (bU (nth (aA k p x).1.af k).count)) (.inl hKb)
  replace ax:=ax.far (a:=⟨b,o+k*2+1,none⟩) (.int .i64 (bU (nth (aA k p x).1.af k).count)) hKb
  replace az:=az.far (a:=⟨b,o+k*2+1,none⟩) (.int .i64 (bU (nth (aA k p x).1.af k).count)) hKb
  replace aq:=aq.far (a:=⟨b,o+k*2+1,none⟩) (.int .i64 (bU (nth (aA k p x).1.af k).count)) hKb
  replace aw:=aw.far (a:=⟨b,o+k*2+1,none⟩) (.int .i64 (bU (nth (aA k p x).1.af k).count)) hKb
  replace dL:=dL.far (a:=⟨b,o+k*2+1,none⟩) (.int .i64 (bU (nth (aA k p x).1.af k).count)) hKb
  replace gR:=gR.far (a:=⟨b,o+k*2+1,none⟩) (.int .i64 (bU (nth (aA k p x).1.af k).count)) hKb
  obtain ⟨EI,F2⟩: ∃z,z=zr.setCell ⟨b,o+k*2+1,none⟩ (.int .i64 (bU (nth (aA k p x).1.af k).count)):=⟨_,rfl⟩
  have Hw:zr.heap.size<=EI.heap.size:=by rw [F2];simp
  change AU _ _ _ _ _ _ _ _ _ (zr.setCell ⟨b,o+k*2+1,none⟩ (.int .i64 (bU (nth (aA k p x).1.af k).count)))
  rw [<-F2] at H HF ax az aq aw dL gR ⊢
  clear F2 a1 jB hKb
  refine AU.done (by kernel_rfl) (NX.next ?_)
  refine CW.sub (E':=[(6,.pointer (some ⟨w2.heap.size,0,none⟩)),(7,.pointer (some ⟨w3.heap.size,0,none⟩)),(8,.bool false),(11,.pointer (some ⟨w8.heap.size,0,none⟩)),(12,.pointer (some ⟨w9.heap.size,0,none⟩))]) ⟨rfl,rfl,rfl,rfl,rfl,trivial⟩ ?_
  refine CW.seq (CW.any (fun W=>ai W w8.heap.size 37 (aF (aA k p x).1 E6 (.slice (some ⟨b,o,none⟩) p.af.length cap))/\ai W w9.heap.size 39 (cK (aA k p x).2)) 4 mo fun SD hwd qR=> ?_)
  replace H:=H.below qR
  replace HF:=HF.bT qR
  replace ax:=ax.below qR
  replace az:=az.below qR
  replace aq:=aq.below qR
  replace aw:=aw.below qR
  replace dL:=dL.below qR
  replace gR:=gR.below qR
  have ajw:=qR.size
  clear hwd
  refine ⟨⟨dL.bl,gR.bl⟩,?_⟩
  refine AU.tk 0 rfl (by kernel_rfl) (fun _ _ _ h=>h) rfl rfl (fun W hW=>bh rfl rfl Tryz.underlying37 rfl hW.1 aY) (by decide) ⟨dL.bl,gR.bl⟩ ?_
  refine AU.tk 1 rfl (by kernel_rfl) (fun _ _ _ h=>h) rfl rfl (fun W hW=>bh rfl rfl Tryz.underlying39 rfl hW.2 aZ) (by decide) ⟨dL.bl,gR.bl⟩ ?_
  refine AU.st 2 rfl (by kernel_rfl) rfl rfl rfl rfl rfl aq.bl rfl H.gz aY (fun w' ho _=>⟨(ho.block _ (by omega)).trans dL.bl,(ho.block _ (by omega)).trans gR.bl⟩) fun w17 Tw sy=> ?_
  replace H:=H.one sy aq.n aq.k aq.g
  replace HF:=HF.one sy (.inr (by omega))
  replace ax:=ax.other sy (by omega)
  replace az:=az.other sy (by omega)
  replace aw:=aw.other sy (by omega)
  replace dL:=dL.other sy (by omega)
  replace gR:=gR.other sy (by omega)
  replace aq:=aq.put Tw
  have aad:=Nat.le_of_eq sy.size.symm
  refine AU.st 3 rfl (by kernel_rfl) rfl rfl rfl rfl rfl aw.bl rfl (da _) aZ (fun w' ho _=>⟨(ho.block _ (by omega)).trans dL.bl,(ho.block _ (by omega)).trans gR.bl⟩) fun w18 Tx sA=> ?_
  replace H:=H.one sA aw.n aw.k aw.g
  replace HF:=HF.one sA (.inr (by omega))
  replace ax:=ax.other sA (by omega)
  replace az:=az.other sA (by omega)
  replace aq:=aq.other sA (by omega)
  replace dL:=dL.other sA (by omega)
  replace gR:=gR.other sA (by omega)
  replace aw:=aw.put Tx
  have aae:=Nat.le_of_eq sA.size.symm
  refine AU.vv 4 rfl (by kernel_rfl) rfl rfl (cO rfl rfl) (by decide) (fun h=>absurd rfl h) ?_
  refine AU.done (by kernel_rfl) (NX.next (CW.ret ?_))
  exact NX.fY (NX.ret (NX.oL rfl rfl rfl rfl aq.bl aw.bl Tryz.underlying37 Tryz.underlying39 rfl rfl aY aZ (mf.mk (q:=(bump (aA k p x).1 k)) rfl H HN hK HF (fun _=>by rw [aA,if_neg N0,if_pos C]) (fun h=>by cases h))))
 have hq:(decide ((nth p.af k).name=counts)&&dz x)=false:=by
  simp only [Bool.and_eq_false_iff,decide_eq_false_iff_not]
  by_cases h1:(nth p.af k).name=counts
  ·right;simpa [h1] using C
  ·left;exact h1
 have N1:=C
 clear C
 rw [hq]
 clear hq
 refine CW.no rfl ?_
 refine CW.sub (E':=[(1,.int .i64 ((k+1:Nat):Int)),(3,.pointer (some ⟨w.heap.size,0,none⟩)),(5,.pointer (some ⟨w1.heap.size,0,none⟩)),(6,.pointer (some ⟨w2.heap.size,0,none⟩)),(7,.pointer (some ⟨w3.heap.size,0,none⟩)),(8,.bool false),(9,.string (nth p.af k).name),(10,.bool (dz x))]) ⟨rfl,rfl,rfl,rfl,rfl,rfl,rfl,rfl,trivial⟩ ?_
 refine CW.seq (CW.region (QC rfl rfl rfl rfl rfl rfl rfl rfl rfl rfl rfl rfl rfl rfl rfl rfl rfl rfl (by decide) (fun _ _ _=>rfl) (by decide) rfl ?_))
 intro E1 aR hb1
 refine NX.next (CW.sub (E':=(86,.bool (decide ((nth p.af k).name=jY)&&dz x))::[(1,.int .i64 ((k+1:Nat):Int)),(3,.pointer (some ⟨w.heap.size,0,none⟩)),(5,.pointer (some ⟨w1.heap.size,0,none⟩)),(6,.pointer (some ⟨w2.heap.size,0,none⟩)),(7,.pointer (some ⟨w3.heap.size,0,none⟩)),(8,.bool false),(9,.string (nth p.af k).name),(10,.bool (dz x))]) ⟨hb1.trans (by rw [fR];rfl),(aR 1 (by decide)).trans rfl,(aR 3 (by decide)).trans rfl,(aR 5 (by decide)).trans rfl,(aR 6 (by decide)).trans rfl,(aR 7 (by decide)).trans rfl,(aR 8 (by decide)).trans rfl,(aR 9 (by decide)).trans rfl,(aR 10 (by decide)).trans rfl,trivial⟩ ?_)
 clear aR hb1
 by_cases C:(nth p.af k).name=jY/\dz x=true
 ·have hq:(decide ((nth p.af k).name=jY)&&dz x)=true:=by simp [C.1,C.2]
  rw [hq]
  clear hq
  refine CW.yes rfl ?_
  have kn:=Bj C.2
  have lS:cV (eQ p k) (bK x.method)=true:=by rcases hsub with h|h|h|h;exact absurd h.2 kn.1;exact absurd h.2 kn.2.1;exact absurd h.2 kn.2.2.1;exact h
  have hr:=xQ (qK p k) lb (.inl C.1)
  have ox:=pI k p x hp (by omega) hc lS
  have hl1:=ox.2.1.len
  have D5:cV (eQ (aA k p x).1 k) (bK (br mStart).method)=true:=by rw [ox.2.1.pX (by omega)];exact hr.1
  have Ih:=pI k (aA k p x).1 (br mStart) ox.1 (by omega) tf.1 D5
  have fG:(aA k (aA k p x).1 (br mStart)).1.af.length=p.af.length:=by rw [Ih.2.1.len,hl1]
  have of2:cV (eQ (aA k (aA k p x).1 (br mStart)).1 k) (bK x.method)=true:=by rw [Ih.2.1.pX (by omega),ox.2.1.pX (by omega)];exact lS
  refine CW.sub (E':=[(1,.int .i64 ((k+1:Nat):Int)),(3,.pointer (some ⟨w.heap.size,0,none⟩)),(5,.pointer (some ⟨w1.heap.size,0,none⟩)),(6,.pointer (some ⟨w2.heap.size,0,none⟩)),(7,.pointer (some ⟨w3.heap.size,0,none⟩)),(8,.bool false)]) ⟨rfl,rfl,rfl,rfl,rfl,rfl,trivial⟩ ?_
  refine CW.seq (CW.region ?_)
  refine WL.vv rfl rfl (bh rfl rfl Tryz.underlying37 rfl ax.bl aY) (by decide) ?_
  refine WL.vv rfl rfl (bf rfl rfl) (by decide) ?_
  refine WL.vv rfl rfl (iI rfl rfl rfl rfl hw) (by decide) ?_
  refine WL.vv rfl rfl (bh rfl rfl Tryz.underlying43 rfl az.bl kG) (by decide) ?_
  refine WL.c rfl rfl (bu (args:= #[.agg (aF p S1 (.slice (some ⟨b,o,none⟩) p.af.length cap)),.int .i64 (k:Int),.agg #[.string x.method,.string x.key,.int .i64 x.val,.string x.text]]) (by kernel_rfl) rfl rfl rfl) (by decide) (IH K sr _ _ _ p x H hx hp hc (by omega) lS) ?_
  rintro _ rU ⟨JJ,rfl,H',yu⟩
  refine ⟨_,rfl,?_⟩
  replace H:=H'
  clear H'
  replace HF:=HF.mQ yu
  replace ax:=ax.bY yu
  replace az:=az.bY yu
  replace aq:=aq.bY yu
  replace aw:=aw.bY yu
  have aaf:=yu.size
  refine WL.vv rfl rfl (bf rfl rfl) (by decide) ?_
  refine WL.vv rfl rfl (cJ rfl rfl rfl) (by decide) ?_
  refine WL.vv rfl rfl (cJ rfl rfl rfl) (by decide) ?_
  refine WL.vv rfl rfl (bp rfl dH) (by decide) ?_
  have akM:=ax.lt
  have akN:=az.lt
  have akO:=aq.lt
  have akP:=aw.lt
  obtain ⟨rV,Tl,K6,ym,ja,H',cX,alI⟩:=H.alloc 37 aH
  change WL _ _ _ _ _ _ (rU.alloc (.cells aH 37))
  rw [<-K6]
  clear K6
  replace H:=H'
  clear H'
  replace HF:=HF.bT ym
  replace ax:=(ax.below ym).more ja
  replace az:=(az.below ym).more ja
  replace aq:=(aq.below ym).more ja
  replace aw:=(aw.below ym).more ja
  replace HN:=fun i hi=>ja i (HN i hi)
  have aag:=ym.size
  refine WL.vv rfl rfl (bp rfl dr) (by decide) ?_
  have akQ:=ax.lt
  have akR:=az.lt
  have akT:=aq.lt
  have akU:=aw.lt
  have akS:=cX.lt
  obtain ⟨w21,JD,K7,ve,x5,H',dG,alJ⟩:=H.alloc 39 aC
  change WL _ _ _ _ _ _ (rV.alloc (.cells aC 39))
  rw [<-K7]
  clear K7
  replace H:=H'
  clear H'
  replace HF:=HF.bT ve
  replace ax:=(ax.below ve).more x5
  replace az:=(az.below ve).more x5
  replace aq:=(aq.below ve).more x5
  replace aw:=(aw.below ve).more x5
  replace cX:=(cX.below ve).more x5
  replace HN:=fun i hi=>x5 i (HN i hi)
  have aah:=ve.size
  refine WL.st rfl rfl rfl rfl rfl cX.bl rfl H.gz aY fun w22 Tz sB=> ?_
  replace H:=H.one sB cX.n cX.k cX.g
  replace HF:=HF.one sB (.inr (by omega))
  replace ax:=ax.other sB (by omega)
  replace az:=az.other sB (by omega)
  replace aq:=aq.other sB (by omega)
  replace aw:=aw.other sB (by omega)
  replace dG:=dG.other sB (by omega)
  replace cX:=cX.put Tz
  have aai:=Nat.le_of_eq sB.size.symm
  refine WL.st rfl rfl rfl rfl rfl dG.bl rfl (da _) aZ fun w23 TA sC=> ?_
  replace H:=H.one sC dG.n dG.k dG.g
  replace HF:=HF.one sC (.inr (by omega))
  replace ax:=ax.other sC (by omega)
  replace az:=az.other sC (by omega)
  replace aq:=aq.other sC (by omega)
  replace aw:=aw.other sC (by omega)
  replace cX:=cX.other sC (by omega)
  replace dG:=dG.put TA
  have aaj:=Nat.le_of_eq sC.size.symm
  refine WL.nil (NX.next ?_)
  refine CW.sub (E':=[(1,.int .i64 ((k+1:Nat):Int)),(5,.pointer (some ⟨w1.heap.size,0,none⟩)),(6,.pointer (some ⟨w2.heap.size,0,none⟩)),(7,.pointer (some ⟨w3.heap.size,0,none⟩)),(8,.bool false),(13,.pointer (some ⟨rU.heap.size,0,none⟩)),(14,.pointer (some ⟨rV.heap.size,0,none⟩))]) ⟨rfl,rfl,rfl,rfl,rfl,rfl,rfl,trivial⟩ ?_
  by_cases h2:(aA k p x).2.code=2
  ·refine CW.seq (CW.seq (CW.region ?_))
   refine WL.vv rfl rfl (cY rfl rfl xO) (by decide) ?_
   refine WL.vv rfl rfl (cz rfl rfl Tryz.underlying3 rfl (v:= .int .i64 (aA k p x).2.code) ((dG.bl.cell 0).trans rfl)) (by decide) ?_
   refine WL.vv rfl rfl (gQ (b:=true) rfl rfl rfl rfl (by simp [bb,h2])) (by decide) ?_
   refine WL.nil (NX.next (CW.yes rfl ?_))
   refine CW.sub (E':=[(1,.int .i64 ((k+1:Nat):Int)),(5,.pointer (some ⟨w1.heap.size,0,none⟩)),(6,.pointer (some ⟨w2.heap.size,0,none⟩)),(7,.pointer (some ⟨w3.heap.size,0,none⟩)),(8,.bool false),(13,.pointer (some ⟨rU.heap.size,0,none⟩)),(14,.pointer (some ⟨rV.heap.size,0,none⟩))]) ⟨rfl,rfl,rfl,rfl,rfl,rfl,rfl,trivial⟩ ?_
   refine CW.seq (CW.region ?_)
   refine WL.vv rfl rfl (bh rfl rfl Tryz.underlying37 rfl cX.bl aY) (by decide) ?_
   refine WL.vv rfl rfl (bf rfl rfl) (by decide) ?_
   refine WL.vv rfl rfl (iI rfl rfl rfl rfl hw) (by decide) ?_
   refine WL.vv rfl rfl (jv (vs:=[(0,.string mStart)]) rfl rfl (uN _)) (by decide) ?_
   refine WL.c rfl rfl (bu (args:= #[.agg (aF (aA k p x).1 JJ (.slice (some ⟨b,o,none⟩) p.af.length cap)),.int .i64 (k:Int),.agg #[.string mStart,.string cS,.int .i64 0,.string cS]]) (by kernel_rfl) rfl rfl rfl) (by decide) (IH K JD _ _ _ (aA k p x).1 (br mStart) H (Bx (by decide)) ox.1 tf.1 (by rw [hl1];omega) D5) ?_
   rintro _ w24 ⟨Uq,rfl,H',tO⟩
   refine ⟨_,rfl,?_⟩
   replace H:=H'
   clear H'
   replace HF:=HF.mQ tO
   replace ax:=ax.bY tO
   replace az:=az.bY tO
   replace aq:=aq.bY tO
   replace aw:=aw.bY tO
   replace cX:=cX.bY tO
   replace dG:=dG.bY tO
   have ajP:=tO.size
   refine WL.vv rfl rfl (bf rfl rfl) (by decide) ?_
   refine WL.vv rfl rfl (cJ rfl rfl rfl) (by decide) ?_
   refine WL.vv rfl rfl (cJ rfl rfl rfl) (by decide) ?_
   refine WL.st rfl rfl rfl rfl rfl cX.bl rfl H.gz aY fun w25 TD sD=> ?_
   replace H:=H.one sD cX.n cX.k cX.g
   replace HF:=HF.one sD (.inr (by omega))
   replace ax:=ax.other sD (by omega)
   replace az:=az.other sD (by omega)
   replace aq:=aq.other sD (by omega)
   replace aw:=aw.other sD (by omega)
   replace dG:=dG.other sD (by omega)
   replace cX:=cX.put TD
   have ajQ:=Nat.le_of_eq sD.size.symm
   refine WL.nil (NX.next ?_)
   refine CW.sub (E':=[(1,.int .i64 ((k+1:Nat):Int)),(5,.pointer (some ⟨w1.heap.size,0,none⟩)),(6,.pointer (some ⟨w2.heap.size,0,none⟩)),(7,.pointer (some ⟨w3.heap.size,0,none⟩)),(8,.bool false),(13,.pointer (some ⟨rU.heap.size,0,none⟩)),(14,.pointer (some ⟨rV.heap.size,0,none⟩))]) ⟨rfl,rfl,rfl,rfl,rfl,rfl,rfl,trivial⟩ ?_
   refine CW.region ?_
   refine WL.vv rfl rfl (bh rfl rfl Tryz.underlying37 rfl cX.bl aY) (by decide) ?_
   refine WL.vv rfl rfl (bf rfl rfl) (by decide) ?_
   refine WL.vv rfl rfl (iI rfl rfl rfl rfl hw) (by decide) ?_
   refine WL.vv rfl rfl (bh rfl rfl Tryz.underlying43 rfl az.bl kG) (by decide) ?_
   refine WL.c rfl rfl (bu (args:= #[.agg (aF (aA k (aA k p x).1 (br mStart)).1 Uq (.slice (some ⟨b,o,none⟩) p.af.length cap)),.int .i64 (k:Int),.agg #[.string x.method,.string x.key,.int .i64 x.val,.string x.text]]) (by kernel_rfl) rfl rfl rfl) (by decide) (IH K JD _ _ _ (aA k (aA k p x).1 (br mStart)).1 x H hx Ih.1 hc (by rw [fG];omega) of2) ?_
   rintro _ w26 ⟨Ur,rfl,H',tP⟩
   refine ⟨_,rfl,?_⟩
   replace H:=H'
   clear H'
   replace HF:=HF.mQ tP
   replace ax:=ax.bY tP
   replace az:=az.bY tP
   replace aq:=aq.bY tP
   replace aw:=aw.bY tP
   replace cX:=cX.bY tP
   replace dG:=dG.bY tP
   have ajR:=tP.size
   refine WL.vv rfl rfl (bf rfl rfl) (by decide) ?_
   refine WL.vv rfl rfl (cJ rfl rfl rfl) (by decide) ?_
   refine WL.vv rfl rfl (cJ rfl rfl rfl) (by decide) ?_
   refine WL.st rfl rfl rfl rfl rfl cX.bl rfl H.gz aY fun w27 TE sE=> ?_
   replace H:=H.one sE cX.n cX.k cX.g
   replace HF:=HF.one sE (.inr (by omega))
   replace ax:=ax.other sE (by omega)
   replace az:=az.other sE (by omega)
   replace aq:=aq.other sE (by omega)
   replace aw:=aw.other sE (by omega)
   replace dG:=dG.other sE (by omega)
   replace cX:=cX.put TE
   have ajS:=Nat.le_of_eq sE.size.symm
   refine WL.st rfl rfl rfl rfl rfl dG.bl rfl (da _) aZ fun w28 TF sF=> ?_
   replace H:=H.one sF dG.n dG.k dG.g
   replace HF:=HF.one sF (.inr (by omega))
   replace ax:=ax.other sF (by omega)
   replace az:=az.other sF (by omega)
   replace aq:=aq.other sF (by omega)
   replace aw:=aw.other sF (by omega)
   replace cX:=cX.other sF (by omega)
   replace dG:=dG.put TF
   have ajT:=Nat.le_of_eq sF.size.symm
   refine WL.nil (NX.next ?_)
   refine CW.sub (E':=[(6,.pointer (some ⟨w2.heap.size,0,none⟩)),(7,.pointer (some ⟨w3.heap.size,0,none⟩)),(8,.bool false),(13,.pointer (some ⟨rU.heap.size,0,none⟩)),(14,.pointer (some ⟨rV.heap.size,0,none⟩))]) ⟨rfl,rfl,rfl,rfl,rfl,trivial⟩ ?_
   refine CW.seq (CW.any (fun W=>ai W rU.heap.size 37 (aF (aA k (aA k (aA k p x).1 (br mStart)).1 x).1 Ur (.slice (some ⟨b,o,none⟩) p.af.length cap))/\ai W rV.heap.size 39 (cK (aA k (aA k (aA k p x).1 (br mStart)).1 x).2)) 4 mo fun w29 hwd qT=> ?_)
   replace H:=H.below qT
   replace HF:=HF.bT qT
   replace ax:=ax.below qT
   replace az:=az.below qT
   replace aq:=aq.below qT
   replace aw:=aw.below qT
   replace cX:=cX.below qT
   replace dG:=dG.below qT
   have ajx:=qT.size
   clear hwd
   refine ⟨⟨cX.bl,dG.bl⟩,?_⟩
   refine AU.tk 0 rfl (by kernel_rfl) (fun _ _ _ h=>h) rfl rfl (fun W hW=>bh rfl rfl Tryz.underlying37 rfl hW.1 aY) (by decide) ⟨cX.bl,dG.bl⟩ ?_
   refine AU.tk 1 rfl (by kernel_rfl) (fun _ _ _ h=>h) rfl rfl (fun W hW=>bh rfl rfl Tryz.underlying39 rfl hW.2 aZ) (by decide) ⟨cX.bl,dG.bl⟩ ?_
   refine AU.st 2 rfl (by kernel_rfl) rfl rfl rfl rfl rfl aq.bl rfl H.gz aY (fun w' ho _=>⟨(ho.block _ (by omega)).trans cX.bl,(ho.block _ (by omega)).trans dG.bl⟩) fun w30 TH sG=> ?_
   replace H:=H.one sG aq.n aq.k aq.g
   replace HF:=HF.one sG (.inr (by omega))
   replace ax:=ax.other sG (by omega)
   replace az:=az.other sG (by omega)
   replace aw:=aw.other sG (by omega)
   replace cX:=cX.other sG (by omega)
   replace dG:=dG.other sG (by omega)
   replace aq:=aq.put TH
   have ajU:=Nat.le_of_eq sG.size.symm
   refine AU.st 3 rfl (by kernel_rfl) rfl rfl rfl rfl rfl aw.bl rfl (da _) aZ (fun w' ho _=>⟨(ho.block _ (by omega)).trans cX.bl,(ho.block _ (by omega)).trans dG.bl⟩) fun w31 TJ sJ=> ?_
   replace H:=H.one sJ aw.n aw.k aw.g
   replace HF:=HF.one sJ (.inr (by omega))
   replace ax:=ax.other sJ (by omega)
   replace az:=az.other sJ (by omega)
   replace aq:=aq.other sJ (by omega)
   replace cX:=cX.other sJ (by omega)
   replace dG:=dG.other sJ (by omega)
   replace aw:=aw.put TJ
   have ajV:=Nat.le_of_eq sJ.size.symm
   refine AU.vv 4 rfl (by kernel_rfl) rfl rfl (cO rfl rfl) (by decide) (fun h=>absurd rfl h) ?_
   refine AU.done (by kernel_rfl) (NX.next (CW.ret ?_))
   exact NX.fY (NX.ret (NX.oL rfl rfl rfl rfl aq.bl aw.bl Tryz.underlying37 Tryz.underlying39 rfl rfl aY aZ (mf.mk (q:=(aA k (aA k (aA k p x).1 (br mStart)).1 x).1) rfl H HN hK HF (fun _=>by rw [aA,if_neg N0,if_neg N1,if_pos C,if_pos h2]) (fun h=>by cases h))))
  ·refine CW.seq (CW.seq (CW.region ?_))
   refine WL.vv rfl rfl (cY rfl rfl xO) (by decide) ?_
   refine WL.vv rfl rfl (cz rfl rfl Tryz.underlying3 rfl (v:= .int .i64 (aA k p x).2.code) ((dG.bl.cell 0).trans rfl)) (by decide) ?_
   refine WL.vv rfl rfl (gQ (b:=false) rfl rfl rfl rfl (by simp [bb,h2])) (by decide) ?_
   refine WL.nil (NX.next (CW.no rfl (CW.skip (NX.next ?_))))
   refine CW.sub (E':=[(6,.pointer (some ⟨w2.heap.size,0,none⟩)),(7,.pointer (some ⟨w3.heap.size,0,none⟩)),(8,.bool false),(13,.pointer (some ⟨rU.heap.size,0,none⟩)),(14,.pointer (some ⟨rV.heap.size,0,none⟩))]) ⟨rfl,rfl,rfl,rfl,rfl,trivial⟩ ?_
   refine CW.seq (CW.any (fun W=>ai W rU.heap.size 37 (aF (aA k p x).1 JJ (.slice (some ⟨b,o,none⟩) p.af.length cap))/\ai W rV.heap.size 39 (cK (aA k p x).2)) 4 mo fun w32 hwd qU=> ?_)
   replace H:=H.below qU
   replace HF:=HF.bT qU
   replace ax:=ax.below qU
   replace az:=az.below qU
   replace aq:=aq.below qU
   replace aw:=aw.below qU
   replace cX:=cX.below qU
   replace dG:=dG.below qU
   have ajy:=qU.size
   clear hwd
   refine ⟨⟨cX.bl,dG.bl⟩,?_⟩
   refine AU.tk 0 rfl (by kernel_rfl) (fun _ _ _ h=>h) rfl rfl (fun W hW=>bh rfl rfl Tryz.underlying37 rfl hW.1 aY) (by decide) ⟨cX.bl,dG.bl⟩ ?_
   refine AU.tk 1 rfl (by kernel_rfl) (fun _ _ _ h=>h) rfl rfl (fun W hW=>bh rfl rfl Tryz.underlying39 rfl hW.2 aZ) (by decide) ⟨cX.bl,dG.bl⟩ ?_
   refine AU.st 2 rfl (by kernel_rfl) rfl rfl rfl rfl rfl aq.bl rfl H.gz aY (fun w' ho _=>⟨(ho.block _ (by omega)).trans cX.bl,(ho.block _ (by omega)).trans dG.bl⟩) fun w33 TK sK=> ?_
   replace H:=H.one sK aq.n aq.k aq.g
   replace HF:=HF.one sK (.inr (by omega))
   replace ax:=ax.other sK (by omega)
   replace az:=az.other sK (by omega)
   replace aw:=aw.other sK (by omega)
   replace cX:=cX.other sK (by omega)
   replace dG:=dG.other sK (by omega)
   replace aq:=aq.put TK
   have ajW:=Nat.le_of_eq sK.size.symm
   refine AU.st 3 rfl (by kernel_rfl) rfl rfl rfl rfl rfl aw.bl rfl (da _) aZ (fun w' ho _=>⟨(ho.block _ (by omega)).trans cX.bl,(ho.block _ (by omega)).trans dG.bl⟩) fun w34 TL sL=> ?_
   replace H:=H.one sL aw.n aw.k aw.g
   replace HF:=HF.one sL (.inr (by omega))
   replace ax:=ax.other sL (by omega)
   replace az:=az.other sL (by omega)
   replace aq:=aq.other sL (by omega)
   replace cX:=cX.other sL (by omega)
   replace dG:=dG.other sL (by omega)
   replace aw:=aw.put TL
   have ajX:=Nat.le_of_eq sL.size.symm
   refine AU.vv 4 rfl (by kernel_rfl) rfl rfl (cO rfl rfl) (by decide) (fun h=>absurd rfl h) ?_
   refine AU.done (by kernel_rfl) (NX.next (CW.ret ?_))
   exact NX.fY (NX.ret (NX.oL rfl rfl rfl rfl aq.bl aw.bl Tryz.underlying37 Tryz.underlying39 rfl rfl aY aZ (mf.mk (q:=(aA k p x).1) rfl H HN hK HF (fun _=>by rw [aA,if_neg N0,if_neg N1,if_pos C,if_neg h2]) (fun h=>by cases h))))
 have hq:(decide ((nth p.af k).name=jY)&&dz x)=false:=by
  simp only [Bool.and_eq_false_iff,decide_eq_false_iff_not]
  by_cases h1:(nth p.af k).name=jY
  ·right;simpa [h1] using C
  ·left;exact h1
 have N2:=C
 clear C
 rw [hq]
 clear hq
 refine CW.no rfl ?_
 refine CW.sub (E':=[(1,.int .i64 ((k+1:Nat):Int)),(3,.pointer (some ⟨w.heap.size,0,none⟩)),(5,.pointer (some ⟨w1.heap.size,0,none⟩)),(6,.pointer (some ⟨w2.heap.size,0,none⟩)),(7,.pointer (some ⟨w3.heap.size,0,none⟩)),(8,.bool false),(9,.string (nth p.af k).name),(10,.bool (dz x))]) ⟨rfl,rfl,rfl,rfl,rfl,rfl,rfl,rfl,trivial⟩ ?_
 refine CW.seq (CW.region (BQ rfl rfl rfl rfl rfl rfl rfl rfl rfl rfl rfl rfl rfl rfl rfl rfl rfl rfl rfl rfl rfl rfl rfl rfl (by decide) (fun _ _ _=>rfl) (by decide) rfl Tryz.underlying9 rfl mz ((az.bl.cell 0).trans rfl) ?_))
 intro E1 aR hb1
 refine NX.next (CW.sub (E':=(121,.bool (decide ((nth p.af k).name=lC)&&decide (x.method=fw)))::[(1,.int .i64 ((k+1:Nat):Int)),(3,.pointer (some ⟨w.heap.size,0,none⟩)),(5,.pointer (some ⟨w1.heap.size,0,none⟩)),(6,.pointer (some ⟨w2.heap.size,0,none⟩)),(7,.pointer (some ⟨w3.heap.size,0,none⟩)),(8,.bool false),(9,.string (nth p.af k).name),(10,.bool (dz x))]) ⟨hb1.trans (by rw [fR,fR];rfl),(aR 1 (by decide)).trans rfl,(aR 3 (by decide)).trans rfl,(aR 5 (by decide)).trans rfl,(aR 6 (by decide)).trans rfl,(aR 7 (by decide)).trans rfl,(aR 8 (by decide)).trans rfl,(aR 9 (by decide)).trans rfl,(aR 10 (by decide)).trans rfl,trivial⟩ ?_)
 clear aR hb1
 by_cases C:(nth p.af k).name=lC/\x.method=fw
 ·have hq:(decide ((nth p.af k).name=lC)&&decide (x.method=fw))=true:=by simp [C.1,C.2]
  rw [hq]
  clear hq
  refine CW.yes rfl ?_
  refine CW.sub (E':=[(3,.pointer (some ⟨w.heap.size,0,none⟩)),(6,.pointer (some ⟨w2.heap.size,0,none⟩)),(7,.pointer (some ⟨w3.heap.size,0,none⟩)),(8,.bool false)]) ⟨rfl,rfl,rfl,rfl,trivial⟩ ?_
  refine CW.seq (CW.region ?_)
  refine WL.vv rfl rfl (bh rfl rfl Tryz.underlying37 rfl ax.bl aY) (by decide) ?_
  refine WL.vv rfl rfl (jv (vs:=[(0,.int .i64 6)]) rfl rfl (xu _)) (by decide) ?_
  refine WL.st rfl rfl rfl rfl rfl aq.bl rfl H.gz aY fun w35 TM xd=> ?_
  replace H:=H.one xd aq.n aq.k aq.g
  replace HF:=HF.one xd (.inr (by omega))
  replace ax:=ax.other xd (by omega)
  replace az:=az.other xd (by omega)
  replace aw:=aw.other xd (by omega)
  replace aq:=aq.put TM
  have ajY:=Nat.le_of_eq xd.size.symm
  refine WL.st rfl rfl rfl rfl rfl aw.bl rfl (da _) aZ fun w36 TN xe=> ?_
  replace H:=H.one xe aw.n aw.k aw.g
  replace HF:=HF.one xe (.inr (by omega))
  replace ax:=ax.other xe (by omega)
  replace az:=az.other xe (by omega)
  replace aq:=aq.other xe (by omega)
  replace aw:=aw.put TN
  have ajZ:=Nat.le_of_eq xe.size.symm
  refine WL.vv rfl rfl (cO rfl rfl) (by decide) ?_
  refine WL.nil (NX.next (CW.ret ?_))
  exact NX.fY (NX.ret (NX.oL rfl rfl rfl rfl aq.bl aw.bl Tryz.underlying37 Tryz.underlying39 rfl rfl aY aZ (mf.mk (q:=p) rfl H HN hK HF (fun _=>by rw [aA,if_neg N0,if_neg N1,if_neg N2,if_pos C]) (fun h=>by cases h))))
 have hq:(decide ((nth p.af k).name=lC)&&decide (x.method=fw))=false:=by
  simp only [Bool.and_eq_false_iff,decide_eq_false_iff_not]
  by_cases h1:(nth p.af k).name=lC
  ·right;exact fun h2=>C ⟨h1,h2⟩
  ·left;exact h1
 have N3:=C
 clear C
 rw [hq]
 clear hq
 refine CW.no rfl ?_
 refine CW.sub (E':=[(1,.int .i64 ((k+1:Nat):Int)),(3,.pointer (some ⟨w.heap.size,0,none⟩)),(5,.pointer (some ⟨w1.heap.size,0,none⟩)),(6,.pointer (some ⟨w2.heap.size,0,none⟩)),(7,.pointer (some ⟨w3.heap.size,0,none⟩)),(8,.bool false),(9,.string (nth p.af k).name),(10,.bool (dz x))]) ⟨rfl,rfl,rfl,rfl,rfl,rfl,rfl,rfl,trivial⟩ ?_
 refine CW.seq (CW.region (BQ rfl rfl rfl rfl rfl rfl rfl rfl rfl rfl rfl rfl rfl rfl rfl rfl rfl rfl rfl rfl rfl rfl rfl rfl (by decide) (fun _ _ _=>rfl) (by decide) rfl Tryz.underlying9 rfl mz ((az.bl.cell 0).trans rfl) ?_))
 intro E1 aR hb1
 refine NX.next (CW.sub (E':=(131,.bool (decide ((nth p.af k).name=gP)&&decide (x.method=fe)))::[(1,.int .i64 ((k+1:Nat):Int)),(3,.pointer (some ⟨w.heap.size,0,none⟩)),(5,.pointer (some ⟨w1.heap.size,0,none⟩)),(6,.pointer (some ⟨w2.heap.size,0,none⟩)),(7,.pointer (some ⟨w3.heap.size,0,none⟩)),(8,.bool false),(9,.string (nth p.af k).name),(10,.bool (dz x))]) ⟨hb1.trans (by rw [fR,fR];rfl),(aR 1 (by decide)).trans rfl,(aR 3 (by decide)).trans rfl,(aR 5 (by decide)).trans rfl,(aR 6 (by decide)).trans rfl,(aR 7 (by decide)).trans rfl,(aR 8 (by decide)).trans rfl,(aR 9 (by decide)).trans rfl,(aR 10 (by decide)).trans rfl,trivial⟩ ?_)
 clear aR hb1
 by_cases C:(nth p.af k).name=gP/\x.method=fe
 ·have hq:(decide ((nth p.af k).name=gP)&&decide (x.method=fe))=true:=by simp [C.1,C.2]
  rw [hq]
  clear hq
  refine CW.yes rfl ?_
  have hr:=xQ (qK p k) lb (.inr (.inl C.1))
  have qQ:=Fg hp (k:=k) (by omega) (.inr C.1)
  have hsh:gV p (bump p k):=Cr (by omega)
  have hlb:=zN p k
  have hnb:fg (nth (bump p k).af k).count=true:=((nH.1 qQ).2.2 k (by omega)).2.2.1
  refine CW.sub (E':=[(1,.int .i64 ((k+1:Nat):Int)),(3,.pointer (some ⟨w.heap.size,0,none⟩)),(5,.pointer (some ⟨w1.heap.size,0,none⟩)),(6,.pointer (some ⟨w2.heap.size,0,none⟩)),(7,.pointer (some ⟨w3.heap.size,0,none⟩)),(8,.bool false)]) ⟨rfl,rfl,rfl,rfl,rfl,rfl,trivial⟩ ?_
  refine CW.seq (CW.region ?_)
  refine WL.vv rfl rfl (bh rfl rfl Tryz.underlying37 rfl ax.bl aY) (by decide) ?_
  refine WL.vv rfl rfl (bp rfl dH) (by decide) ?_
  have akV:=ax.lt
  have akW:=az.lt
  have akX:=aq.lt
  have akY:=aw.lt
  obtain ⟨w37,Tm,K8,yn,Aj,H',dq,alK⟩:=H.alloc 37 aH
  change WL _ _ _ _ _ _ (w4.alloc (.cells aH 37))
  rw [<-K8]
  clear K8
  replace H:=H'
  clear H'
  replace HF:=HF.bT yn
  replace ax:=(ax.below yn).more Aj
  replace az:=(az.below yn).more Aj
  replace aq:=(aq.below yn).more Aj
  replace aw:=(aw.below yn).more Aj
  replace HN:=fun i hi=>Aj i (HN i hi)
  have aj0:=yn.size
  refine WL.st rfl rfl rfl rfl rfl dq.bl rfl H.gz aY fun w38 TP uz=> ?_
  replace H:=H.one uz dq.n dq.k dq.g
  replace HF:=HF.one uz (.inr (by omega))
  replace ax:=ax.other uz (by omega)
  replace az:=az.other uz (by omega)
  replace aq:=aq.other uz (by omega)
  replace aw:=aw.other uz (by omega)
  replace dq:=dq.put TP
  have aj1:=Nat.le_of_eq uz.size.symm
  refine WL.nil (NX.next ?_)
  refine CW.sub (E':=[(1,.int .i64 ((k+1:Nat):Int)),(5,.pointer (some ⟨w1.heap.size,0,none⟩)),(6,.pointer (some ⟨w2.heap.size,0,none⟩)),(7,.pointer (some ⟨w3.heap.size,0,none⟩)),(8,.bool false),(15,.pointer (some ⟨w4.heap.size,0,none⟩))]) ⟨rfl,rfl,rfl,rfl,rfl,rfl,trivial⟩ ?_
  obtain ⟨-,a1,jB,hKb, -⟩:=H.lay (k:=k) (by omega)
  refine CW.seq (CW.any (fun W=>ai W w4.heap.size 37 (aF p S1 (.slice (some ⟨b,o,none⟩) p.af.length cap))/\W.cell? ⟨b,o+k*2+1,none⟩=some (.int .i64 (nth p.af k).count)) 14 mo fun w39 hwd qV=> ?_)
  replace H:=H.below qV
  replace HF:=HF.bT qV
  replace ax:=ax.below qV
  replace az:=az.below qV
  replace aq:=aq.below qV
  replace aw:=aw.below qV
  replace dq:=dq.below qV
  have ajz:=qV.size
  replace a1:=ay qV a1
  clear jB hKb
  obtain ⟨-, -,jB,hKb, -⟩:=H.lay (k:=k) (by omega)
  clear hwd
  refine ⟨⟨dq.bl,a1⟩,?_⟩
  refine AU.tk 0 rfl (by kernel_rfl) (fun _ _ _ h=>h) rfl rfl (fun W hW=>cY rfl rfl oO) (by decide) ⟨dq.bl,a1⟩ ?_
  refine AU.tk 1 rfl (by kernel_rfl) (fun _ _ _ h=>h) rfl rfl (fun W hW=>cz rfl rfl Tryz.underlying35 rfl (v:= .slice (some ⟨b,o,none⟩) p.af.length cap) ((hW.1.cell 5).trans rfl)) (by decide) ⟨dq.bl,a1⟩ ?_
  refine AU.tk 2 rfl (by kernel_rfl) (fun _ _ _ h=>h) rfl rfl (fun W hW=>bf rfl rfl) (by decide) ⟨dq.bl,a1⟩ ?_
  refine AU.tk 3 rfl (by kernel_rfl) (fun _ _ _ h=>h) rfl rfl (fun W hW=>iI rfl rfl rfl rfl hw) (by decide) ⟨dq.bl,a1⟩ ?_
  refine AU.tk 4 rfl (by kernel_rfl) (fun _ _ _ h=>h) rfl rfl (fun W hW=>cY rfl rfl oO) (by decide) ⟨dq.bl,a1⟩ ?_
  refine AU.tk 5 rfl (by kernel_rfl) (fun _ _ _ h=>h) rfl rfl (fun W hW=>cz rfl rfl Tryz.underlying35 rfl (v:= .slice (some ⟨b,o,none⟩) p.af.length cap) ((hW.1.cell 5).trans rfl)) (by decide) ⟨dq.bl,a1⟩ ?_
  refine AU.tk 6 rfl (by kernel_rfl) (fun _ _ _ h=>h) rfl rfl (fun W hW=>bf rfl rfl) (by decide) ⟨dq.bl,a1⟩ ?_
  refine AU.tk 7 rfl (by kernel_rfl) (fun _ _ _ h=>h) rfl rfl (fun W hW=>iI rfl rfl rfl rfl hw) (by decide) ⟨dq.bl,a1⟩ ?_
  refine AU.tk 8 rfl (by kernel_rfl) (fun _ _ _ h=>h) rfl rfl (fun W hW=>oA rfl rfl rfl (by omega) (by omega) tj) (by decide) ⟨dq.bl,a1⟩ ?_
  refine AU.tk 9 rfl (by kernel_rfl) (fun _ _ _ h=>h) rfl rfl (fun W hW=>cY rfl rfl nU) (by decide) ⟨dq.bl,a1⟩ ?_
  refine AU.tk 10 rfl (by kernel_rfl) (fun _ _ _ h=>h) rfl rfl (fun W hW=>cz rfl rfl Tryz.underlying3 rfl hW.2) (by decide) ⟨dq.bl,a1⟩ ?_
  refine AU.c 11 (args:= #[.int .i64 (nth p.af k).count]) rfl (by kernel_rfl) rfl rfl (bu (by kernel_rfl) rfl rfl rfl) (by decide) (SH H _ Na) ?_
  rintro _ Je ⟨rfl,qW⟩
  replace H:=H.below qW
  replace HF:=HF.bT qW
  replace ax:=ax.below qW
  replace az:=az.below qW
  replace aq:=aq.below qW
  replace aw:=aw.below qW
  replace dq:=dq.below qW
  have ajB:=qW.size
  replace a1:=ay qW a1
  clear jB hKb
  obtain ⟨-, -,jB,hKb, -⟩:=H.lay (k:=k) (by omega)
  refine ⟨_,rfl,fun _=>⟨dq.bl,a1⟩,?_⟩
  refine AU.tk 12 rfl (by kernel_rfl) (fun _ _ _ h=>h) rfl rfl (fun W hW=>oA rfl rfl rfl (by omega) (by omega) tj) (by decide) ⟨dq.bl,a1⟩ ?_
  refine AU.tk 13 rfl (by kernel_rfl) (fun _ _ _ h=>h) rfl rfl (fun W hW=>cY rfl rfl nU) (by decide) ⟨dq.bl,a1⟩ ?_
  refine AU.ss 14 rfl (by kernel_rfl) rfl rfl (y8 rfl rfl rfl yO rfl a1 (jB _)) (fun h=>absurd rfl h) ?_
  replace H:=H.bump (k:=k) (by omega) (QR Na)
  replace HF:=HF.BP (q:=⟨b,o+k*2+1,none⟩) (.int .i64 (bU (nth p.af k).count)) (.inl hKb)
  replace ax:=ax.far (a:=⟨b,o+k*2+1,none⟩) (.int .i64 (bU (nth p.af k).count)) hKb
  replace az:=az.far (a:=⟨b,o+k*2+1,none⟩) (.int .i64 (bU (nth p.af k).count)) hKb
  replace aq:=aq.far (a:=⟨b,o+k*2+1,none⟩) (.int .i64 (bU (nth p.af k).count)) hKb
  replace aw:=aw.far (a:=⟨b,o+k*2+1,none⟩) (.int .i64 (bU (nth p.af k).count)) hKb
  replace dq:=dq.far (a:=⟨b,o+k*2+1,none⟩) (.int .i64 (bU (nth p.af k).count)) hKb
  obtain ⟨SE,F3⟩: ∃z,z=Je.setCell ⟨b,o+k*2+1,none⟩ (.int .i64 (bU (nth p.af k).count)):=⟨_,rfl⟩
  have aj2:Je.heap.size<=SE.heap.size:=by rw [F3];simp
  change AU _ _ _ _ _ _ _ _ _ (Je.setCell ⟨b,o+k*2+1,none⟩ (.int .i64 (bU (nth p.af k).count)))
  rw [<-F3] at H HF ax az aq aw dq ⊢
  clear F3 a1 jB hKb
  refine AU.done (by kernel_rfl) (NX.next ?_)
  refine CW.sub (E':=[(1,.int .i64 ((k+1:Nat):Int)),(5,.pointer (some ⟨w1.heap.size,0,none⟩)),(6,.pointer (some ⟨w2.heap.size,0,none⟩)),(7,.pointer (some ⟨w3.heap.size,0,none⟩)),(8,.bool false),(15,.pointer (some ⟨w4.heap.size,0,none⟩))]) ⟨rfl,rfl,rfl,rfl,rfl,rfl,trivial⟩ ?_
  have DN:=rJ.1 (Ks hc)
  by_cases hv:x.val<=1
  case neg =>
   refine CW.seq (CW.seq (CW.region ?_))
   refine WL.vv rfl rfl (cY rfl rfl Db) (by decide) ?_
   refine WL.vv rfl rfl (cz rfl rfl Tryz.underlying3 rfl (v:= .int .i64 x.val) ((az.bl.cell 2).trans rfl)) (by decide) ?_
   refine WL.vv rfl rfl (gQ (b:=true) rfl rfl rfl rfl (by simp [bb];omega)) (by decide) ?_
   refine WL.nil (NX.next (CW.yes rfl ?_))
   refine CW.sub (E':=[(1,.int .i64 ((k+1:Nat):Int)),(6,.pointer (some ⟨w2.heap.size,0,none⟩)),(7,.pointer (some ⟨w3.heap.size,0,none⟩)),(8,.bool false),(15,.pointer (some ⟨w4.heap.size,0,none⟩))]) ⟨rfl,rfl,rfl,rfl,rfl,trivial⟩ ?_
   obtain ⟨-,a1,jB,hKb, -⟩:=H.lay (k:=k) (by rw [hlb];omega)
   refine CW.seq (CW.any (fun W=>ai W w4.heap.size 37 (aF p S1 (.slice (some ⟨b,o,none⟩) p.af.length cap))/\W.cell? ⟨b,o+k*2+1,none⟩=some (.int .i64 (nth (bump p k).af k).count)) 11 mo fun w42 hwd qX=> ?_)
   replace H:=H.below qX
   replace HF:=HF.bT qX
   replace ax:=ax.below qX
   replace az:=az.below qX
   replace aq:=aq.below qX
   replace aw:=aw.below qX
   replace dq:=dq.below qX
   have ajC:=qX.size
   replace a1:=ay qX a1
   clear jB hKb
   obtain ⟨-, -,jB,hKb, -⟩:=H.lay (k:=k) (by rw [hlb];omega)
   clear hwd
   refine ⟨⟨dq.bl,a1⟩,?_⟩
   refine AU.tk 0 rfl (by kernel_rfl) (fun _ _ _ h=>h) rfl rfl (fun W hW=>bh rfl rfl Tryz.underlying37 rfl hW.1 aY) (by decide) ⟨dq.bl,a1⟩ ?_
   refine AU.tk 1 rfl (by kernel_rfl) (fun _ _ _ h=>h) rfl rfl (fun W hW=>cY rfl rfl oO) (by decide) ⟨dq.bl,a1⟩ ?_
   refine AU.tk 2 rfl (by kernel_rfl) (fun _ _ _ h=>h) rfl rfl (fun W hW=>cz rfl rfl Tryz.underlying35 rfl (v:= .slice (some ⟨b,o,none⟩) p.af.length cap) ((hW.1.cell 5).trans rfl)) (by decide) ⟨dq.bl,a1⟩ ?_
   refine AU.tk 3 rfl (by kernel_rfl) (fun _ _ _ h=>h) rfl rfl (fun W hW=>bf rfl rfl) (by decide) ⟨dq.bl,a1⟩ ?_
   refine AU.tk 4 rfl (by kernel_rfl) (fun _ _ _ h=>h) rfl rfl (fun W hW=>iI rfl rfl rfl rfl hw) (by decide) ⟨dq.bl,a1⟩ ?_
   refine AU.tk 5 rfl (by kernel_rfl) (fun _ _ _ h=>h) rfl rfl (fun W hW=>oA rfl rfl rfl (by omega) (by omega) tj) (by decide) ⟨dq.bl,a1⟩ ?_
   refine AU.tk 6 rfl (by kernel_rfl) (fun _ _ _ h=>h) rfl rfl (fun W hW=>cY rfl rfl nU) (by decide) ⟨dq.bl,a1⟩ ?_
   refine AU.tk 7 rfl (by kernel_rfl) (fun _ _ _ h=>h) rfl rfl (fun W hW=>cz rfl rfl Tryz.underlying3 rfl hW.2) (by decide) ⟨dq.bl,a1⟩ ?_
   refine AU.tk 8 rfl (by kernel_rfl) (fun _ _ _ h=>h) rfl rfl (fun W hW=>jv (vs:=[(1,.int .i64 (nth (bump p k).af k).count)]) rfl rfl (Co _)) (by decide) ⟨dq.bl,a1⟩ ?_
   refine AU.st 9 rfl (by kernel_rfl) rfl rfl rfl rfl rfl aq.bl rfl H.gz aY (fun w' ho _=>⟨(ho.block _ (by omega)).trans dq.bl,(cell_of_heap (ho.block b (fun e=>aq.k (e▸hKb)))).trans a1⟩) fun w43 TQ sM=> ?_
   replace a1:=(cell_of_heap (sM.block b (fun e=>aq.k (e▸hKb)))).trans a1
   replace H:=H.one sM aq.n aq.k aq.g
   replace HF:=HF.one sM (.inr (by omega))
   replace ax:=ax.other sM (by omega)
   replace az:=az.other sM (by omega)
   replace aw:=aw.other sM (by omega)
   replace dq:=dq.other sM (by omega)
   replace aq:=aq.put TQ
   have aj3:=Nat.le_of_eq sM.size.symm
   refine AU.st 10 rfl (by kernel_rfl) rfl rfl rfl rfl rfl aw.bl rfl (da _) aZ (fun w' ho _=>⟨(ho.block _ (by omega)).trans dq.bl,(cell_of_heap (ho.block b (fun e=>aw.k (e▸hKb)))).trans a1⟩) fun w44 TT sN=> ?_
   replace a1:=(cell_of_heap (sN.block b (fun e=>aw.k (e▸hKb)))).trans a1
   replace H:=H.one sN aw.n aw.k aw.g
   replace HF:=HF.one sN (.inr (by omega))
   replace ax:=ax.other sN (by omega)
   replace az:=az.other sN (by omega)
   replace aq:=aq.other sN (by omega)
   replace dq:=dq.other sN (by omega)
   replace aw:=aw.put TT
   have aj4:=Nat.le_of_eq sN.size.symm
   refine AU.vv 11 rfl (by kernel_rfl) rfl rfl (cO rfl rfl) (by decide) (fun h=>absurd rfl h) ?_
   refine AU.done (by kernel_rfl) (NX.next (CW.ret ?_))
   exact NX.ret (NX.fY (NX.ret (NX.oL rfl rfl rfl rfl aq.bl aw.bl Tryz.underlying37 Tryz.underlying39 rfl rfl aY aZ (mf.mk (q:=(bump p k)) rfl H HN hK HF (fun _=>by rw [aA,if_neg N0,if_neg N1,if_neg N2,if_neg N3,if_pos C,if_neg (by omega),if_neg (by omega)]) (fun h=>by cases h)))))
  case pos =>
   refine CW.seq (CW.seq (CW.region ?_))
   refine WL.vv rfl rfl (cY rfl rfl Db) (by decide) ?_
   refine WL.vv rfl rfl (cz rfl rfl Tryz.underlying3 rfl (v:= .int .i64 x.val) ((az.bl.cell 2).trans rfl)) (by decide) ?_
   refine WL.vv rfl rfl (gQ (b:=false) rfl rfl rfl rfl (by simp [bb];omega)) (by decide) ?_
   refine WL.nil (NX.next (CW.no rfl (CW.skip (NX.next ?_))))
   obtain ⟨j,m,hj,hj2,mF,hms,yD,hmo,YM⟩: ∃(j:Nat) (m:ByteArray),(#[Value.string cj,.string mStart])[j]? =some (.string m)/\j<2/\x.val=(j:Int)/\m.size<=maxLen/\eH (br m)=true/\cV (eQ (bump p k) k) (bK (br m).method)=true/\aA (k+1) p x=aA k (bump p k) (br m):=by
    by_cases v0:x.val=0
    ·exact ⟨0,cj,rfl,by omega,v0,by decide,tf.2.1,by rw [hsh.pX (by omega)];exact hr.2,by rw [aA,if_neg N0,if_neg N1,if_neg N2,if_neg N3,if_pos C,if_pos v0]⟩
    ·have v1:x.val=1:=by omega
     exact ⟨1,mStart,rfl,by omega,v1,by decide,tf.1,by rw [hsh.pX (by omega)];exact hr.1,by rw [aA,if_neg N0,if_neg N1,if_neg N2,if_neg N3,if_pos C,if_neg v0,if_pos v1]⟩
   refine CW.sub (E':=[(1,.int .i64 ((k+1:Nat):Int)),(5,.pointer (some ⟨w1.heap.size,0,none⟩)),(6,.pointer (some ⟨w2.heap.size,0,none⟩)),(7,.pointer (some ⟨w3.heap.size,0,none⟩)),(15,.pointer (some ⟨w4.heap.size,0,none⟩))]) ⟨rfl,rfl,rfl,rfl,rfl,trivial⟩ ?_
   have lo3:=ax.lt
   have lo5:=az.lt
   have lo6:=aq.lt
   have lo7:=aw.lt
   have aam:=dq.lt
   refine CW.seq (CW.any (sH (bump p k) x S1 (.slice (some ⟨b,o,none⟩) p.af.length cap) (w1.heap.size) (w4.heap.size)) 16 mo fun wd hwd cD=>⟨⟨(dq.below cD).bl,(az.below cD).bl⟩,?_⟩)
   refine abJ IH (lo:=SE.heap.size) (fun _ _ t _ _ h=>by cases t<;>exact h) hj hj2 mF (Bx hms) yD qQ (by rw [hlb];omega) hmo (by omega) (fun N2 W2 U2 b16 b17 H2 X2 dJ dQ ai0 ai1 hne hlo2=> ?_) Tm wd ⟨H.below cD,HF.bT cD,HN⟩ ⟨ax.below cD,az.below cD,aq.below cD,aw.below cD,dq.below cD,⟨lo3,lo5,lo6,lo7,aam⟩⟩ cD.size
   refine NX.next ?_
   obtain ⟨z3,z5,z6,z7,z15⟩:=X2.lt
   clear H HF HN
   have H:=H2.h
   have HF:=H2.hf
   have HN:=H2.hn
   have Q6:=X2.m6
   have Q7:=X2.m7
   refine CW.sub (E':=[(6,.pointer (some ⟨w2.heap.size,0,none⟩)),(7,.pointer (some ⟨w3.heap.size,0,none⟩)),(16,.pointer (some ⟨b16,0,none⟩)),(17,.pointer (some ⟨b17,0,none⟩))]) ⟨rfl,rfl,rfl,rfl,trivial⟩ ?_
   refine CW.seq (CW.any (fun W=>ai W b16 37 (aF (aA k (bump p k) (br m)).1 U2 (.slice (some ⟨b,o,none⟩) p.af.length cap))/\ai W b17 39 (cK (aA k (bump p k) (br m)).2)) 4 mo fun w45 hwd vf=> ?_)
   replace H:=H.below vf
   replace HF:=HF.bT vf
   replace Q6:=Q6.below vf
   replace Q7:=Q7.below vf
   replace dJ:=dJ.below vf
   replace dQ:=dQ.below vf
   have ajD:=vf.size
   clear hwd
   refine ⟨⟨dJ.bl,dQ.bl⟩,?_⟩
   refine AU.tk 0 rfl (by kernel_rfl) (fun _ _ _ h=>h) rfl rfl (fun W hW=>bh rfl rfl Tryz.underlying37 rfl hW.1 aY) (by decide) ⟨dJ.bl,dQ.bl⟩ ?_
   refine AU.tk 1 rfl (by kernel_rfl) (fun _ _ _ h=>h) rfl rfl (fun W hW=>bh rfl rfl Tryz.underlying39 rfl hW.2 aZ) (by decide) ⟨dJ.bl,dQ.bl⟩ ?_
   refine AU.st 2 rfl (by kernel_rfl) rfl rfl rfl rfl rfl Q6.bl rfl H.gz aY (fun w' ho _=>⟨(ho.block _ (by omega)).trans dJ.bl,(ho.block _ (by omega)).trans dQ.bl⟩) fun w46 TU xg=> ?_
   replace H:=H.one xg Q6.n Q6.k Q6.g
   replace HF:=HF.one xg (.inr (by omega))
   replace Q7:=Q7.other xg (by omega)
   replace dJ:=dJ.other xg (by omega)
   replace dQ:=dQ.other xg (by omega)
   replace Q6:=Q6.put TU
   have aj5:=Nat.le_of_eq xg.size.symm
   refine AU.st 3 rfl (by kernel_rfl) rfl rfl rfl rfl rfl Q7.bl rfl (da _) aZ (fun w' ho _=>⟨(ho.block _ (by omega)).trans dJ.bl,(ho.block _ (by omega)).trans dQ.bl⟩) fun w47 TV xh=> ?_
   replace H:=H.one xh Q7.n Q7.k Q7.g
   replace HF:=HF.one xh (.inr (by omega))
   replace Q6:=Q6.other xh (by omega)
   replace dJ:=dJ.other xh (by omega)
   replace dQ:=dQ.other xh (by omega)
   replace Q7:=Q7.put TV
   have aj6:=Nat.le_of_eq xh.size.symm
   refine AU.vv 4 rfl (by kernel_rfl) rfl rfl (cO rfl rfl) (by decide) (fun h=>absurd rfl h) ?_
   refine AU.done (by kernel_rfl) (NX.next (CW.ret ?_))
   exact NX.fY (NX.ret (NX.oL rfl rfl rfl rfl Q6.bl Q7.bl Tryz.underlying37 Tryz.underlying39 rfl rfl aY aZ (mf.mk (q:=(aA k (bump p k) (br m)).1) rfl H HN hK HF (fun _=>by rw [YM]) (fun h=>by cases h))))
 have hq:(decide ((nth p.af k).name=gP)&&decide (x.method=fe))=false:=by
  simp only [Bool.and_eq_false_iff,decide_eq_false_iff_not]
  by_cases h1:(nth p.af k).name=gP
  ·right;exact fun h2=>C ⟨h1,h2⟩
  ·left;exact h1
 have N4:=C
 clear C
 rw [hq]
 clear hq
 refine CW.no rfl ?_
 refine CW.sub (E':=[(1,.int .i64 ((k+1:Nat):Int)),(3,.pointer (some ⟨w.heap.size,0,none⟩)),(5,.pointer (some ⟨w1.heap.size,0,none⟩)),(6,.pointer (some ⟨w2.heap.size,0,none⟩)),(7,.pointer (some ⟨w3.heap.size,0,none⟩)),(8,.bool false),(9,.string (nth p.af k).name),(10,.bool (dz x))]) ⟨rfl,rfl,rfl,rfl,rfl,rfl,rfl,rfl,trivial⟩ ?_
 refine CW.seq (CW.region (BQ rfl rfl rfl rfl rfl rfl rfl rfl rfl rfl rfl rfl rfl rfl rfl rfl rfl rfl rfl rfl rfl rfl rfl rfl (by decide) (fun _ _ _=>rfl) (by decide) rfl Tryz.underlying9 rfl mz ((az.bl.cell 0).trans rfl) ?_))
 intro E1 aR hb1
 refine NX.next (CW.sub (E':=(181,.bool (decide ((nth p.af k).name=jK)&&decide (x.method=fc)))::[(1,.int .i64 ((k+1:Nat):Int)),(3,.pointer (some ⟨w.heap.size,0,none⟩)),(5,.pointer (some ⟨w1.heap.size,0,none⟩)),(6,.pointer (some ⟨w2.heap.size,0,none⟩)),(7,.pointer (some ⟨w3.heap.size,0,none⟩)),(8,.bool false),(9,.string (nth p.af k).name),(10,.bool (dz x))]) ⟨hb1.trans (by rw [fR,fR];rfl),(aR 1 (by decide)).trans rfl,(aR 3 (by decide)).trans rfl,(aR 5 (by decide)).trans rfl,(aR 6 (by decide)).trans rfl,(aR 7 (by decide)).trans rfl,(aR 8 (by decide)).trans rfl,(aR 9 (by decide)).trans rfl,(aR 10 (by decide)).trans rfl,trivial⟩ ?_)
 clear aR hb1
 by_cases C:(nth p.af k).name=jK/\x.method=fc
 ·have hq:(decide ((nth p.af k).name=jK)&&decide (x.method=fc))=true:=by simp [C.1,C.2]
  rw [hq]
  clear hq
  refine CW.yes rfl ?_
  have hr:=xQ (qK p k) lb (.inr (.inr C.1))
  have ox:=pI k p (br cj) hp (by omega) tf.2.1 hr.2
  have hl1:=ox.2.1.len
  have D5:cV (eQ (aA k p (br cj)).1 k) (bK (br mStart).method)=true:=by rw [ox.2.1.pX (by omega)];exact hr.1
  refine CW.sub (E':=[(1,.int .i64 ((k+1:Nat):Int)),(3,.pointer (some ⟨w.heap.size,0,none⟩)),(6,.pointer (some ⟨w2.heap.size,0,none⟩)),(7,.pointer (some ⟨w3.heap.size,0,none⟩)),(8,.bool false)]) ⟨rfl,rfl,rfl,rfl,rfl,trivial⟩ ?_
  refine CW.seq (CW.region ?_)
  refine WL.vv rfl rfl (bh rfl rfl Tryz.underlying37 rfl ax.bl aY) (by decide) ?_
  refine WL.vv rfl rfl (bf rfl rfl) (by decide) ?_
  refine WL.vv rfl rfl (iI rfl rfl rfl rfl hw) (by decide) ?_
  refine WL.vv rfl rfl (jv (vs:=[(0,.string cj)]) rfl rfl (uN _)) (by decide) ?_
  refine WL.c rfl rfl (bu (args:= #[.agg (aF p S1 (.slice (some ⟨b,o,none⟩) p.af.length cap)),.int .i64 (k:Int),.agg #[.string cj,.string cS,.int .i64 0,.string cS]]) (by kernel_rfl) rfl rfl rfl) (by decide) (IH K sr _ _ _ p (br cj) H (Bx (by decide)) hp tf.2.1 (by omega) hr.2) ?_
  rintro _ SF ⟨Us,rfl,H',yw⟩
  refine ⟨_,rfl,?_⟩
  replace H:=H'
  clear H'
  replace HF:=HF.mQ yw
  replace ax:=ax.bY yw
  replace az:=az.bY yw
  replace aq:=aq.bY yw
  replace aw:=aw.bY yw
  have aj7:=yw.size
  refine WL.vv rfl rfl (bf rfl rfl) (by decide) ?_
  refine WL.vv rfl rfl (cJ rfl rfl rfl) (by decide) ?_
  refine WL.vv rfl rfl (cJ rfl rfl rfl) (by decide) ?_
  refine WL.vv rfl rfl (bp rfl dH) (by decide) ?_
  have akZ:=ax.lt
  have ak0:=az.lt
  have ak1:=aq.lt
  have ak2:=aw.lt
  obtain ⟨w49,aih,K9,yo,Ak,H',fP,alL⟩:=H.alloc 37 aH
  change WL _ _ _ _ _ _ (SF.alloc (.cells aH 37))
  rw [<-K9]
  clear K9
  replace H:=H'
  clear H'
  replace HF:=HF.bT yo
  replace ax:=(ax.below yo).more Ak
  replace az:=(az.below yo).more Ak
  replace aq:=(aq.below yo).more Ak
  replace aw:=(aw.below yo).more Ak
  replace HN:=fun i hi=>Ak i (HN i hi)
  have aj8:=yo.size
  refine WL.vv rfl rfl (bp rfl dr) (by decide) ?_
  have ak3:=ax.lt
  have ak4:=az.lt
  have ak5:=aq.lt
  have ak6:=aw.lt
  have ak7:=fP.lt
  obtain ⟨w50,Tn,LA,vk,x8,H',gS,alM⟩:=H.alloc 39 aC
  change WL _ _ _ _ _ _ (w49.alloc (.cells aC 39))
  rw [<-LA]
  clear LA
  replace H:=H'
  clear H'
  replace HF:=HF.bT vk
  replace ax:=(ax.below vk).more x8
  replace az:=(az.below vk).more x8
  replace aq:=(aq.below vk).more x8
  replace aw:=(aw.below vk).more x8
  replace fP:=(fP.below vk).more x8
  replace HN:=fun i hi=>x8 i (HN i hi)
  have aj9:=vk.size
  refine WL.st rfl rfl rfl rfl rfl fP.bl rfl H.gz aY fun w51 TX sO=> ?_
  replace H:=H.one sO fP.n fP.k fP.g
  replace HF:=HF.one sO (.inr (by omega))
  replace ax:=ax.other sO (by omega)
  replace az:=az.other sO (by omega)
  replace aq:=aq.other sO (by omega)
  replace aw:=aw.other sO (by omega)
  replace gS:=gS.other sO (by omega)
  replace fP:=fP.put TX
  have aka:=Nat.le_of_eq sO.size.symm
  refine WL.st rfl rfl rfl rfl rfl gS.bl rfl (da _) aZ fun w52 TY sP=> ?_
  replace H:=H.one sP gS.n gS.k gS.g
  replace HF:=HF.one sP (.inr (by omega))
  replace ax:=ax.other sP (by omega)
  replace az:=az.other sP (by omega)
  replace aq:=aq.other sP (by omega)
  replace aw:=aw.other sP (by omega)
  replace fP:=fP.other sP (by omega)
  replace gS:=gS.put TY
  have akb:=Nat.le_of_eq sP.size.symm
  refine WL.nil (NX.next ?_)
  refine CW.sub (E':=[(1,.int .i64 ((k+1:Nat):Int)),(6,.pointer (some ⟨w2.heap.size,0,none⟩)),(7,.pointer (some ⟨w3.heap.size,0,none⟩)),(8,.bool false),(18,.pointer (some ⟨SF.heap.size,0,none⟩))]) ⟨rfl,rfl,rfl,rfl,rfl,trivial⟩ ?_
  refine CW.seq (CW.region ?_)
  refine WL.vv rfl rfl (bh rfl rfl Tryz.underlying37 rfl fP.bl aY) (by decide) ?_
  refine WL.vv rfl rfl (bf rfl rfl) (by decide) ?_
  refine WL.vv rfl rfl (iI rfl rfl rfl rfl hw) (by decide) ?_
  refine WL.vv rfl rfl (jv (vs:=[(0,.string mStart)]) rfl rfl (uN _)) (by decide) ?_
  refine WL.c rfl rfl (bu (args:= #[.agg (aF (aA k p (br cj)).1 Us (.slice (some ⟨b,o,none⟩) p.af.length cap)),.int .i64 (k:Int),.agg #[.string mStart,.string cS,.int .i64 0,.string cS]]) (by kernel_rfl) rfl rfl rfl) (by decide) (IH K Tn _ _ _ (aA k p (br cj)).1 (br mStart) H (Bx (by decide)) ox.1 tf.1 (by rw [hl1];omega) D5) ?_
  rintro _ Jf ⟨Ut,rfl,H',tQ⟩
  refine ⟨_,rfl,?_⟩
  replace H:=H'
  clear H'
  replace HF:=HF.mQ tQ
  replace ax:=ax.bY tQ
  replace az:=az.bY tQ
  replace aq:=aq.bY tQ
  replace aw:=aw.bY tQ
  replace fP:=fP.bY tQ
  replace gS:=gS.bY tQ
  have akc:=tQ.size
  refine WL.vv rfl rfl (bf rfl rfl) (by decide) ?_
  refine WL.vv rfl rfl (cJ rfl rfl rfl) (by decide) ?_
  refine WL.vv rfl rfl (cJ rfl rfl rfl) (by decide) ?_
  refine WL.vv rfl rfl (bp rfl dH) (by decide) ?_
  have ak8:=ax.lt
  have ak9:=az.lt
  have ala:=aq.lt
  have alb:=aw.lt
  have alc:=fP.lt
  have ald:=gS.lt
  obtain ⟨Jg,aii,LB,tJ,uZ,H',iL,alN⟩:=H.alloc 37 aH
  change WL _ _ _ _ _ _ (Jf.alloc (.cells aH 37))
  rw [<-LB]
  clear LB
  replace H:=H'
  clear H'
  replace HF:=HF.bT tJ
  replace ax:=(ax.below tJ).more uZ
  replace az:=(az.below tJ).more uZ
  replace aq:=(aq.below tJ).more uZ
  replace aw:=(aw.below tJ).more uZ
  replace fP:=(fP.below tJ).more uZ
  replace gS:=(gS.below tJ).more uZ
  replace HN:=fun i hi=>uZ i (HN i hi)
  have akd:=tJ.size
  refine WL.vv rfl rfl (bp rfl dr) (by decide) ?_
  have ale:=ax.lt
  have alf:=az.lt
  have alg:=aq.lt
  have alh:=aw.lt
  have ali:=fP.lt
  have alj:=gS.lt
  have alk:=iL.lt
  obtain ⟨w55,aij,LC,qY,tG,H',jA,alO⟩:=H.alloc 39 aC
  change WL _ _ _ _ _ _ (Jg.alloc (.cells aC 39))
  rw [<-LC]
  clear LC
  replace H:=H'
  clear H'
  replace HF:=HF.bT qY
  replace ax:=(ax.below qY).more tG
  replace az:=(az.below qY).more tG
  replace aq:=(aq.below qY).more tG
  replace aw:=(aw.below qY).more tG
  replace fP:=(fP.below qY).more tG
  replace gS:=(gS.below qY).more tG
  replace iL:=(iL.below qY).more tG
  replace HN:=fun i hi=>tG i (HN i hi)
  have ake:=qY.size
  refine WL.st rfl rfl rfl rfl rfl iL.bl rfl H.gz aY fun w56 TZ pO=> ?_
  replace H:=H.one pO iL.n iL.k iL.g
  replace HF:=HF.one pO (.inr (by omega))
  replace ax:=ax.other pO (by omega)
  replace az:=az.other pO (by omega)
  replace aq:=aq.other pO (by omega)
  replace aw:=aw.other pO (by omega)
  replace fP:=fP.other pO (by omega)
  replace gS:=gS.other pO (by omega)
  replace jA:=jA.other pO (by omega)
  replace iL:=iL.put TZ
  have akf:=Nat.le_of_eq pO.size.symm
  refine WL.st rfl rfl rfl rfl rfl jA.bl rfl (da _) aZ fun w57 T9 pP=> ?_
  replace H:=H.one pP jA.n jA.k jA.g
  replace HF:=HF.one pP (.inr (by omega))
  replace ax:=ax.other pP (by omega)
  replace az:=az.other pP (by omega)
  replace aq:=aq.other pP (by omega)
  replace aw:=aw.other pP (by omega)
  replace fP:=fP.other pP (by omega)
  replace gS:=gS.other pP (by omega)
  replace iL:=iL.other pP (by omega)
  replace jA:=jA.put T9
  have akg:=Nat.le_of_eq pP.size.symm
  refine WL.nil (NX.next ?_)
  refine CW.sub (E':=[(6,.pointer (some ⟨w2.heap.size,0,none⟩)),(7,.pointer (some ⟨w3.heap.size,0,none⟩)),(8,.bool false),(20,.pointer (some ⟨Jf.heap.size,0,none⟩)),(21,.pointer (some ⟨Jg.heap.size,0,none⟩))]) ⟨rfl,rfl,rfl,rfl,rfl,trivial⟩ ?_
  refine CW.seq (CW.any (fun W=>ai W Jf.heap.size 37 (aF (aA k (aA k p (br cj)).1 (br mStart)).1 Ut (.slice (some ⟨b,o,none⟩) p.af.length cap))/\ai W Jg.heap.size 39 (cK (aA k (aA k p (br cj)).1 (br mStart)).2)) 4 mo fun w58 hwd oU=> ?_)
  replace H:=H.below oU
  replace HF:=HF.bT oU
  replace ax:=ax.below oU
  replace az:=az.below oU
  replace aq:=aq.below oU
  replace aw:=aw.below oU
  replace fP:=fP.below oU
  replace gS:=gS.below oU
  replace iL:=iL.below oU
  replace jA:=jA.below oU
  have ajF:=oU.size
  clear hwd
  refine ⟨⟨iL.bl,jA.bl⟩,?_⟩
  refine AU.tk 0 rfl (by kernel_rfl) (fun _ _ _ h=>h) rfl rfl (fun W hW=>bh rfl rfl Tryz.underlying37 rfl hW.1 aY) (by decide) ⟨iL.bl,jA.bl⟩ ?_
  refine AU.tk 1 rfl (by kernel_rfl) (fun _ _ _ h=>h) rfl rfl (fun W hW=>bh rfl rfl Tryz.underlying39 rfl hW.2 aZ) (by decide) ⟨iL.bl,jA.bl⟩ ?_
  refine AU.st 2 rfl (by kernel_rfl) rfl rfl rfl rfl rfl aq.bl rfl H.gz aY (fun w' ho _=>⟨(ho.block _ (by omega)).trans iL.bl,(ho.block _ (by omega)).trans jA.bl⟩) fun w59 Ua pQ=> ?_
  replace H:=H.one pQ aq.n aq.k aq.g
  replace HF:=HF.one pQ (.inr (by omega))
  replace ax:=ax.other pQ (by omega)
  replace az:=az.other pQ (by omega)
  replace aw:=aw.other pQ (by omega)
  replace fP:=fP.other pQ (by omega)
  replace gS:=gS.other pQ (by omega)
  replace iL:=iL.other pQ (by omega)
  replace jA:=jA.other pQ (by omega)
  replace aq:=aq.put Ua
  have akh:=Nat.le_of_eq pQ.size.symm
  refine AU.st 3 rfl (by kernel_rfl) rfl rfl rfl rfl rfl aw.bl rfl (da _) aZ (fun w' ho _=>⟨(ho.block _ (by omega)).trans iL.bl,(ho.block _ (by omega)).trans jA.bl⟩) fun w60 Ub pR=> ?_
  replace H:=H.one pR aw.n aw.k aw.g
  replace HF:=HF.one pR (.inr (by omega))
  replace ax:=ax.other pR (by omega)
  replace az:=az.other pR (by omega)
  replace aq:=aq.other pR (by omega)
  replace fP:=fP.other pR (by omega)
  replace gS:=gS.other pR (by omega)
  replace iL:=iL.other pR (by omega)
  replace jA:=jA.other pR (by omega)
  replace aw:=aw.put Ub
  have aki:=Nat.le_of_eq pR.size.symm
  refine AU.vv 4 rfl (by kernel_rfl) rfl rfl (cO rfl rfl) (by decide) (fun h=>absurd rfl h) ?_
  refine AU.done (by kernel_rfl) (NX.next (CW.ret ?_))
  exact NX.fY (NX.ret (NX.oL rfl rfl rfl rfl aq.bl aw.bl Tryz.underlying37 Tryz.underlying39 rfl rfl aY aZ (mf.mk (q:=(aA k (aA k p (br cj)).1 (br mStart)).1) rfl H HN hK HF (fun _=>by rw [aA,if_neg N0,if_neg N1,if_neg N2,if_neg N3,if_neg N4,if_pos C]) (fun h=>by cases h))))
 have hq:(decide ((nth p.af k).name=jK)&&decide (x.method=fc))=false:=by
  simp only [Bool.and_eq_false_iff,decide_eq_false_iff_not]
  by_cases h1:(nth p.af k).name=jK
  ·right;exact fun h2=>C ⟨h1,h2⟩
  ·left;exact h1
 have N5:=C
 clear C
 rw [hq]
 clear hq
 refine CW.no rfl ?_
 refine CW.sub (E':=[(1,.int .i64 ((k+1:Nat):Int)),(3,.pointer (some ⟨w.heap.size,0,none⟩)),(5,.pointer (some ⟨w1.heap.size,0,none⟩)),(6,.pointer (some ⟨w2.heap.size,0,none⟩)),(7,.pointer (some ⟨w3.heap.size,0,none⟩)),(8,.bool false),(9,.string (nth p.af k).name),(10,.bool (dz x))]) ⟨rfl,rfl,rfl,rfl,rfl,rfl,rfl,rfl,trivial⟩ ?_
 refine CW.seq (CW.region (BQ rfl rfl rfl rfl rfl rfl rfl rfl rfl rfl rfl rfl rfl rfl rfl rfl rfl rfl rfl rfl rfl rfl rfl rfl (by decide) (fun _ _ _=>rfl) (by decide) rfl Tryz.underlying9 rfl mz ((az.bl.cell 0).trans rfl) ?_))
 intro E1 aR hb1
 refine NX.next (CW.sub (E':=(207,.bool (decide ((nth p.af k).name=jP)&&decide (x.method=ep)))::[(1,.int .i64 ((k+1:Nat):Int)),(3,.pointer (some ⟨w.heap.size,0,none⟩)),(5,.pointer (some ⟨w1.heap.size,0,none⟩)),(6,.pointer (some ⟨w2.heap.size,0,none⟩)),(7,.pointer (some ⟨w3.heap.size,0,none⟩)),(8,.bool false),(9,.string (nth p.af k).name),(10,.bool (dz x))]) ⟨hb1.trans (by rw [fR,fR];rfl),(aR 1 (by decide)).trans rfl,(aR 3 (by decide)).trans rfl,(aR 5 (by decide)).trans rfl,(aR 6 (by decide)).trans rfl,(aR 7 (by decide)).trans rfl,(aR 8 (by decide)).trans rfl,(aR 9 (by decide)).trans rfl,(aR 10 (by decide)).trans rfl,trivial⟩ ?_)
 clear aR hb1
 by_cases C:(nth p.af k).name=jP/\x.method=ep
 ·have hq:(decide ((nth p.af k).name=jP)&&decide (x.method=ep))=true:=by simp [C.1,C.2]
  rw [hq]
  clear hq
  refine CW.yes rfl ?_
  have lS:cV (eQ p k) (bK x.method)=true:=by rcases hsub with h|h|h|h;exact absurd h N0;exact absurd h N4;exact absurd h N5;exact h
  refine CW.sub (E':=[(1,.int .i64 ((k+1:Nat):Int)),(3,.pointer (some ⟨w.heap.size,0,none⟩)),(5,.pointer (some ⟨w1.heap.size,0,none⟩)),(6,.pointer (some ⟨w2.heap.size,0,none⟩)),(7,.pointer (some ⟨w3.heap.size,0,none⟩)),(8,.bool false)]) ⟨rfl,rfl,rfl,rfl,rfl,rfl,trivial⟩ ?_
  refine CW.seq (CW.region ?_)
  refine WL.vv rfl rfl (bh rfl rfl Tryz.underlying37 rfl ax.bl aY) (by decide) ?_
  refine WL.vv rfl rfl (bf rfl rfl) (by decide) ?_
  refine WL.vv rfl rfl (iI rfl rfl rfl rfl hw) (by decide) ?_
  refine WL.vv rfl rfl (bh rfl rfl Tryz.underlying43 rfl az.bl kG) (by decide) ?_
  refine WL.c rfl rfl (bu (args:= #[.agg (aF p S1 (.slice (some ⟨b,o,none⟩) p.af.length cap)),.int .i64 (k:Int),.agg #[.string x.method,.string x.key,.int .i64 x.val,.string x.text]]) (by kernel_rfl) rfl rfl rfl) (by decide) (IH K sr _ _ _ p x H hx hp hc (by omega) lS) ?_
  rintro _ wR ⟨JK,rfl,H',yx⟩
  refine ⟨_,rfl,?_⟩
  replace H:=H'
  clear H'
  replace HF:=HF.mQ yx
  replace ax:=ax.bY yx
  replace az:=az.bY yx
  replace aq:=aq.bY yx
  replace aw:=aw.bY yx
  have akj:=yx.size
  refine WL.vv rfl rfl (bf rfl rfl) (by decide) ?_
  refine WL.vv rfl rfl (cJ rfl rfl rfl) (by decide) ?_
  refine WL.vv rfl rfl (cJ rfl rfl rfl) (by decide) ?_
  refine WL.vv rfl rfl (bp rfl dH) (by decide) ?_
  have alm:=ax.lt
  have aln:=az.lt
  have alo:=aq.lt
  have alp:=aw.lt
  obtain ⟨pK,aik,LD,yp,Al,H',eK,alP⟩:=H.alloc 37 aH
  change WL _ _ _ _ _ _ (wR.alloc (.cells aH 37))
  rw [<-LD]
  clear LD
  replace H:=H'
  clear H'
  replace HF:=HF.bT yp
  replace ax:=(ax.below yp).more Al
  replace az:=(az.below yp).more Al
  replace aq:=(aq.below yp).more Al
  replace aw:=(aw.below yp).more Al
  replace HN:=fun i hi=>Al i (HN i hi)
  have akk:=yp.size
  refine WL.vv rfl rfl (bp rfl dr) (by decide) ?_
  have alq:=ax.lt
  have alr:=az.lt
  have als:=aq.lt
  have alu:=aw.lt
  have alv:=eK.lt
  obtain ⟨w63,ail,LF,vl,yc,H',dP,alQ⟩:=H.alloc 39 aC
  change WL _ _ _ _ _ _ (pK.alloc (.cells aC 39))
  rw [<-LF]
  clear LF
  replace H:=H'
  clear H'
  replace HF:=HF.bT vl
  replace ax:=(ax.below vl).more yc
  replace az:=(az.below vl).more yc
  replace aq:=(aq.below vl).more yc
  replace aw:=(aw.below vl).more yc
  replace eK:=(eK.below vl).more yc
  replace HN:=fun i hi=>yc i (HN i hi)
  have akl:=vl.size
  refine WL.st rfl rfl rfl rfl rfl eK.bl rfl H.gz aY fun w64 Uc sQ=> ?_
  replace H:=H.one sQ eK.n eK.k eK.g
  replace HF:=HF.one sQ (.inr (by omega))
  replace ax:=ax.other sQ (by omega)
  replace az:=az.other sQ (by omega)
  replace aq:=aq.other sQ (by omega)
  replace aw:=aw.other sQ (by omega)
  replace dP:=dP.other sQ (by omega)
  replace eK:=eK.put Uc
  have akm:=Nat.le_of_eq sQ.size.symm
  refine WL.st rfl rfl rfl rfl rfl dP.bl rfl (da _) aZ fun w65 Ud sR=> ?_
  replace H:=H.one sR dP.n dP.k dP.g
  replace HF:=HF.one sR (.inr (by omega))
  replace ax:=ax.other sR (by omega)
  replace az:=az.other sR (by omega)
  replace aq:=aq.other sR (by omega)
  replace aw:=aw.other sR (by omega)
  replace eK:=eK.other sR (by omega)
  replace dP:=dP.put Ud
  have akn:=Nat.le_of_eq sR.size.symm
  refine WL.nil (NX.next ?_)
  refine CW.sub (E':=[(6,.pointer (some ⟨w2.heap.size,0,none⟩)),(7,.pointer (some ⟨w3.heap.size,0,none⟩)),(8,.bool false),(22,.pointer (some ⟨wR.heap.size,0,none⟩)),(23,.pointer (some ⟨pK.heap.size,0,none⟩))]) ⟨rfl,rfl,rfl,rfl,rfl,trivial⟩ ?_
  by_cases h2:(aA k p x).2.code=0
  ·refine CW.seq (CW.seq (CW.region ?_))
   refine WL.vv rfl rfl (cY rfl rfl xO) (by decide) ?_
   refine WL.vv rfl rfl (cz rfl rfl Tryz.underlying3 rfl (v:= .int .i64 (aA k p x).2.code) ((dP.bl.cell 0).trans rfl)) (by decide) ?_
   refine WL.vv rfl rfl (gQ (b:=true) rfl rfl rfl rfl (by simp [bb,h2])) (by decide) ?_
   refine WL.nil (NX.next (CW.yes rfl ?_))
   refine CW.sub (E':=[(6,.pointer (some ⟨w2.heap.size,0,none⟩)),(7,.pointer (some ⟨w3.heap.size,0,none⟩)),(8,.bool false),(22,.pointer (some ⟨wR.heap.size,0,none⟩)),(23,.pointer (some ⟨pK.heap.size,0,none⟩))]) ⟨rfl,rfl,rfl,rfl,rfl,trivial⟩ ?_
   refine CW.region ?_
   refine WL.vv rfl rfl (cY rfl rfl De) (by decide) ?_
   refine WL.vv rfl rfl (cz rfl rfl Tryz.underlying3 rfl (v:= .int .i64 (aA k p x).2.val) ((dP.bl.cell 1).trans rfl)) (by decide) ?_
   refine WL.vv rfl rfl (iI rfl rfl rfl rfl rfl) (by decide) ?_
   refine WL.c rfl rfl (bu (args:= #[.int .i64 (IntKind.i64.wrap (2*(aA k p x).2.val)),.int .i64 999]) (by kernel_rfl) rfl rfl rfl) (by decide) (ahZ H _ (ah3 _)) ?_
   rintro _ Jh ⟨rfl,qZ⟩
   refine ⟨_,rfl,?_⟩
   replace H:=H.below qZ
   replace HF:=HF.bT qZ
   replace ax:=ax.below qZ
   replace az:=az.below qZ
   replace aq:=aq.below qZ
   replace aw:=aw.below qZ
   replace eK:=eK.below qZ
   replace dP:=dP.below qZ
   have ajG:=qZ.size
   refine WL.vv rfl rfl (cY rfl rfl De) (by decide) ?_
   refine WL.s rfl rfl (y8 rfl rfl rfl yO rfl ((dP.bl.cell 1).trans rfl) (dP.bl.frozen _)) ?_
   have qC:=(fD.refl Jh (pK.heap.size)).set 1 (.int .i64 (min (IntKind.i64.wrap (2*(aA k p x).2.val)) 999))
   have Ci:=dP.bl.uj 1 (.int .i64 (min (IntKind.i64.wrap (2*(aA k p x).2.val)) 999))
   obtain ⟨w67,LG⟩: ∃z,z=Jh.setCell ⟨pK.heap.size,1,none⟩ (.int .i64 (min (IntKind.i64.wrap (2*(aA k p x).2.val)) 999)):=⟨_,rfl⟩
   change WL _ _ _ _ _ _ (Jh.setCell ⟨pK.heap.size,1,none⟩ (.int .i64 (min (IntKind.i64.wrap (2*(aA k p x).2.val)) 999)))
   rw [<-LG] at qC Ci ⊢
   clear LG
   replace Ci:ai w67 (pK.heap.size) 39 (cK ⟨(aA k p x).2.code,(min (IntKind.i64.wrap (2*(aA k p x).2.val)) 999),(aA k p x).2.text,(aA k p x).2.want,(aA k p x).2.had⟩):=Ci
   replace H:=H.one qC dP.n dP.k dP.g
   replace HF:=HF.one qC (.inr (by omega))
   replace ax:=ax.other qC (by omega)
   replace az:=az.other qC (by omega)
   replace aq:=aq.other qC (by omega)
   replace aw:=aw.other qC (by omega)
   replace eK:=eK.other qC (by omega)
   replace dP:=dP.put Ci
   have ako:=Nat.le_of_eq qC.size.symm
   refine WL.nil (NX.next ?_)
   refine CW.sub (E':=[(6,.pointer (some ⟨w2.heap.size,0,none⟩)),(7,.pointer (some ⟨w3.heap.size,0,none⟩)),(8,.bool false),(22,.pointer (some ⟨wR.heap.size,0,none⟩)),(23,.pointer (some ⟨pK.heap.size,0,none⟩))]) ⟨rfl,rfl,rfl,rfl,rfl,trivial⟩ ?_
   refine CW.seq (CW.any (fun W=>ai W wR.heap.size 37 (aF (aA k p x).1 JK (.slice (some ⟨b,o,none⟩) p.af.length cap))/\ai W pK.heap.size 39 (cK (⟨(aA k p x).2.code,(min (IntKind.i64.wrap (2*(aA k p x).2.val)) 999),(aA k p x).2.text,(aA k p x).2.want,(aA k p x).2.had⟩:dW))) 4 mo fun w68 hwd q9=> ?_)
   replace H:=H.below q9
   replace HF:=HF.bT q9
   replace ax:=ax.below q9
   replace az:=az.below q9
   replace aq:=aq.below q9
   replace aw:=aw.below q9
   replace eK:=eK.below q9
   replace dP:=dP.below q9
   have ajH:=q9.size
   clear hwd
   refine ⟨⟨eK.bl,dP.bl⟩,?_⟩
   refine AU.tk 0 rfl (by kernel_rfl) (fun _ _ _ h=>h) rfl rfl (fun W hW=>bh rfl rfl Tryz.underlying37 rfl hW.1 aY) (by decide) ⟨eK.bl,dP.bl⟩ ?_
   refine AU.tk 1 rfl (by kernel_rfl) (fun _ _ _ h=>h) rfl rfl (fun W hW=>bh rfl rfl Tryz.underlying39 rfl hW.2 aZ) (by decide) ⟨eK.bl,dP.bl⟩ ?_
   refine AU.st 2 rfl (by kernel_rfl) rfl rfl rfl rfl rfl aq.bl rfl H.gz aY (fun w' ho _=>⟨(ho.block _ (by omega)).trans eK.bl,(ho.block _ (by omega)).trans dP.bl⟩) fun w69 Ue sS=> ?_
   replace H:=H.one sS aq.n aq.k aq.g
   replace HF:=HF.one sS (.inr (by omega))
   replace ax:=ax.other sS (by omega)
   replace az:=az.other sS (by omega)
   replace aw:=aw.other sS (by omega)
   replace eK:=eK.other sS (by omega)
   replace dP:=dP.other sS (by omega)
   replace aq:=aq.put Ue
   have akp:=Nat.le_of_eq sS.size.symm
   refine AU.st 3 rfl (by kernel_rfl) rfl rfl rfl rfl rfl aw.bl rfl (da _) aZ (fun w' ho _=>⟨(ho.block _ (by omega)).trans eK.bl,(ho.block _ (by omega)).trans dP.bl⟩) fun w70 Ug sU=> ?_
   replace H:=H.one sU aw.n aw.k aw.g
   replace HF:=HF.one sU (.inr (by omega))
   replace ax:=ax.other sU (by omega)
   replace az:=az.other sU (by omega)
   replace aq:=aq.other sU (by omega)
   replace eK:=eK.other sU (by omega)
   replace dP:=dP.other sU (by omega)
   replace aw:=aw.put Ug
   have akq:=Nat.le_of_eq sU.size.symm
   refine AU.vv 4 rfl (by kernel_rfl) rfl rfl (cO rfl rfl) (by decide) (fun h=>absurd rfl h) ?_
   refine AU.done (by kernel_rfl) (NX.next (CW.ret ?_))
   exact NX.fY (NX.ret (NX.oL rfl rfl rfl rfl aq.bl aw.bl Tryz.underlying37 Tryz.underlying39 rfl rfl aY aZ (mf.mk (q:=(aA k p x).1) rfl H HN hK HF (fun _=>by rw [aA,if_neg N0,if_neg N1,if_neg N2,if_neg N3,if_neg N4,if_neg N5,if_pos C.1];unfold wO;rw [if_pos h2]) (fun h=>by cases h))))
  ·refine CW.seq (CW.seq (CW.region ?_))
   refine WL.vv rfl rfl (cY rfl rfl xO) (by decide) ?_
   refine WL.vv rfl rfl (cz rfl rfl Tryz.underlying3 rfl (v:= .int .i64 (aA k p x).2.code) ((dP.bl.cell 0).trans rfl)) (by decide) ?_
   refine WL.vv rfl rfl (gQ (b:=false) rfl rfl rfl rfl (by simp [bb,h2])) (by decide) ?_
   refine WL.nil (NX.next (CW.no rfl (CW.skip (NX.next ?_))))
   refine CW.sub (E':=[(6,.pointer (some ⟨w2.heap.size,0,none⟩)),(7,.pointer (some ⟨w3.heap.size,0,none⟩)),(8,.bool false),(22,.pointer (some ⟨wR.heap.size,0,none⟩)),(23,.pointer (some ⟨pK.heap.size,0,none⟩))]) ⟨rfl,rfl,rfl,rfl,rfl,trivial⟩ ?_
   refine CW.seq (CW.any (fun W=>ai W wR.heap.size 37 (aF (aA k p x).1 JK (.slice (some ⟨b,o,none⟩) p.af.length cap))/\ai W pK.heap.size 39 (cK (aA k p x).2)) 4 mo fun w71 hwd rl=> ?_)
   replace H:=H.below rl
   replace HF:=HF.bT rl
   replace ax:=ax.below rl
   replace az:=az.below rl
   replace aq:=aq.below rl
   replace aw:=aw.below rl
   replace eK:=eK.below rl
   replace dP:=dP.below rl
   have ajJ:=rl.size
   clear hwd
   refine ⟨⟨eK.bl,dP.bl⟩,?_⟩
   refine AU.tk 0 rfl (by kernel_rfl) (fun _ _ _ h=>h) rfl rfl (fun W hW=>bh rfl rfl Tryz.underlying37 rfl hW.1 aY) (by decide) ⟨eK.bl,dP.bl⟩ ?_
   refine AU.tk 1 rfl (by kernel_rfl) (fun _ _ _ h=>h) rfl rfl (fun W hW=>bh rfl rfl Tryz.underlying39 rfl hW.2 aZ) (by decide) ⟨eK.bl,dP.bl⟩ ?_
   refine AU.st 2 rfl (by kernel_rfl) rfl rfl rfl rfl rfl aq.bl rfl H.gz aY (fun w' ho _=>⟨(ho.block _ (by omega)).trans eK.bl,(ho.block _ (by omega)).trans dP.bl⟩) fun w72 Uh sV=> ?_
   replace H:=H.one sV aq.n aq.k aq.g
   replace HF:=HF.one sV (.inr (by omega))
   replace ax:=ax.other sV (by omega)
   replace az:=az.other sV (by omega)
   replace aw:=aw.other sV (by omega)
   replace eK:=eK.other sV (by omega)
   replace dP:=dP.other sV (by omega)
   replace aq:=aq.put Uh
   have akr:=Nat.le_of_eq sV.size.symm
   refine AU.st 3 rfl (by kernel_rfl) rfl rfl rfl rfl rfl aw.bl rfl (da _) aZ (fun w' ho _=>⟨(ho.block _ (by omega)).trans eK.bl,(ho.block _ (by omega)).trans dP.bl⟩) fun w73 Ui sW=> ?_
   replace H:=H.one sW aw.n aw.k aw.g
   replace HF:=HF.one sW (.inr (by omega))
   replace ax:=ax.other sW (by omega)
   replace az:=az.other sW (by omega)
   replace aq:=aq.other sW (by omega)
   replace eK:=eK.other sW (by omega)
   replace dP:=dP.other sW (by omega)
   replace aw:=aw.put Ui
   have aks:=Nat.le_of_eq sW.size.symm
   refine AU.vv 4 rfl (by kernel_rfl) rfl rfl (cO rfl rfl) (by decide) (fun h=>absurd rfl h) ?_
   refine AU.done (by kernel_rfl) (NX.next (CW.ret ?_))
   exact NX.fY (NX.ret (NX.oL rfl rfl rfl rfl aq.bl aw.bl Tryz.underlying37 Tryz.underlying39 rfl rfl aY aZ (mf.mk (q:=(aA k p x).1) rfl H HN hK HF (fun _=>by rw [aA,if_neg N0,if_neg N1,if_neg N2,if_neg N3,if_neg N4,if_neg N5,if_pos C.1];unfold wO;rw [if_neg h2]) (fun h=>by cases h))))
 have hq:(decide ((nth p.af k).name=jP)&&decide (x.method=ep))=false:=by
  simp only [Bool.and_eq_false_iff,decide_eq_false_iff_not]
  by_cases h1:(nth p.af k).name=jP
  ·right;exact fun h2=>C ⟨h1,h2⟩
  ·left;exact h1
 have N6:=C
 clear C
 rw [hq]
 clear hq
 refine CW.no rfl ?_
 refine CW.sub (E':=[(1,.int .i64 ((k+1:Nat):Int)),(3,.pointer (some ⟨w.heap.size,0,none⟩)),(5,.pointer (some ⟨w1.heap.size,0,none⟩)),(6,.pointer (some ⟨w2.heap.size,0,none⟩)),(7,.pointer (some ⟨w3.heap.size,0,none⟩)),(8,.bool false),(9,.string (nth p.af k).name),(10,.bool (dz x))]) ⟨rfl,rfl,rfl,rfl,rfl,rfl,rfl,rfl,trivial⟩ ?_
 refine CW.skip (NX.Ib (NX.next ?_))
 refine CW.sub (E':=[(3,.pointer (some ⟨w.heap.size,0,none⟩)),(6,.pointer (some ⟨w2.heap.size,0,none⟩)),(7,.pointer (some ⟨w3.heap.size,0,none⟩)),(8,.bool false)]) ⟨rfl,rfl,rfl,rfl,trivial⟩ ?_
 have lS:cV (eQ p k) (bK x.method)=true:=by rcases hsub with h|h|h|h;exact absurd h N0;exact absurd h N4;exact absurd h N5;exact h
 have hT: ¬(nth p.af k).name=jP:=fun e=>N6 ⟨e,adv (xx hc) (by rw [<-e];exact ho')⟩
 refine CW.seq (CW.region ?_)
 refine WL.vv rfl rfl (bh rfl rfl Tryz.underlying37 rfl ax.bl aY) (by decide) ?_
 refine WL.vv rfl rfl (jv (vs:=[]) rfl rfl UJ) (by decide) ?_
 refine WL.st rfl rfl rfl rfl rfl aq.bl rfl H.gz aY fun w74 Uj xj=> ?_
 replace H:=H.one xj aq.n aq.k aq.g
 replace HF:=HF.one xj (.inr (by omega))
 replace ax:=ax.other xj (by omega)
 replace az:=az.other xj (by omega)
 replace aw:=aw.other xj (by omega)
 replace aq:=aq.put Uj
 have akt:=Nat.le_of_eq xj.size.symm
 refine WL.st rfl rfl rfl rfl rfl aw.bl rfl (da _) aZ fun w75 Uk xk=> ?_
 replace H:=H.one xk aw.n aw.k aw.g
 replace HF:=HF.one xk (.inr (by omega))
 replace ax:=ax.other xk (by omega)
 replace az:=az.other xk (by omega)
 replace aq:=aq.other xk (by omega)
 replace aw:=aw.put Uk
 have aku:=Nat.le_of_eq xk.size.symm
 refine WL.vv rfl rfl (cO rfl rfl) (by decide) ?_
 refine WL.nil (NX.next (CW.ret ?_))
 exact NX.oL rfl rfl rfl rfl aq.bl aw.bl Tryz.underlying37 Tryz.underlying39 rfl rfl aY aZ (mf.mk (q:=p) rfl H HN hK HF (fun h=>by cases h) (fun _=>⟨rfl,by rw [aA,if_neg N0,if_neg N1,if_neg N2,if_neg N3,if_neg N4,if_neg N5,if_neg hT],lS⟩))
end Go.Proofs.YtimickglpboilaaGreatDoor
