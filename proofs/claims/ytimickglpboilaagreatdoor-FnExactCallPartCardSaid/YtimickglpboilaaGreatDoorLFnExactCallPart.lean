/- FnExactCallPart holds for every input, in every start where the variables hold what the program's text lays: the law walked over the contracts of what it calls, with marks written into the argument's copy and into the answer; the row; the card. -/
import Derived.Test.YtimickglpboilaaGreatDoorF23
namespace Go.Proofs.YtimickglpboilaaGreatDoor.lawFnExactCallPart
open Go.ChangeShapes Go.WideShapes Go.ChangeAt Go.RowKit Go
set_option linter.unusedVariables false
set_option linter.unusedSimpArgs false
set_option maxRecDepth 100000
instance instGC:GC where
 inv:=fun w=>ko w 1 (fun cs=> ∃tp p,cs= #[.iface tp p])/\ko w 0 (fun cs=> ∃m,cs[0]? =some (Value.int .i64 m))/\ko w 3 (fun cs=>cs=(Lib.pow10Tab.map fun z=>Value.int .u64 z).toArray)
 ng:=3+1
 keep:=fun h k=>⟨k.1.keep (by decide) h,k.2.1.keep (by decide) h,k.2.2.keep (by decide) h⟩
instance :pN:=⟨fun _ h=>h.1⟩
instance :nN:=⟨fun _ h=>h.2.1⟩
instance :mi:=⟨fun _ h=>h.2.2⟩
theorem start{W:World}(hsh:W.ShapedOpen Tryz.prog)(hL:laidMet Tryz.prog Rows.fnExactCallPartRow.laid W):kp W/\NG<=W.heap.size:=by
 have h:=acT (by kernel_rfl) hL.tail.tail
 exact ⟨⟨acR (by kernel_rfl) hL.tail.tail.tail.tail.tail,acS hsh,h⟩,Xf h⟩
theorem Bf:(Tryz.prog.info? 27).map (·.size)=some 6:=by kernel_rfl
theorem DS:(Tryz.prog.info? 29).map (·.size)=some 4:=by kernel_rfl
theorem OP.one{lo hi:Nat}{w:World}{S1 S2:Value}{p:Part}(h:OP lo hi w S1 S2 p): ∀u∈(aF p S1 S2).toList,u.oneCell'=true:=by
 obtain ⟨g1,q1⟩:=h.r1
 obtain ⟨g2,q2⟩:=h.r2
 obtain ⟨a,c,rfl,_⟩:=q1.ou
 obtain ⟨a',c',rfl,_⟩:=q2.ou
 exact vW _
theorem VW{p:Part}{x:Call}(h1:p.core.cells.length<=1048576)(h2:p.af.length<=1048576):(bq p x).1.core.cells.length<=1048576/\(bq p x).1.af.length<=1048576:=by
 by_cases hp:fj p=true
 ·have:=ac5 (VV hp x).1
  unfold IM at this;omega
 ·rw [Kt (.inl (by simpa using hp))];exact ⟨h1,h2⟩
theorem ac4{x:Call}(h:Sm.sm x):x.text.size<=1048576:=by
 exact (ac2.1 h).2.2
set_option maxHeartbeats 8000000 in
theorem walk(p:Part)(x:Call)(w:World)(hG:Rd w)(vp vx:Value)(hv:R w (fun _=>False) (enc p) vp)(hx:R w (fun _=>False) (enc x) vx) :
  Calls Tryz.prog 3 #[vp,vx] w fun e w'=>e= .returned (.bool true)/\Below w.heap.size w w':=by
 obtain ⟨A1,A2,rfl, -, -, -, -⟩:=qk hv
 obtain ⟨rfl, -, -, -⟩:=Cy hx
 change R w _ (enc p) (.agg (aF p A1 A2)) at hv
 obtain ⟨_,⟨m0,rfl,_,p0,q0⟩,hz⟩:=aib p 1048576 (by omega) (by omega)
 have hb0:m0<0\/0<=m0:=by omega
 have Tf: ∀(w0:World),Rd w0->R w0 (fun _=>False) (enc p) (.agg (aF p A1 A2))->_:=fun w0 hG h=>aG.calls hz hG (vs:=[.agg (aF p A1 A2),.int .i64 1048576]) ⟨_,_,rfl,h,_,[],rfl,Be (by omega) (by omega),rfl⟩
 have hp0:=p0
 clear p0
 have HV:=R.over hv
 have HG:=hG
 have hxz: ∀{W:World},R W (fun _=>False) (enc x) (cm x):=fun {W}=>Cw hx
 refine pT (E:=[(0,.agg (aF p A1 A2)),(1,cm x)]) Tryz.func3 rfl Tryz.ntmps3 (by simp) (by simp [aF]) ?_
 refine CW.seq (CW.region ?_)
 refine WL.vv rfl rfl (ju rfl rfl) (by decide) ?_
 refine WL.vv rfl rfl (ju rfl rfl) (by decide) ?_
 refine WL.vv rfl rfl (cO rfl rfl) (by decide) ?_
 refine WL.nil (NX.next ?_)
 show CW _ Tryz.prog _ _ _ ((w.alloc (.cells (aF p A1 A2) 27)).alloc (.cells #[.string x.method,.string x.key,.int .i64 x.val,.string x.text] 29))
 refine CW.sub (E':=[(2,.pointer (some ⟨w.heap.size,0,none⟩)),(3,.pointer (some ⟨(w.heap.size+1),0,none⟩))]) ⟨rfl,by simp only [World.size_alloc];rfl,trivial⟩ ?_
 have HB:Below w.heap.size w ((w.alloc (.cells (aF p A1 A2) 27)).alloc (.cells #[.string x.method,.string x.key,.int .i64 x.val,.string x.text] 29)):=bt (cU w (aF p A1 A2) 27) (cU _ #[.string x.method,.string x.key,.int .i64 x.val,.string x.text] 29)
 have p0:=(ai.new w 27 (aF p A1 A2)).alloc (.cells #[.string x.method,.string x.key,.int .i64 x.val,.string x.text] 29)
 have p1:=ai.new (w.alloc (.cells (aF p A1 A2) 27)) 29 #[.string x.method,.string x.key,.int .i64 x.val,.string x.text]
 simp only [World.size_alloc] at p1
 generalize (w.alloc (.cells (aF p A1 A2) 27)).alloc (.cells #[.string x.method,.string x.key,.int .i64 x.val,.string x.text] 29)=w0 at HB p0 p1 ⊢
 replace HV:=eC HV HB
 replace HG:=HG.below HB
 have M9:=hG.2.2
 have le0:=p1.lt
 clear hv
 refine CW.seq (CW.region ?_)
 refine WL.vv rfl rfl (cO rfl rfl) (by decide) ?_
 refine WL.nil (NX.next ?_)
 refine CW.sub (E':=[(2,.pointer (some ⟨w.heap.size,0,none⟩)),(3,.pointer (some ⟨(w.heap.size+1),0,none⟩)),(5,.int .i64 1048576)]) ⟨rfl,rfl,rfl,trivial⟩ ?_
 refine CW.seq (CW.region ?_)
 refine WL.vv rfl rfl (bh rfl rfl Tryz.underlying27 rfl p0 Bf) (by decide) ?_
 refine WL.vv rfl rfl (bf rfl rfl) (by decide) ?_
 refine WL.c rfl rfl (bu (args:= #[.agg (aF p A1 A2),.int .i64 1048576]) (by kernel_rfl) rfl rfl rfl) (by decide) (Tf w0 HG HV.zero) ?_
 rintro _ w1 ⟨_,rfl,⟨rfl, -⟩,hb1⟩
 have Hu:=hb1.size
 replace HG:=HG.below hb1
 replace HV:=eC HV hb1
 replace p0:=p0.below hb1 p0.lt
 replace p1:=p1.below hb1 p1.lt
 replace HB:=bt HB hb1
 refine ⟨_,rfl,?_⟩
 refine WL.vv rfl rfl (cO rfl rfl) (by decide) ?_
 refine WL.nil (NX.next ?_)
 refine CW.sub (E':=[(2,.pointer (some ⟨w.heap.size,0,none⟩)),(3,.pointer (some ⟨(w.heap.size+1),0,none⟩)),(5,.int .i64 m0)]) ⟨rfl,rfl,rfl,trivial⟩ ?_
 rcases hb0 with hneg|hpos
 ·refine CW.seq (CW.seq (CW.region ?_))
  refine WL.vv rfl rfl (bf rfl rfl) (by decide) ?_
  refine WL.vv rfl rfl (gQ (b:=true) rfl rfl rfl rfl (by simp [bb]<;>omega)) (by decide) ?_
  refine WL.nil (NX.next (CW.yes rfl (CW.seq (CW.region ?_))))
  refine WL.vv rfl rfl (cO rfl rfl) (by decide) ?_
  exact WL.nil (NX.next (CW.ret (NX.ret (NX.zM rfl rfl ⟨rfl,HB⟩))))
 have s0:=q0 (by omega)
 obtain ⟨_,⟨m1,rfl,_,p1',q1⟩,hz2⟩:=ah5 x m0 (by omega) (by omega)
 have hb1:m1<0\/0<=m1:=by omega
 have Tg: ∀(w0:World),Rd w0->_:=fun w0 hG=>aG.calls hz2 hG (vs:=[cm x,.int .i64 m0]) ⟨_,_,rfl,hxz,_,[],rfl,Be (by omega) (by omega),rfl⟩
 clear p1'
 refine CW.seq (CW.seq (CW.region ?_))
 refine WL.vv rfl rfl (bf rfl rfl) (by decide) ?_
 refine WL.vv rfl rfl (gQ (b:=false) rfl rfl rfl rfl (by simp [bb]<;>omega)) (by decide) ?_
 refine WL.nil (NX.next (CW.no rfl (CW.skip (NX.next ?_))))
 refine CW.sub (E':=[(2,.pointer (some ⟨w.heap.size,0,none⟩)),(3,.pointer (some ⟨(w.heap.size+1),0,none⟩)),(5,.int .i64 m0)]) ⟨rfl,rfl,rfl,trivial⟩ ?_
 refine CW.seq (CW.region ?_)
 refine WL.vv rfl rfl (bh rfl rfl Tryz.underlying29 rfl p1 DS) (by decide) ?_
 refine WL.vv rfl rfl (bf rfl rfl) (by decide) ?_
 refine WL.c rfl rfl (bu (args:= #[.agg #[.string x.method,.string x.key,.int .i64 x.val,.string x.text],.int .i64 m0]) (by kernel_rfl) rfl rfl rfl) (by decide) (Tg w1 HG) ?_
 rintro _ w2 ⟨_,rfl,⟨rfl, -⟩,hb2⟩
 have DY:=hb2.size
 replace HG:=HG.below hb2
 replace HV:=eC HV hb2
 replace p0:=p0.below hb2 p0.lt
 replace p1:=p1.below hb2 p1.lt
 replace HB:=bt HB hb2
 refine ⟨_,rfl,?_⟩
 refine WL.vv rfl rfl (cO rfl rfl) (by decide) ?_
 refine WL.nil (NX.next ?_)
 refine CW.sub (E':=[(2,.pointer (some ⟨w.heap.size,0,none⟩)),(3,.pointer (some ⟨(w.heap.size+1),0,none⟩)),(5,.int .i64 m1)]) ⟨rfl,rfl,rfl,trivial⟩ ?_
 rcases hb1 with hneg|hpos
 ·refine CW.seq (CW.seq (CW.region ?_))
  refine WL.vv rfl rfl (bf rfl rfl) (by decide) ?_
  refine WL.vv rfl rfl (gQ (b:=true) rfl rfl rfl rfl (by simp [bb]<;>omega)) (by decide) ?_
  refine WL.nil (NX.next (CW.yes rfl (CW.seq (CW.region ?_))))
  refine WL.vv rfl rfl (cO rfl rfl) (by decide) ?_
  exact WL.nil (NX.next (CW.ret (NX.ret (NX.zM rfl rfl ⟨rfl,HB⟩))))
 have s1:=q1 (by omega)
 have hs1:=(uk.1 (ac3.1 s0.1).2).1
 have hs2:=(uk.1 s0.2).1
 have hs3:x.text.size<=1048576:=ac4 s1
 obtain ⟨hq1,hq2⟩:=VW (x:=x) hs1 hs2
 clear hz hz2 q0 q1
 refine CW.seq (CW.seq (CW.region ?_))
 refine WL.vv rfl rfl (bf rfl rfl) (by decide) ?_
 refine WL.vv rfl rfl (gQ (b:=false) rfl rfl rfl rfl (by simp [bb]<;>omega)) (by decide) ?_
 refine WL.nil (NX.next (CW.no rfl (CW.skip (NX.next ?_))))
 refine CW.sub (E':=[(2,.pointer (some ⟨w.heap.size,0,none⟩)),(3,.pointer (some ⟨(w.heap.size+1),0,none⟩))]) ⟨rfl,rfl,trivial⟩ ?_
 refine CW.sub (E':=[(2,.pointer (some ⟨w.heap.size,0,none⟩)),(3,.pointer (some ⟨(w.heap.size+1),0,none⟩))]) ⟨rfl,rfl,trivial⟩ ?_
 refine CW.seq (CW.any (fun W=>ai W w.heap.size 27 (aF p A1 A2)/\ai W (w.heap.size+1) 29 #[.string x.method,.string x.key,.int .i64 x.val,.string x.text]) 11 mo fun w3 hwd hbd=>⟨⟨p0.below hbd p0.lt,p1.below hbd p1.lt⟩,?_⟩)
 replace HG:=HG.below hbd
 replace HV:=eC HV hbd
 replace p0:=p0.below hbd p0.lt
 replace p1:=p1.below hbd p1.lt
 replace HB:=bt HB hbd
 have DZ:=hbd.size
 clear hbd hwd
 refine ZW (fun _ _ t _ _ h=>by cases t<;>exact h) p0 p1 Bf DS (Ql p) (IV (cm x)) (Qm (bq p x).1 (bq p x).2) (fun N W h=>SJ s0 HG HV.zero N W h) (fun N W v0 h _=>Jj s1 HG hxz N W h) (fun N W v0 v1 h h0 h1=>ah0 (by omega) (by omega) (by omega) HG hxz N W v0 v1 h h0 h1) SV (fun sr w4 al5 al8 alZ al2 kB kC iE Xr Xx Y7 cH cI aaW aaY ai7=> ?_)
 refine NX.next ?_
 replace HG:=HG.below iE.b
 replace HV:=eC HV iE.b
 replace p0:=p0.below iE.b p0.lt
 replace p1:=p1.below iE.b p1.lt
 replace HB:=bt HB iE.b
 have Hy:=iE.b.size
 have ajh:=iE.n _ aaW
 have ajk:=iE.n _ aaY
 obtain ⟨G1,G2,eu,hz1,GW⟩:=Y7
 cases eu
 have HS:=R.over (R.zero hz1)
 clear hz1 Xr Xx
 refine CW.sub (E':=[(2,.pointer (some ⟨w.heap.size,0,none⟩)),(3,.pointer (some ⟨(w.heap.size+1),0,none⟩)),(6,.pointer (some ⟨kB,0,none⟩)),(7,.pointer (some ⟨kC,0,none⟩))]) ⟨rfl,rfl,rfl,rfl,trivial⟩ ?_
 refine CW.seq (CW.region ?_)
 refine WL.vv rfl rfl (bh rfl rfl Tryz.underlying27 rfl p0 Bf) (by decide) ?_
 refine WL.c rfl rfl (bu (args:= #[.agg (aF p A1 A2)]) (by kernel_rfl) rfl rfl rfl) (by decide) (SK s0 HG HV.zero) ?_
 rintro _ w5 ⟨zF,zG,rfl,Y0,hb5⟩
 have aak:=hb5.size
 replace HG:=HG.below hb5
 replace HV:=eC HV hb5
 replace p0:=p0.below hb5 p0.lt
 replace p1:=p1.below hb5 p1.lt
 replace HB:=bt HB hb5
 replace HS:=eC HS hb5
 replace cH:=cH.below hb5 cH.lt
 replace cI:=cI.below hb5 cI.lt
 have iV:=Y0
 refine ⟨_,rfl,?_⟩
 refine WL.vv rfl rfl (bp rfl dH) (by decide) ?_
 refine WL.st rfl rfl rfl rfl (cs:=(aF p zF zG)) rfl (show ai (w5.alloc (.cells aH 37)) w5.heap.size 37 aH from ai.new w5 _ _) rfl (OP.one iV) aY fun w6 cv kr=> ?_
 have dZ:Below w5.heap.size w5 w6:=uM kr
 have ajb:w5.heap.size<w6.heap.size:=cv.lt
 replace HG:=HG.below dZ
 replace HV:=eC HV dZ
 replace p0:=p0.below dZ p0.lt
 replace p1:=p1.below dZ p1.lt
 replace HB:=bt HB dZ
 replace HS:=eC HS dZ
 replace cH:=cH.below dZ cH.lt
 replace cI:=cI.below dZ cI.lt
 replace iV:=iV.below dZ
 refine WL.nil (NX.next ?_)
 refine CW.sub (E':=[(2,.pointer (some ⟨w.heap.size,0,none⟩)),(3,.pointer (some ⟨(w.heap.size+1),0,none⟩)),(6,.pointer (some ⟨kB,0,none⟩)),(7,.pointer (some ⟨kC,0,none⟩)),(8,.pointer (some ⟨w5.heap.size,0,none⟩))]) ⟨rfl,rfl,rfl,rfl,rfl,trivial⟩ ?_
 refine CW.sub (E':=[(2,.pointer (some ⟨w.heap.size,0,none⟩)),(3,.pointer (some ⟨(w.heap.size+1),0,none⟩)),(6,.pointer (some ⟨kB,0,none⟩)),(7,.pointer (some ⟨kC,0,none⟩)),(8,.pointer (some ⟨w5.heap.size,0,none⟩))]) ⟨rfl,rfl,rfl,rfl,rfl,trivial⟩ ?_
 refine CW.seq (CW.any (fun W=>ai W w5.heap.size 37 (aF p zF zG)/\ai W (w.heap.size+1) 29 #[.string x.method,.string x.key,.int .i64 x.val,.string x.text]) 10 mo fun w7 hwd hbd=>⟨⟨cv.below hbd cv.lt,p1.below hbd p1.lt⟩,?_⟩)
 replace HG:=HG.below hbd
 replace HV:=eC HV hbd
 replace p0:=p0.below hbd p0.lt
 replace p1:=p1.below hbd p1.lt
 replace HB:=bt HB hbd
 replace HS:=eC HS hbd
 replace cH:=cH.below hbd cH.lt
 replace cI:=cI.below hbd cI.lt
 replace iV:=iV.below hbd
 replace cv:=cv.below hbd cv.lt
 have HE:=hbd.size
 clear hbd hwd
 refine ZU (fun _ _ t _ _ h=>by cases t<;>exact h) cv p1 aY DS (IV (cm x)) (adb w7.heap.size (bq p x).1 (bq p x).2) (fun N W h=>Jj s1 HG hxz N W h) (fun N W v0 h h0=>ahY (by omega) (by omega) (by omega) HG hxz (Nat.le_refl _) iV.data N W v0 h h0) zOZ (fun Nw8 w8 al6 al0 al3 kP zK nj Xs Y8 dC dK OC OD ai8=> ?_)
 refine NX.next ?_
 replace HG:=HG.below nj.b
 replace HV:=eC HV nj.b
 replace p0:=p0.below nj.b p0.lt
 replace p1:=p1.below nj.b p1.lt
 replace HB:=bt HB nj.b
 replace HS:=eC HS nj.b
 replace cH:=cH.below nj.b cH.lt
 replace cI:=cI.below nj.b cI.lt
 replace iV:=iV.below nj.b
 replace cv:=cv.below nj.b cv.lt
 have N9:=nj.b.size
 have aji:=nj.n _ OC
 have ajl:=nj.n _ OD
 obtain ⟨I1,I2,lo,hi,eu,HA,hlo,hnb, -⟩:=Y8
 cases eu
 have k8:=hnb _ OC
 have k9:=hnb _ OD
 have hhi:=HA.le
 clear Xs
 refine CW.sub (E':=[(2,.pointer (some ⟨w.heap.size,0,none⟩)),(3,.pointer (some ⟨(w.heap.size+1),0,none⟩)),(6,.pointer (some ⟨kB,0,none⟩)),(7,.pointer (some ⟨kC,0,none⟩)),(8,.pointer (some ⟨w5.heap.size,0,none⟩)),(9,.pointer (some ⟨kP,0,none⟩)),(10,.pointer (some ⟨zK,0,none⟩))]) ⟨rfl,rfl,rfl,rfl,rfl,rfl,rfl,trivial⟩ ?_
 refine CW.seq (CW.seq (CW.region ?_))
 refine WL.vv rfl rfl (bh rfl rfl Tryz.underlying37 rfl dC aY) (by decide) ?_
 refine WL.vv rfl rfl (bh rfl rfl Tryz.underlying37 rfl cH aY) (by decide) ?_
 refine WL.c rfl rfl (bu (args:= #[.agg (aF (bq p x).1 I1 I2),.agg (aF (bq p x).1 G1 G2)]) (by kernel_rfl) rfl rfl rfl) (by decide) (EJ HG HA.data HS) ?_
 rintro _ w9 ⟨rfl,gO⟩
 have HL:=gO.size
 replace HG:=HG.below gO
 replace HV:=eC HV gO
 replace p0:=p0.below gO p0.lt
 replace p1:=p1.below gO p1.lt
 replace HB:=bt HB gO
 replace HS:=eC HS gO
 replace cH:=cH.below gO cH.lt
 replace cI:=cI.below gO cI.lt
 replace iV:=iV.below gO
 replace cv:=cv.below gO cv.lt
 replace HA:=HA.below gO
 replace dC:=dC.below gO dC.lt
 replace dK:=dK.below gO dK.lt
 refine ⟨_,rfl,?_⟩
 refine WL.vv rfl rfl (wg rfl rfl rfl) (by decide) ?_
 refine WL.vv rfl rfl (bf rfl rfl) (by decide) ?_
 refine WL.vg (b:=false) rfl rfl rfl rfl (bh rfl rfl Tryz.underlying39 rfl dK aZ) (by decide) ?_
 refine WL.vg (b:=false) rfl rfl rfl rfl (bh rfl rfl Tryz.underlying39 rfl cI aZ) (by decide) ?_
 refine WL.cg (b:=false) rfl rfl rfl rfl (bu (args:= #[.agg (cK (bq p x).2),.agg (cK (bq p x).2)]) (by kernel_rfl) rfl rfl rfl) (by decide) (Ji HG GW) ?_
 rintro _ Ca ⟨rfl,gM⟩
 have Hv:=gM.size
 replace HG:=HG.below gM
 replace HV:=eC HV gM
 replace p0:=p0.below gM p0.lt
 replace p1:=p1.below gM p1.lt
 replace HB:=bt HB gM
 replace HS:=eC HS gM
 replace cH:=cH.below gM cH.lt
 replace cI:=cI.below gM cI.lt
 replace iV:=iV.below gM
 replace cv:=cv.below gM cv.lt
 replace HA:=HA.below gM
 replace dC:=dC.below gM dC.lt
 replace dK:=dK.below gM dK.lt
 refine ⟨_,rfl,?_⟩
 refine WL.vg (b:=false) rfl rfl rfl rfl (wg rfl rfl rfl) (by decide) ?_
 refine WL.vv rfl rfl (pg rfl rfl rfl) (by decide) ?_
 refine WL.nil (NX.next (CW.no rfl (CW.skip (NX.next ?_))))
 refine CW.sub (E':=[(2,.pointer (some ⟨w.heap.size,0,none⟩)),(3,.pointer (some ⟨(w.heap.size+1),0,none⟩)),(6,.pointer (some ⟨kB,0,none⟩)),(7,.pointer (some ⟨kC,0,none⟩)),(8,.pointer (some ⟨w5.heap.size,0,none⟩)),(9,.pointer (some ⟨kP,0,none⟩)),(10,.pointer (some ⟨zK,0,none⟩))]) ⟨rfl,rfl,rfl,rfl,rfl,rfl,rfl,trivial⟩ ?_
 refine CW.seq (CW.seq (CW.any (fun W=>ai W w5.heap.size 37 (aF p zF zG)/\ai W w.heap.size 27 (aF p A1 A2)) 4 mo fun rT ajc gN=> ?_))
 replace HG:=HG.below gN
 replace HV:=eC HV gN
 replace p0:=p0.below gN p0.lt
 replace p1:=p1.below gN p1.lt
 replace HB:=bt HB gN
 replace HS:=eC HS gN
 replace cH:=cH.below gN cH.lt
 replace cI:=cI.below gN cI.lt
 replace iV:=iV.below gN
 replace cv:=cv.below gN cv.lt
 replace HA:=HA.below gN
 replace dC:=dC.below gN dC.lt
 replace dK:=dK.below gN dK.lt
 have NZ:=gN.size
 refine ⟨⟨cv,p0⟩,?_⟩
 refine AU.tk 0 rfl (by kernel_rfl) (fun _ _ _ h=>h) rfl rfl (fun W hW=>bh rfl rfl Tryz.underlying37 rfl hW.1 aY) (by decide) ⟨cv,p0⟩ ?_
 refine AU.tk 1 rfl (by kernel_rfl) (fun _ _ _ h=>h) rfl rfl (fun W hW=>bh rfl rfl Tryz.underlying27 rfl hW.2 Bf) (by decide) ⟨cv,p0⟩ ?_
 refine AU.c 2 (args:= #[.agg (aF p A1 A2)]) rfl (by kernel_rfl) rfl rfl (bu (by kernel_rfl) rfl rfl rfl) (by decide) (SK s0 HG HV.zero) ?_
 rintro _ Jc ⟨Uo,Uu,rfl,YZ,mC⟩
 have N7:=mC.size
 replace HG:=HG.below mC
 replace HV:=eC HV mC
 replace p0:=p0.below mC p0.lt
 replace p1:=p1.below mC p1.lt
 replace HB:=bt HB mC
 replace HS:=eC HS mC
 replace cH:=cH.below mC cH.lt
 replace cI:=cI.below mC cI.lt
 replace iV:=iV.below mC
 replace cv:=cv.below mC cv.lt
 replace HA:=HA.below mC
 replace dC:=dC.below mC dC.lt
 replace dK:=dK.below mC dK.lt
 have HY:=YZ
 refine ⟨_,rfl,fun _=>⟨cv,p0⟩,?_⟩
 refine AU.c 3 (args:= #[.agg (aF p zF zG),.agg (aF p Uo Uu)]) rfl (by kernel_rfl) rfl rfl (bu (by kernel_rfl) rfl rfl rfl) (by decide) (EJ HG iV.data HY.data) ?_
 rintro _ Jd ⟨rfl,lN⟩
 have ajN:=lN.size
 replace HG:=HG.below lN
 replace HV:=eC HV lN
 replace p0:=p0.below lN p0.lt
 replace p1:=p1.below lN p1.lt
 replace HB:=bt HB lN
 replace HS:=eC HS lN
 replace cH:=cH.below lN cH.lt
 replace cI:=cI.below lN cI.lt
 replace iV:=iV.below lN
 replace cv:=cv.below lN cv.lt
 replace HA:=HA.below lN
 replace dC:=dC.below lN dC.lt
 replace dK:=dK.below lN dK.lt
 replace HY:=HY.below lN
 refine ⟨_,rfl,fun _=>⟨cv,p0⟩,?_⟩
 refine AU.vv 4 rfl (by kernel_rfl) rfl rfl (wg rfl rfl rfl) (by decide) (fun _=>⟨cv,p0⟩) ?_
 refine AU.done (by kernel_rfl) (NX.next (CW.no rfl (CW.skip (NX.next ?_))))
 refine CW.sub (E':=[(2,.pointer (some ⟨w.heap.size,0,none⟩)),(3,.pointer (some ⟨(w.heap.size+1),0,none⟩)),(6,.pointer (some ⟨kB,0,none⟩)),(7,.pointer (some ⟨kC,0,none⟩)),(8,.pointer (some ⟨w5.heap.size,0,none⟩)),(9,.pointer (some ⟨kP,0,none⟩)),(10,.pointer (some ⟨zK,0,none⟩))]) ⟨rfl,rfl,rfl,rfl,rfl,rfl,rfl,trivial⟩ ?_
 refine CW.seq (CW.region ?_)
 refine WL.vv rfl rfl (cO rfl rfl) (by decide) ?_
 refine WL.nil (NX.next ?_)
 refine CW.sub (E':=[(2,.pointer (some ⟨w.heap.size,0,none⟩)),(3,.pointer (some ⟨(w.heap.size+1),0,none⟩)),(6,.pointer (some ⟨kB,0,none⟩)),(7,.pointer (some ⟨kC,0,none⟩)),(8,.pointer (some ⟨w5.heap.size,0,none⟩)),(9,.pointer (some ⟨kP,0,none⟩)),(10,.pointer (some ⟨zK,0,none⟩)),(11,.int .i64 1)]) ⟨rfl,rfl,rfl,rfl,rfl,rfl,rfl,rfl,trivial⟩ ?_
 refine CW.seq (CW.region ?_)
 refine WL.vv rfl rfl (bh rfl rfl Tryz.underlying37 rfl cv aY) (by decide) ?_
 refine WL.vv rfl rfl (bf rfl rfl) (by decide) ?_
 have hm:=iV.mark 1 HG (by omega) (by omega)
 clear iV
 clear HY
 refine WL.c rfl rfl (bu (args:= #[.agg (aF p zF zG),.int .i64 1]) (by kernel_rfl) rfl rfl rfl) (by decide) (hm) ?_
 rintro _ zr ⟨rfl,ha,hr⟩
 have N8:=ha.size
 replace HG:=HG.alt ha fun p hp=>by omega
 replace HV:=EF HV ha fun p hp=>by omega
 replace p0:=p0.alt ha fun p hp e=>by omega
 replace p1:=p1.alt ha fun p hp e=>by omega
 replace HB:=JW HB (ha.lF (by omega) fun p hp=>by omega)
 replace HS:=EF HS ha fun p hp=>by omega
 replace cH:=cH.alt ha fun p hp e=>by omega
 replace cI:=cI.alt ha fun p hp e=>by omega
 replace cv:=cv.alt ha fun p hp e=>by omega
 replace HA:=HA.alt ha fun p hp=>by omega
 replace dC:=dC.alt ha fun p hp e=>by omega
 replace dK:=dK.alt ha fun p hp e=>by omega
 clear ha hm hr
 refine ⟨_,rfl,?_⟩
 refine WL.vv rfl rfl (cO rfl rfl) (by decide) ?_
 refine WL.nil (NX.next ?_)
 refine CW.sub (E':=[(2,.pointer (some ⟨w.heap.size,0,none⟩)),(3,.pointer (some ⟨(w.heap.size+1),0,none⟩)),(6,.pointer (some ⟨kB,0,none⟩)),(7,.pointer (some ⟨kC,0,none⟩)),(9,.pointer (some ⟨kP,0,none⟩)),(10,.pointer (some ⟨zK,0,none⟩)),(11,.int .i64 ((1+2*p.core.cells.length+2*p.af.length):Nat))]) ⟨rfl,rfl,rfl,rfl,rfl,rfl,rfl,trivial⟩ ?_
 refine CW.seq (CW.seq (CW.region ?_))
 refine WL.vv rfl rfl (bf rfl rfl) (by decide) ?_
 refine WL.vv rfl rfl (gQ (b:=false) rfl rfl rfl rfl (by simp [bb]<;>omega)) (by decide) ?_
 refine WL.vv rfl rfl (bf rfl rfl) (by decide) ?_
 refine WL.vg (b:=false) rfl rfl rfl rfl (bh rfl rfl Tryz.underlying37 rfl dC aY) (by decide) ?_
 refine WL.vg (b:=false) rfl rfl rfl rfl (bh rfl rfl Tryz.underlying37 rfl cH aY) (by decide) ?_
 refine WL.cg (b:=false) rfl rfl rfl rfl (bu (args:= #[.agg (aF (bq p x).1 I1 I2),.agg (aF (bq p x).1 G1 G2)]) (by kernel_rfl) rfl rfl rfl) (by decide) (EJ HG HA.data HS) ?_
 rintro _ EI ⟨rfl,nr⟩
 have Hw:=nr.size
 replace HG:=HG.below nr
 replace HV:=eC HV nr
 replace p0:=p0.below nr p0.lt
 replace p1:=p1.below nr p1.lt
 replace HB:=bt HB nr
 replace HS:=eC HS nr
 replace cH:=cH.below nr cH.lt
 replace cI:=cI.below nr cI.lt
 replace cv:=cv.below nr cv.lt
 replace HA:=HA.below nr
 replace dC:=dC.below nr dC.lt
 replace dK:=dK.below nr dK.lt
 refine ⟨_,rfl,?_⟩
 refine WL.vg (b:=false) rfl rfl rfl rfl (wg rfl rfl rfl) (by decide) ?_
 refine WL.vv rfl rfl (pg rfl rfl rfl) (by decide) ?_
 refine WL.vv rfl rfl (bf rfl rfl) (by decide) ?_
 refine WL.vg (b:=false) rfl rfl rfl rfl (bh rfl rfl Tryz.underlying39 rfl dK aZ) (by decide) ?_
 refine WL.vg (b:=false) rfl rfl rfl rfl (bh rfl rfl Tryz.underlying39 rfl cI aZ) (by decide) ?_
 refine WL.cg (b:=false) rfl rfl rfl rfl (bu (args:= #[.agg (cK (bq p x).2),.agg (cK (bq p x).2)]) (by kernel_rfl) rfl rfl rfl) (by decide) (Ji HG GW) ?_
 rintro _ SD ⟨rfl,ny⟩
 have ajO:=ny.size
 replace HG:=HG.below ny
 replace HV:=eC HV ny
 replace p0:=p0.below ny p0.lt
 replace p1:=p1.below ny p1.lt
 replace HB:=bt HB ny
 replace HS:=eC HS ny
 replace cH:=cH.below ny cH.lt
 replace cI:=cI.below ny cI.lt
 replace cv:=cv.below ny cv.lt
 replace HA:=HA.below ny
 replace dC:=dC.below ny dC.lt
 replace dK:=dK.below ny dK.lt
 refine ⟨_,rfl,?_⟩
 refine WL.vg (b:=false) rfl rfl rfl rfl (wg rfl rfl rfl) (by decide) ?_
 refine WL.vv rfl rfl (pg rfl rfl rfl) (by decide) ?_
 refine WL.nil (NX.next (CW.no rfl (CW.skip (NX.next ?_))))
 refine CW.sub (E':=[(2,.pointer (some ⟨w.heap.size,0,none⟩)),(3,.pointer (some ⟨(w.heap.size+1),0,none⟩)),(6,.pointer (some ⟨kB,0,none⟩)),(7,.pointer (some ⟨kC,0,none⟩)),(9,.pointer (some ⟨kP,0,none⟩))]) ⟨rfl,rfl,rfl,rfl,rfl,trivial⟩ ?_
 refine CW.seq (CW.region ?_)
 refine WL.vv rfl rfl (cO rfl rfl) (by decide) ?_
 refine WL.nil (NX.next ?_)
 refine CW.sub (E':=[(2,.pointer (some ⟨w.heap.size,0,none⟩)),(3,.pointer (some ⟨(w.heap.size+1),0,none⟩)),(6,.pointer (some ⟨kB,0,none⟩)),(7,.pointer (some ⟨kC,0,none⟩)),(9,.pointer (some ⟨kP,0,none⟩)),(12,.int .i64 1)]) ⟨rfl,rfl,rfl,rfl,rfl,rfl,trivial⟩ ?_
 refine CW.seq (CW.region ?_)
 refine WL.vv rfl rfl (bh rfl rfl Tryz.underlying37 rfl dC aY) (by decide) ?_
 refine WL.vv rfl rfl (bf rfl rfl) (by decide) ?_
 have hm:=HA.mark 1 HG (by omega) (by omega)
 clear HA
 refine WL.c rfl rfl (bu (args:= #[.agg (aF (bq p x).1 I1 I2),.int .i64 1]) (by kernel_rfl) rfl rfl rfl) (by decide) (hm) ?_
 rintro _ w17 ⟨rfl,ha,hr⟩
 have aad:=ha.size
 replace HG:=HG.alt ha fun p hp=>by omega
 replace HV:=EF HV ha fun p hp=>by omega
 replace p0:=p0.alt ha fun p hp e=>by omega
 replace p1:=p1.alt ha fun p hp e=>by omega
 replace HB:=JW HB (ha.lF (by omega) fun p hp=>by omega)
 replace HS:=EF HS ha fun p hp=>by omega
 replace cH:=cH.alt ha fun p hp e=>by omega
 replace cI:=cI.alt ha fun p hp e=>by omega
 replace cv:=cv.alt ha fun p hp e=>by omega
 replace dC:=dC.alt ha fun p hp e=>by omega
 replace dK:=dK.alt ha fun p hp e=>by omega
 have HM:=hr
 clear ha hm
 refine ⟨_,rfl,?_⟩
 refine WL.vv rfl rfl (cO rfl rfl) (by decide) ?_
 refine WL.nil (NX.next ?_)
 refine CW.sub (E':=[(2,.pointer (some ⟨w.heap.size,0,none⟩)),(3,.pointer (some ⟨(w.heap.size+1),0,none⟩)),(6,.pointer (some ⟨kB,0,none⟩)),(7,.pointer (some ⟨kC,0,none⟩)),(9,.pointer (some ⟨kP,0,none⟩)),(12,.int .i64 ((1+2*(bq p x).1.core.cells.length+2*(bq p x).1.af.length):Nat))]) ⟨rfl,rfl,rfl,rfl,rfl,rfl,trivial⟩ ?_
 refine CW.seq (CW.region ?_)
 refine WL.vv rfl rfl (cO rfl rfl) (by decide) ?_
 refine WL.nil (NX.next ?_)
 refine CW.sub (E':=[(2,.pointer (some ⟨w.heap.size,0,none⟩)),(3,.pointer (some ⟨(w.heap.size+1),0,none⟩)),(6,.pointer (some ⟨kB,0,none⟩)),(7,.pointer (some ⟨kC,0,none⟩)),(9,.pointer (some ⟨kP,0,none⟩)),(12,.int .i64 ((1+2*(bq p x).1.core.cells.length+2*(bq p x).1.af.length):Nat)),(13,.int .i64 1)]) ⟨rfl,rfl,rfl,rfl,rfl,rfl,rfl,trivial⟩ ?_
 refine CW.seq (CW.region ?_)
 refine WL.vv rfl rfl (bh rfl rfl Tryz.underlying37 rfl dC aY) (by decide) ?_
 refine WL.vv rfl rfl (bf rfl rfl) (by decide) ?_
 refine WL.c rfl rfl (bu (args:= #[.agg (aF (bq p x).1 I1 I2),.int .i64 1]) (by kernel_rfl) rfl rfl rfl) (by decide) (SG 1 HG HM (by omega)) ?_
 rintro _ w18 ⟨rfl,nz⟩
 have aae:=nz.size
 replace HG:=HG.below nz
 replace HV:=eC HV nz
 replace p0:=p0.below nz p0.lt
 replace p1:=p1.below nz p1.lt
 replace HB:=bt HB nz
 replace HS:=eC HS nz
 replace cH:=cH.below nz cH.lt
 replace cI:=cI.below nz cI.lt
 replace cv:=cv.below nz cv.lt
 replace dC:=dC.below nz dC.lt
 replace dK:=dK.below nz dK.lt
 replace HM:=R.keep (bo.below nz fun _ _ h=>h) _ _ HM
 refine ⟨_,rfl,?_⟩
 refine WL.vv rfl rfl (cO rfl rfl) (by decide) ?_
 refine WL.nil (NX.next ?_)
 refine CW.sub (E':=[(2,.pointer (some ⟨w.heap.size,0,none⟩)),(3,.pointer (some ⟨(w.heap.size+1),0,none⟩)),(6,.pointer (some ⟨kB,0,none⟩)),(7,.pointer (some ⟨kC,0,none⟩)),(9,.pointer (some ⟨kP,0,none⟩)),(12,.int .i64 ((1+2*(bq p x).1.core.cells.length+2*(bq p x).1.af.length):Nat)),(13,.int .i64 ((1+2*(bq p x).1.core.cells.length+2*(bq p x).1.af.length):Nat))]) ⟨rfl,rfl,rfl,rfl,rfl,rfl,rfl,trivial⟩ ?_
 refine CW.seq (CW.seq (CW.region ?_))
 refine WL.vv rfl rfl (bf rfl rfl) (by decide) ?_
 refine WL.vv rfl rfl (gQ (b:=false) rfl rfl rfl rfl (by simp [bb]<;>omega)) (by decide) ?_
 refine WL.nil (NX.next (CW.no rfl (CW.skip (NX.next ?_))))
 refine CW.sub (E':=[(2,.pointer (some ⟨w.heap.size,0,none⟩)),(3,.pointer (some ⟨(w.heap.size+1),0,none⟩)),(6,.pointer (some ⟨kB,0,none⟩)),(7,.pointer (some ⟨kC,0,none⟩)),(9,.pointer (some ⟨kP,0,none⟩)),(12,.int .i64 ((1+2*(bq p x).1.core.cells.length+2*(bq p x).1.af.length):Nat)),(13,.int .i64 ((1+2*(bq p x).1.core.cells.length+2*(bq p x).1.af.length):Nat))]) ⟨rfl,rfl,rfl,rfl,rfl,rfl,rfl,trivial⟩ ?_
 refine CW.seq (CW.seq (CW.region ?_))
 refine WL.vv rfl rfl (bf rfl rfl) (by decide) ?_
 refine WL.vv rfl rfl (bf rfl rfl) (by decide) ?_
 refine WL.vv rfl rfl (gQ (b:=false) rfl rfl rfl rfl (by simp [bb])) (by decide) ?_
 refine WL.nil (NX.next (CW.no rfl (CW.skip (NX.next ?_))))
 refine CW.sub (E':=[(2,.pointer (some ⟨w.heap.size,0,none⟩)),(3,.pointer (some ⟨(w.heap.size+1),0,none⟩)),(6,.pointer (some ⟨kB,0,none⟩)),(7,.pointer (some ⟨kC,0,none⟩)),(9,.pointer (some ⟨kP,0,none⟩)),(12,.int .i64 ((1+2*(bq p x).1.core.cells.length+2*(bq p x).1.af.length):Nat)),(13,.int .i64 ((1+2*(bq p x).1.core.cells.length+2*(bq p x).1.af.length):Nat))]) ⟨rfl,rfl,rfl,rfl,rfl,rfl,rfl,trivial⟩ ?_
 refine CW.sub (E':=[(6,.pointer (some ⟨kB,0,none⟩)),(7,.pointer (some ⟨kC,0,none⟩)),(9,.pointer (some ⟨kP,0,none⟩)),(12,.int .i64 ((1+2*(bq p x).1.core.cells.length+2*(bq p x).1.af.length):Nat)),(2,.pointer (some ⟨w.heap.size,0,none⟩)),(3,.pointer (some ⟨(w.heap.size+1),0,none⟩))]) ⟨rfl,rfl,rfl,rfl,rfl,rfl,trivial⟩ ?_
 refine CW.seq (CW.any (fun W=>ai W w.heap.size 27 (aF p A1 A2)/\ai W (w.heap.size+1) 29 #[.string x.method,.string x.key,.int .i64 x.val,.string x.text]) 11 mo fun rU hwd hbd=>⟨⟨p0.below hbd p0.lt,p1.below hbd p1.lt⟩,?_⟩)
 replace HG:=HG.below hbd
 replace HV:=eC HV hbd
 replace p0:=p0.below hbd p0.lt
 replace p1:=p1.below hbd p1.lt
 replace HB:=bt HB hbd
 replace HS:=eC HS hbd
 replace cH:=cH.below hbd cH.lt
 replace cI:=cI.below hbd cI.lt
 replace cv:=cv.below hbd cv.lt
 replace dC:=dC.below hbd dC.lt
 replace dK:=dK.below hbd dK.lt
 replace HM:=R.keep (bo.below hbd fun _ _ h=>h) _ _ HM
 have aaf:=hbd.size
 clear hbd hwd
 refine ZV (z12:=(1+2*(bq p x).1.core.cells.length+2*(bq p x).1.af.length)) (fun _ _ t _ _ h=>by cases t<;>exact h) p0 p1 Bf DS (Ql p) (IV (cm x)) (Qm (bq p x).1 (bq p x).2) (fun N W h=>SJ s0 HG HV.zero N W h) (fun N W v0 h _=>Jj s1 HG hxz N W h) (fun N W v0 v1 h h0 h1=>ahX (by omega) (by omega) (by omega) HG hxz N W v0 v1 h h0 h1) SV (fun Tl rV al4 al7 alY al1 UC UD ja Xq Xw Y6 qn qo aaV aaX ai6=> ?_)
 refine NX.next ?_
 replace HG:=HG.below ja.b
 replace HV:=eC HV ja.b
 replace p0:=p0.below ja.b p0.lt
 replace p1:=p1.below ja.b p1.lt
 replace HB:=bt HB ja.b
 replace HS:=eC HS ja.b
 replace cH:=cH.below ja.b cH.lt
 replace cI:=cI.below ja.b cI.lt
 replace cv:=cv.below ja.b cv.lt
 replace dC:=dC.below ja.b dC.lt
 replace dK:=dK.below ja.b dK.lt
 replace HM:=R.keep (bo.below ja.b fun _ _ h=>h) _ _ HM
 have aag:=ja.b.size
 have ajg:=ja.n _ aaV
 have ajj:=ja.n _ aaX
 obtain ⟨J1,J2,eu,HH, -⟩:=Y6
 cases eu
 replace HH:=R.zero HH
 clear Xq Xw
 refine CW.sub (E':=[(6,.pointer (some ⟨kB,0,none⟩)),(7,.pointer (some ⟨kC,0,none⟩)),(9,.pointer (some ⟨kP,0,none⟩)),(12,.int .i64 ((1+2*(bq p x).1.core.cells.length+2*(bq p x).1.af.length):Nat)),(14,.pointer (some ⟨UC,0,none⟩)),(15,.pointer (some ⟨UD,0,none⟩))]) ⟨rfl,rfl,rfl,rfl,rfl,rfl,trivial⟩ ?_
 refine CW.seq (CW.seq (CW.region ?_))
 refine WL.vv rfl rfl (bh rfl rfl Tryz.underlying37 rfl qn aY) (by decide) ?_
 refine WL.vv rfl rfl (bh rfl rfl Tryz.underlying37 rfl cH aY) (by decide) ?_
 refine WL.c rfl rfl (bu (args:= #[.agg (aF (bq p x).1 J1 J2),.agg (aF (bq p x).1 G1 G2)]) (by kernel_rfl) rfl rfl rfl) (by decide) (EJ HG HH HS) ?_
 rintro _ w21 ⟨rfl,kT⟩
 have aah:=kT.size
 replace HG:=HG.below kT
 replace HV:=eC HV kT
 replace p0:=p0.below kT p0.lt
 replace p1:=p1.below kT p1.lt
 replace HB:=bt HB kT
 replace HS:=eC HS kT
 replace cH:=cH.below kT cH.lt
 replace cI:=cI.below kT cI.lt
 replace cv:=cv.below kT cv.lt
 replace dC:=dC.below kT dC.lt
 replace dK:=dK.below kT dK.lt
 replace HM:=R.keep (bo.below kT fun _ _ h=>h) _ _ HM
 replace HH:=R.keep (bo.below kT fun _ _ h=>h) _ _ HH
 replace qn:=qn.below kT qn.lt
 replace qo:=qo.below kT qo.lt
 refine ⟨_,rfl,?_⟩
 refine WL.vv rfl rfl (wg rfl rfl rfl) (by decide) ?_
 refine WL.vv rfl rfl (bf rfl rfl) (by decide) ?_
 refine WL.vg (b:=false) rfl rfl rfl rfl (bh rfl rfl Tryz.underlying39 rfl qo aZ) (by decide) ?_
 refine WL.vg (b:=false) rfl rfl rfl rfl (bh rfl rfl Tryz.underlying39 rfl cI aZ) (by decide) ?_
 refine WL.cg (b:=false) rfl rfl rfl rfl (bu (args:= #[.agg (cK (bq p x).2),.agg (cK (bq p x).2)]) (by kernel_rfl) rfl rfl rfl) (by decide) (Ji HG GW) ?_
 rintro _ w22 ⟨rfl,kU⟩
 have aai:=kU.size
 replace HG:=HG.below kU
 replace HV:=eC HV kU
 replace p0:=p0.below kU p0.lt
 replace p1:=p1.below kU p1.lt
 replace HB:=bt HB kU
 replace HS:=eC HS kU
 replace cH:=cH.below kU cH.lt
 replace cI:=cI.below kU cI.lt
 replace cv:=cv.below kU cv.lt
 replace dC:=dC.below kU dC.lt
 replace dK:=dK.below kU dK.lt
 replace HM:=R.keep (bo.below kU fun _ _ h=>h) _ _ HM
 replace HH:=R.keep (bo.below kU fun _ _ h=>h) _ _ HH
 replace qn:=qn.below kU qn.lt
 replace qo:=qo.below kU qo.lt
 refine ⟨_,rfl,?_⟩
 refine WL.vg (b:=false) rfl rfl rfl rfl (wg rfl rfl rfl) (by decide) ?_
 refine WL.vv rfl rfl (pg rfl rfl rfl) (by decide) ?_
 refine WL.nil (NX.next (CW.no rfl (CW.skip (NX.next ?_))))
 refine CW.sub (E':=[(9,.pointer (some ⟨kP,0,none⟩)),(12,.int .i64 ((1+2*(bq p x).1.core.cells.length+2*(bq p x).1.af.length):Nat))]) ⟨rfl,rfl,trivial⟩ ?_
 refine CW.seq (CW.region ?_)
 refine WL.vv rfl rfl (cO rfl rfl) (by decide) ?_
 refine WL.nil (NX.next ?_)
 refine CW.sub (E':=[(9,.pointer (some ⟨kP,0,none⟩)),(12,.int .i64 ((1+2*(bq p x).1.core.cells.length+2*(bq p x).1.af.length):Nat)),(13,.int .i64 1)]) ⟨rfl,rfl,rfl,trivial⟩ ?_
 refine CW.seq (CW.region ?_)
 refine WL.vv rfl rfl (bh rfl rfl Tryz.underlying37 rfl dC aY) (by decide) ?_
 refine WL.vv rfl rfl (bf rfl rfl) (by decide) ?_
 refine WL.c rfl rfl (bu (args:= #[.agg (aF (bq p x).1 I1 I2),.int .i64 1]) (by kernel_rfl) rfl rfl rfl) (by decide) (SG 1 HG HM (by omega)) ?_
 rintro _ w23 ⟨rfl,kV⟩
 have aaj:=kV.size
 replace HG:=HG.below kV
 replace HV:=eC HV kV
 replace p0:=p0.below kV p0.lt
 replace p1:=p1.below kV p1.lt
 replace HB:=bt HB kV
 replace HS:=eC HS kV
 replace cH:=cH.below kV cH.lt
 replace cI:=cI.below kV cI.lt
 replace cv:=cv.below kV cv.lt
 replace dC:=dC.below kV dC.lt
 replace dK:=dK.below kV dK.lt
 replace HM:=R.keep (bo.below kV fun _ _ h=>h) _ _ HM
 replace HH:=R.keep (bo.below kV fun _ _ h=>h) _ _ HH
 replace qn:=qn.below kV qn.lt
 replace qo:=qo.below kV qo.lt
 refine ⟨_,rfl,?_⟩
 refine WL.vv rfl rfl (cO rfl rfl) (by decide) ?_
 refine WL.nil (NX.next ?_)
 refine CW.sub (E':=[(12,.int .i64 ((1+2*(bq p x).1.core.cells.length+2*(bq p x).1.af.length):Nat)),(13,.int .i64 ((1+2*(bq p x).1.core.cells.length+2*(bq p x).1.af.length):Nat))]) ⟨rfl,rfl,trivial⟩ ?_
 refine CW.seq (CW.seq (CW.region ?_))
 refine WL.vv rfl rfl (bf rfl rfl) (by decide) ?_
 refine WL.vv rfl rfl (gQ (b:=false) rfl rfl rfl rfl (by simp [bb]<;>omega)) (by decide) ?_
 refine WL.nil (NX.next (CW.no rfl (CW.skip (NX.next ?_))))
 refine CW.sub (E':=[(12,.int .i64 ((1+2*(bq p x).1.core.cells.length+2*(bq p x).1.af.length):Nat)),(13,.int .i64 ((1+2*(bq p x).1.core.cells.length+2*(bq p x).1.af.length):Nat))]) ⟨rfl,rfl,trivial⟩ ?_
 refine CW.seq (CW.seq (CW.region ?_))
 refine WL.vv rfl rfl (bf rfl rfl) (by decide) ?_
 refine WL.vv rfl rfl (bf rfl rfl) (by decide) ?_
 refine WL.vv rfl rfl (gQ (b:=false) rfl rfl rfl rfl (by simp [bb])) (by decide) ?_
 refine WL.nil (NX.next (CW.no rfl (CW.skip (NX.next ?_))))
 refine CW.sub (E':=[]) trivial ?_
 refine CW.seq (CW.region ?_)
 refine WL.vv rfl rfl (cO rfl rfl) (by decide) ?_
 refine WL.nil (NX.next (CW.ret ?_))
 exact NX.zM rfl rfl ⟨rfl,HB⟩
theorem main(ds:List D)(h:fH aD.tab aec ds):aG Tryz.prog 3 none ds (.bool true) []:=by
 obtain ⟨p,x,rfl⟩: ∃(p:Part) (x:Call),ds=[enc p,enc x]:=by
  match ds,h with
  | [d0,d1],h =>
   obtain ⟨p,rfl⟩:=Wm (h.1)
   obtain ⟨x,rfl⟩:=Wl (h.2.1)
   exact ⟨p,x,rfl⟩
 refine aG.vU (by kernel_rfl) fun w M vs hG hr=> ?_
 obtain ⟨v,q,rfl,hv,u,q',rfl,hu,rfl⟩:=hr
 refine (walk p x w ⟨fun _ h=>h.elim,hG.2.1,hG.2.2⟩ v u hv.zero hu.zero).mono ?_
 rintro e w' ⟨rfl,hb⟩
 exact ⟨_,rfl,rfl,hb⟩
set_option maxRecDepth 100000
theorem ZJ:(Rows.fnExactCallPartRow.wf (OpenSpec.ofChange Rows.fnExactCallPartSpec))=true:=by kernel_rfl
theorem ZA:(Tryz.f3.params.all (Tryz.prog.readableRec ·))=true:=by kernel_rfl
theorem ZD:(namedTie Tryz.prog Rows.fnExactCallPartRow.named Rows.fnExactCallPartSpec.vars)=true:=by kernel_rfl
theorem Zu:((Rows.fnExactCallPartRow.inPlace==Tryz.prog.inPlace 3))=true:=by kernel_rfl
theorem ZE:((Rows.fnExactCallPartRow.unfollowed==Tryz.prog.unfollowed 3))=true:=by kernel_rfl
theorem ZB:((Rows.fnExactCallPartRow.recurses==Tryz.prog.recurses 3))=true:=by kernel_rfl
theorem ZG:((Rows.fnExactCallPartRow.named==Tryz.prog.varsNamed 3))=true:=by kernel_rfl
theorem Zy:((Rows.fnExactCallPartRow.maps==(Tryz.f3.params.toList++Rows.fnExactCallPartSpec.plain.varTypes Tryz.prog).any (Tryz.prog.mapsRec ·)))=true:=by kernel_rfl
theorem Zt:((Rows.fnExactCallPartRow.ifaces==(Tryz.f3.params.toList++Rows.fnExactCallPartSpec.plain.varTypes Tryz.prog).any (Tryz.prog.ifacesRec ·)))=true:=by kernel_rfl
theorem Zz:((Rows.fnExactCallPartRow.mapsOut==Tryz.prog.mapsAmong Tryz.f3.resultTypes.toList))=true:=by kernel_rfl
theorem Zx:((Rows.fnExactCallPartRow.loops==(Tryz.f3.params.toList++Rows.fnExactCallPartSpec.plain.varTypes Tryz.prog).any (Tryz.prog.loopsFrom ·)))=true:=by kernel_rfl
theorem ZK:((Rows.fnExactCallPartRow.wideKeys==(Tryz.f3.params.toList++Rows.fnExactCallPartSpec.plain.varTypes Tryz.prog++Tryz.f3.resultTypes.toList).any (Tryz.prog.wideKeysFrom ·)))=true:=by kernel_rfl
theorem ZF:(Rows.fnExactCallPartSpec.vars.all (Tryz.prog.varReadable ·))=true:=by kernel_rfl
theorem ZC:(Tryz.f3.resultTypes.all (fun t=>Tryz.prog.readableRec t&&decide (t<Tryz.prog.types.size)))=true:=by kernel_rfl
theorem Zs:((Rows.fnExactCallPartRow.ifacesOut==Tryz.f3.resultTypes.toList.any (Tryz.prog.ifacesRec ·)))=true:=by kernel_rfl
theorem Zw:((Rows.fnExactCallPartRow.loopsOut==Tryz.f3.resultTypes.toList.any (Tryz.prog.loopsFrom ·)))=true:=by kernel_rfl
theorem Zv:((Rows.fnExactCallPartRow.kinds==(if Rows.fnExactCallPartRow.domain.isEmpty then [] else Tryz.f3.params.toList.map fun t=>match Tryz.prog.underlying t with|some (.int k)=>some k|_=>none)))=true:=by kernel_rfl
theorem ZH:((Rows.fnExactCallPartRow.veiled==(Tryz.f3.params.toList++Rows.fnExactCallPartSpec.plain.varTypes Tryz.prog++Tryz.f3.resultTypes.toList).any (Tryz.prog.veiledRec ·)))=true:=by kernel_rfl
theorem ZI:(Rows.fnExactCallPartRow.veiledFits Tryz.prog Tryz.f3.params.toList (Tryz.f3.params.toList++Rows.fnExactCallPartSpec.plain.varTypes Tryz.prog++Tryz.f3.resultTypes.toList))=true:=by kernel_rfl
theorem closed:joinedFacts Tryz.prog 3 Tryz.f3 Rows.fnExactCallPartSpec Rows.fnExactCallPartRow=true :=
 (fI (fI (fI (fI (fI (fI (fI (fI (fI (fI (fI (fI (fI (fI (fI (fI (fI (fI (fI (fI (fI (fI (fI (fI (fI (fI (fI (fI (fI (fI (fI ZJ Hk) Zq) ZA) ZD) rfl) Zr) rfl) Zm) Zu) ZE) ZB) ZG) Zy) Zt) Zz) Zx) ZK) ZF) ZC) Zs) Zw) Zl) rfl) Zk) Zj) Zn) Zo) Zv) rfl) ZH) ZI)
noncomputable def low:Nat:=(World.holding Tryz.prog default ⟨#[],#[],[]⟩).heap.size
noncomputable def NQ(os:Os):World :=
 let w0:=World.holding Tryz.prog os ⟨#[.cells #[.string ⟨#[118,97,108,117,101,32,111,117,116,32,111,102,32,114,97,110,103,101]⟩] 187,.cells #[.string ⟨#[105,110,118,97,108,105,100,32,115,121,110,116,97,120]⟩] 187],#[],[]⟩
 {w0 with heap:=w0.heap
  |>.modify 6 (fun| .cells _ t f=> .cells #[.int .u8 0,.int .u8 1,.int .u8 28,.int .u8 2,.int .u8 29,.int .u8 14,.int .u8 24,.int .u8 3,.int .u8 30,.int .u8 22,.int .u8 20,.int .u8 15,.int .u8 25,.int .u8 17,.int .u8 4,.int .u8 8,.int .u8 31,.int .u8 27,.int .u8 13,.int .u8 23,.int .u8 21,.int .u8 19,.int .u8 16,.int .u8 7,.int .u8 26,.int .u8 12,.int .u8 18,.int .u8 6,.int .u8 11,.int .u8 5,.int .u8 10,.int .u8 9] t f|o=>o)
  |>.modify 7 (fun| .cells _ t f=> .cells #[.int .u8 0,.int .u8 1,.int .u8 56,.int .u8 2,.int .u8 57,.int .u8 49,.int .u8 28,.int .u8 3,.int .u8 61,.int .u8 58,.int .u8 42,.int .u8 50,.int .u8 38,.int .u8 29,.int .u8 17,.int .u8 4,.int .u8 62,.int .u8 47,.int .u8 59,.int .u8 36,.int .u8 45,.int .u8 43,.int .u8 51,.int .u8 22,.int .u8 53,.int .u8 39,.int .u8 33,.int .u8 30,.int .u8 24,.int .u8 18,.int .u8 12,.int .u8 5,.int .u8 63,.int .u8 55,.int .u8 48,.int .u8 27,.int .u8 60,.int .u8 41,.int .u8 37,.int .u8 16,.int .u8 46,.int .u8 35,.int .u8 44,.int .u8 21,.int .u8 52,.int .u8 32,.int .u8 23,.int .u8 11,.int .u8 54,.int .u8 26,.int .u8 40,.int .u8 15,.int .u8 34,.int .u8 20,.int .u8 31,.int .u8 10,.int .u8 25,.int .u8 14,.int .u8 19,.int .u8 9,.int .u8 13,.int .u8 8,.int .u8 7,.int .u8 6] t f|o=>o)
  |>.modify 3 (fun| .cells _ t f=> .cells #[.int .u64 1,.int .u64 10,.int .u64 100,.int .u64 1000,.int .u64 10000,.int .u64 100000,.int .u64 1000000,.int .u64 10000000,.int .u64 100000000,.int .u64 1000000000,.int .u64 10000000000,.int .u64 100000000000,.int .u64 1000000000000,.int .u64 10000000000000,.int .u64 100000000000000,.int .u64 1000000000000000,.int .u64 10000000000000000,.int .u64 100000000000000000,.int .u64 1000000000000000000,.int .u64 10000000000000000000] t f|o=>o)
  |>.modify 5 (fun| .cells _ t f=> .cells #[.int .u8 128,.int .u8 191,.int .u8 160,.int .u8 191,.int .u8 128,.int .u8 159,.int .u8 144,.int .u8 191,.int .u8 128,.int .u8 143,.int .u8 0,.int .u8 0,.int .u8 0,.int .u8 0,.int .u8 0,.int .u8 0,.int .u8 0,.int .u8 0,.int .u8 0,.int .u8 0,.int .u8 0,.int .u8 0,.int .u8 0,.int .u8 0,.int .u8 0,.int .u8 0,.int .u8 0,.int .u8 0,.int .u8 0,.int .u8 0,.int .u8 0,.int .u8 0] t f|o=>o)
  |>.modify 2 (fun| .cells _ t f=> .cells #[.iface 185 (.pointer (some ⟨low+0,0,none⟩))] t f|o=>o)
  |>.modify 1 (fun| .cells _ t f=> .cells #[.iface 185 (.pointer (some ⟨low+1,0,none⟩))] t f|o=>o)
  |>.modify 4 (fun| .cells _ t f=> .cells #[.int .u8 240,.int .u8 240,.int .u8 240,.int .u8 240,.int .u8 240,.int .u8 240,.int .u8 240,.int .u8 240,.int .u8 240,.int .u8 240,.int .u8 240,.int .u8 240,.int .u8 240,.int .u8 240,.int .u8 240,.int .u8 240,.int .u8 240,.int .u8 240,.int .u8 240,.int .u8 240,.int .u8 240,.int .u8 240,.int .u8 240,.int .u8 240,.int .u8 240,.int .u8 240,.int .u8 240,.int .u8 240,.int .u8 240,.int .u8 240,.int .u8 240,.int .u8 240,.int .u8 240,.int .u8 240,.int .u8 240,.int .u8 240,.int .u8 240,.int .u8 240,.int .u8 240,.int .u8 240,.int .u8 240,.int .u8 240,.int .u8 240,.int .u8 240,.int .u8 240,.int .u8 240,.int .u8 240,.int .u8 240,.int .u8 240,.int .u8 240,.int .u8 240,.int .u8 240,.int .u8 240,.int .u8 240,.int .u8 240,.int .u8 240,.int .u8 240,.int .u8 240,.int .u8 240,.int .u8 240,.int .u8 240,.int .u8 240,.int .u8 240,.int .u8 240,.int .u8 240,.int .u8 240,.int .u8 240,.int .u8 240,.int .u8 240,.int .u8 240,.int .u8 240,.int .u8 240,.int .u8 240,.int .u8 240,.int .u8 240,.int .u8 240,.int .u8 240,.int .u8 240,.int .u8 240,.int .u8 240,.int .u8 240,.int .u8 240,.int .u8 240,.int .u8 240,.int .u8 240,.int .u8 240,.int .u8 240,.int .u8 240,.int .u8 240,.int .u8 240,.int .u8 240,.int .u8 240,.int .u8 240,.int .u8 240,.int .u8 240,.int .u8 240,.int .u8 240,.int .u8 240,.int .u8 240,.int .u8 240,.int .u8 240,.int .u8 240,.int .u8 240,.int .u8 240,.int .u8 240,.int .u8 240,.int .u8 240,.int .u8 240,.int .u8 240,.int .u8 240,.int .u8 240,.int .u8 240,.int .u8 240,.int .u8 240,.int .u8 240,.int .u8 240,.int .u8 240,.int .u8 240,.int .u8 240,.int .u8 240,.int .u8 240,.int .u8 240,.int .u8 240,.int .u8 240,.int .u8 240,.int .u8 240,.int .u8 240,.int .u8 240,.int .u8 241,.int .u8 241,.int .u8 241,.int .u8 241,.int .u8 241,.int .u8 241,.int .u8 241,.int .u8 241,.int .u8 241,.int .u8 241,.int .u8 241,.int .u8 241,.int .u8 241,.int .u8 241,.int .u8 241,.int .u8 241,.int .u8 241,.int .u8 241,.int .u8 241,.int .u8 241,.int .u8 241,.int .u8 241,.int .u8 241,.int .u8 241,.int .u8 241,.int .u8 241,.int .u8 241,.int .u8 241,.int .u8 241,.int .u8 241,.int .u8 241,.int .u8 241,.int .u8 241,.int .u8 241,.int .u8 241,.int .u8 241,.int .u8 241,.int .u8 241,.int .u8 241,.int .u8 241,.int .u8 241,.int .u8 241,.int .u8 241,.int .u8 241,.int .u8 241,.int .u8 241,.int .u8 241,.int .u8 241,.int .u8 241,.int .u8 241,.int .u8 241,.int .u8 241,.int .u8 241,.int .u8 241,.int .u8 241,.int .u8 241,.int .u8 241,.int .u8 241,.int .u8 241,.int .u8 241,.int .u8 241,.int .u8 241,.int .u8 241,.int .u8 241,.int .u8 241,.int .u8 241,.int .u8 2,.int .u8 2,.int .u8 2,.int .u8 2,.int .u8 2,.int .u8 2,.int .u8 2,.int .u8 2,.int .u8 2,.int .u8 2,.int .u8 2,.int .u8 2,.int .u8 2,.int .u8 2,.int .u8 2,.int .u8 2,.int .u8 2,.int .u8 2,.int .u8 2,.int .u8 2,.int .u8 2,.int .u8 2,.int .u8 2,.int .u8 2,.int .u8 2,.int .u8 2,.int .u8 2,.int .u8 2,.int .u8 2,.int .u8 2,.int .u8 19,.int .u8 3,.int .u8 3,.int .u8 3,.int .u8 3,.int .u8 3,.int .u8 3,.int .u8 3,.int .u8 3,.int .u8 3,.int .u8 3,.int .u8 3,.int .u8 3,.int .u8 35,.int .u8 3,.int .u8 3,.int .u8 52,.int .u8 4,.int .u8 4,.int .u8 4,.int .u8 68,.int .u8 241,.int .u8 241,.int .u8 241,.int .u8 241,.int .u8 241,.int .u8 241,.int .u8 241,.int .u8 241,.int .u8 241,.int .u8 241,.int .u8 241] t f|o=>o)}
set_option maxRecDepth 100000 in
theorem ZQ(os:Os)(args:Array Value):laidMet Tryz.prog Rows.fnExactCallPartRow.laid ((NQ os).forCall (fun _ _=>0) ⟨#[],args,[]⟩).memory :=
 laidMet_of_run' 8 (by kernel_rfl) (by kernel_rfl)
set_option maxRecDepth 100000 in
theorem lifted(os:Os)(started:os.Started)(H:Type)(enc:TypeId×Value->H) :
  ReturnsInHanded {} Tryz.checked os 3 .any (fun w args=>(Rows.fnExactCallPartSpec.pre enc Tryz.prog Tryz.f3 Rows.fnExactCallPartRow.domain false w args/\laidMet Tryz.prog Rows.fnExactCallPartRow.laid w)/\sizedMet enc Tryz.prog Tryz.f3 (OpenSpec.ofChange Rows.fnExactCallPartSpec) false w args)
   (Rows.fnExactCallPartSpec.post enc Tryz.prog Tryz.f3 false true false false):=by
 refine XK (C:=Tryz.checked) (X:=fun w _=>laidMet Tryz.prog Rows.fnExactCallPartRow.laid w) (fun _ _ _ hh h=>h.of_heap hh) Zp started (by kernel_rfl) Tryz.func3
  (ChangeSpec.witness_at (enc:=enc) (C:=Tryz.checked) (os:=os) (X:=fun w _=>laidMet Tryz.prog Rows.fnExactCallPartRow.laid w) false (NQ os) #[.agg #[.string ⟨#[]⟩,.bool false,.bool false,.slice none 0 0,.int .i64 0,.slice none 0 0],.agg #[.string ⟨#[]⟩,.string ⟨#[]⟩,.int .i64 0,.string ⟨#[]⟩]] 8 rfl (by kernel_rfl) (by kernel_rfl) (by kernel_rfl) (by kernel_rfl) (by kernel_rfl) (ZQ os _)) ?_
 intro W base args ds gs before Np hW _ GZ hsh hL _
 have hval: ∀(j:Nat) t v,Tryz.f3.params[j]? =some t->args[j]? =some v->Value.okWide Tryz.prog W .any base t v:=Np
 have hW':=hW
 obtain ⟨p,q,pZ,hV,rfl,hfz,hnd⟩:=hW
 have hA:DataW.TrodAll enc Tryz.prog W 0 (fun _=>true) true Tryz.f3.params.toList args.toList ds p:=pZ
 rw [Tryz.params3] at hA hval
 obtain ⟨v0,vs0,d0,ds0,p0,q0,hargs,rfl,rfl,h0,r0⟩:=trodAll_cons hA
 obtain ⟨v1,vs1,d1,ds1,p1,q1,rfl,rfl,rfl,h1,r1⟩:=trodAll_cons r0
 obtain ⟨rfl,rfl,rfl⟩:=trodAll_nil r1
 obtain rfl:args= #[v0,v1]:=by cases args;simp_all
 obtain ⟨rfl,rfl⟩:=trodVars_none hV
 have k0:=h0
 have lt0: ∀x∈p0,x.block<W.heap.size:=by obtain ⟨m,hm⟩:=k0;exact DataW.trod_lt m _ _ _ hm
 have k1:=h1
 have lt1: ∀x∈p1,x.block<W.heap.size:=by obtain ⟨m,hm⟩:=k1;exact DataW.trod_lt m _ _ _ hm
 obtain ⟨x0,y0,z0⟩:=OU BN (by kernel_rfl) (hval 0 27 v0 rfl rfl) h0
 obtain ⟨x1,y1,z1⟩:=OU BN (by kernel_rfl) (hval 1 29 v1 rfl rfl) h1
 clear pZ Np
 refine ((law_run (main [x0,x1] ⟨y0,y1,trivial⟩) ⟨fun p hp=>hp.elim,start hsh hL⟩ (show Rs W M0 [x0,x1] [v0,v1] from ⟨_,_,rfl,z0,⟨_,_,rfl,z1,rfl⟩⟩))).mono fun e W' ⟨he,dX⟩=> ?_
 subst he
 exact ⟨_,rfl,_,_,_,[],_,[],hW',trodAll_mk1 (shut_bool Tryz.underlying4 _),(trodAll_cons_mk (Below.trod Hk (by kernel_rfl) (of_decide_eq_true (by kernel_rfl)) k0 dX lt0) (trodAll_cons_mk (Below.trod Hk (by kernel_rfl) (of_decide_eq_true (by kernel_rfl)) k1 dX lt1) trodAll_mk0)),rfl,dX.frame _,fun h=>by cases h⟩
theorem over:Rows.fnExactCallPartRow.holds Tryz.pinned (OpenSpec.ofChange Rows.fnExactCallPartSpec) :=
 OpenClaim.holds_of_wide 3 Tryz.f3 rfl rfl rfl rfl rfl rfl rfl ⟨rfl,rfl,rfl,rfl,rfl⟩ rfl rfl rfl rfl rfl (by kernel_rfl) Tryz.func3 closed
  (of_decide_eq_true (by kernel_rfl)) (by unfold Func.isWrapper;first|(rw [if_pos (by decide +kernel)];kernel_rfl)|(rw [if_neg (by decide +kernel)];exact ⟨rfl,rfl⟩))
  (fun os started H enc _=>lifted os started H enc)
theorem abT:Rows.fnExactCallPartRow.laidByTextAt .later Tryz.pinned [.data,.data,.data,.data,.sentinel,.sentinel,.pinned] true:=fnExactCallPart_row_tie
theorem proved:Rows.FnExactCallPartCardSaid :=
 Claim7.holds_tied_plain_at .later [] [.data,.data,.data,.data,.sentinel,.sentinel,.pinned] true Rows.fnExactCallPartCard.stood.harness true
  over (fun _ h=>by cases h) (by kernel_rfl) (fun _ h=>by cases h) abT rfl ⟨rfl,rfl⟩ (by kernel_rfl) rfl
  (fun f fn hf hfn=>by
   obtain rfl:f=3:=Option.some.inj ((show Tryz.prog.funcNamed Rows.fnExactCallPartRow.func=some 3 by kernel_rfl).symm.trans hf) |>.symm
   obtain rfl:fn=Tryz.f3:=(Option.some.inj (Tryz.func3.symm.trans hfn)).symm
   exact ⟨by kernel_rfl,ade (by kernel_rfl)⟩)
  (by kernel_rfl)
#print axioms proved
end Go.Proofs.YtimickglpboilaaGreatDoor.lawFnExactCallPart
