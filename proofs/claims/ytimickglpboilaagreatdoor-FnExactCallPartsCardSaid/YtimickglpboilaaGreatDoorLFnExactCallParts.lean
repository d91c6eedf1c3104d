/- FnExactCallParts holds for every input, in every start where the variables hold what the program's text lays: the law walked over the contracts of what it calls, with marks written into the arguments' copies and into the answer; the row; the card. -/
import Derived.Test.YtimickglpboilaaGreatDoorG22
namespace Go.Proofs.YtimickglpboilaaGreatDoor.lawFnExactCallParts
open Go.ChangeShapes Go.WideShapes Go.ChangeAt Go.RowKit Go
set_option linter.unusedVariables false
set_option linter.unusedSimpArgs false
set_option maxRecDepth 100000
instance instGC:GC where
 inv:=fun w=>j0 w 1 (fun cs=> ∃tp p,cs= #[.iface tp p])/\j0 w 0 (fun cs=> ∃m,cs[0]? =some (Value.int .i64 m))/\j0 w 3 (fun cs=>cs=(Lib.pow10Tab.map fun z=>Value.int .u64 z).toArray)
 ng:=3+1
 keep:=fun h k=>⟨k.1.keep (by decide) h,k.2.1.keep (by decide) h,k.2.2.keep (by decide) h⟩
instance :og:=⟨fun _ h=>h.1⟩
instance :mi:=⟨fun _ h=>h.2.1⟩
instance :kI:=⟨fun _ h=>h.2.2⟩
theorem start{W:World}(hsh:W.ShapedOpen Tryz.prog)(hL:laidMet Tryz.prog Rows.fnExactCallPartsRow.laid W):j6 W/\NG<=W.heap.size:=by
 have h:=adu (by kernel_rfl) hL.tail.tail
 exact ⟨⟨ads (by kernel_rfl) hL.tail.tail.tail.tail.tail,adt hsh,h⟩,Xx h⟩
theorem Bf:(Tryz.prog.info? 27).map (·.size)=some 6:=by kernel_rfl
theorem OP.one{lo hi:Nat}{w:World}{S1 S2:Value}{p:Part}(h:OP lo hi w S1 S2 p): ∀u∈(aE p S1 S2).toList,u.oneCell'=true:=by
 obtain ⟨g1,q1⟩:=h.r1
 obtain ⟨g2,q2⟩:=h.r2
 obtain ⟨a,c,rfl,_⟩:=q1.qt
 obtain ⟨a',c',rfl,_⟩:=q2.qt
 exact za _
theorem acm{w:World}{M:Addr->Prop}{S1 S2:Value}{p:Part}(h:R w M (enc p) (.agg (aE p S1 S2))): ∀u∈(aE p S1 S2).toList,u.oneCell'=true:=by
 obtain ⟨G1,G2,e,⟨a,n,c,rfl,_⟩,⟨a',n',c',rfl,_⟩,_⟩:=rW h
 cases e
 exact za _
theorem adG{l:List Call}(h:Sm.sm l):l.length<=1048576/\ ∀x∈l,x.text.size<=1048576:=by
 refine ⟨(nW.1 h).1,fun x hx=> ?_⟩
 obtain ⟨i,hi,rfl⟩:=List.mem_iff_getElem.1 hx
 have:=(nW.1 h).2 i hi
 rw [show nth l i=l[i] by simp [nth,hi]] at this
 exact (adE.1 this).2.2
theorem abk{p:Part}(h:mN p)(l:List Call):mN (aR p l).1:=by
 induction l generalizing p with
 | nil=>exact h
 | cons x l ih =>
  rw [aR]
  split
  ·exact Hy h x
  ·exact ih (Hy h x)
theorem ace(p:Part)(l:List Call):(aR p l).2.length<=l.length:=by
 induction l generalizing p with
 | nil=>exact Nat.le_refl _
 | cons x l ih =>
  rw [aR]
  split
  ·simp
  ·have:=ih (cW p x).1
   simp;omega
set_option maxHeartbeats 8000000 in
theorem walk(p:Part)(l:List Call)(w:World)(hG:Rd w)(vp AL:Value)(hv:R w (fun _=>False) (enc p) vp)(hx:R w (fun _=>False) (aN l) AL) :
  Calls Tryz.prog 4 #[vp,AL] w fun e w'=>e= .returned (.bool true)/\Below w.heap.size w w':=by
 obtain ⟨A1,A2,rfl, -, -, -, -⟩:=rW hv
 change R w _ (enc p) (.agg (aE p A1 A2)) at hv
 obtain ⟨_,⟨m0,rfl,_,p0,q0⟩,hz⟩:=ajg p 1048576 (by omega) (by omega)
 have hb0:m0<0\/0<=m0:=by omega
 have Tr: ∀(w0:World),Rd w0->R w0 (fun _=>False) (enc p) (.agg (aE p A1 A2))->_:=fun w0 hG h=>aD.calls hz hG (vs:=[.agg (aE p A1 A2),.int .i64 1048576]) ⟨_,_,rfl,h,_,[],rfl,yN (by omega) (by omega),rfl⟩
 have hp0:=p0
 clear p0
 have HV:=R.over hv
 have HL:=R.over hx
 have HG:=hG
 refine qc (E:=[(0,.agg (aE p A1 A2)),(1,AL)]) Tryz.func4 rfl Tryz.ntmps4 (by simp) (by simp [aE]) ?_
 refine CW.seq (CW.region ?_)
 refine WL.vv rfl rfl (jH rfl rfl) (by decide) ?_
 refine WL.vv rfl rfl (cq rfl rfl) (by decide) ?_
 refine WL.nil (NX.next ?_)
 show CW _ Tryz.prog _ _ _ (w.alloc (.cells (aE p A1 A2) 27))
 refine CW.sub (E':=[(1,AL),(2,.pointer (some ⟨w.heap.size,0,none⟩))]) ⟨rfl,rfl,trivial⟩ ?_
 have HB:Below w.heap.size w (w.alloc (.cells (aE p A1 A2) 27)):=tr w (aE p A1 A2) 27
 have p0:=aJ.new w 27 (aE p A1 A2)
 generalize w.alloc (.cells (aE p A1 A2) 27)=w0 at HB p0 ⊢
 replace HV:=aX HV HB
 replace HL:=aX HL HB
 replace HG:=HG.below HB
 have Na:=hG.2.2
 have le0:=p0.lt
 clear hv hx
 refine CW.seq (CW.region ?_)
 refine WL.vv rfl rfl (cq rfl rfl) (by decide) ?_
 refine WL.nil (NX.next ?_)
 refine CW.sub (E':=[(1,AL),(2,.pointer (some ⟨w.heap.size,0,none⟩)),(5,.int .i64 1048576)]) ⟨rfl,rfl,rfl,trivial⟩ ?_
 refine CW.seq (CW.region ?_)
 refine WL.vv rfl rfl (bz rfl rfl Tryz.underlying27 rfl p0 Bf) (by decide) ?_
 refine WL.vv rfl rfl (aU rfl rfl) (by decide) ?_
 refine WL.c rfl rfl (bT (args:= #[.agg (aE p A1 A2),.int .i64 1048576]) (by kernel_rfl) rfl rfl rfl) (by decide) (Tr w0 HG HV.zero) ?_
 rintro _ w1 ⟨_,rfl,⟨rfl, -⟩,hb1⟩
 have Hf:=hb1.size
 replace HG:=HG.below hb1
 replace HV:=aX HV hb1
 replace HL:=aX HL hb1
 replace p0:=p0.below hb1 p0.lt
 replace HB:=bt HB hb1
 refine ⟨_,rfl,?_⟩
 refine WL.vv rfl rfl (cq rfl rfl) (by decide) ?_
 refine WL.nil (NX.next ?_)
 refine CW.sub (E':=[(1,AL),(2,.pointer (some ⟨w.heap.size,0,none⟩)),(5,.int .i64 m0)]) ⟨rfl,rfl,rfl,trivial⟩ ?_
 rcases hb0 with hneg|hpos
 ·refine CW.seq (CW.seq (CW.region ?_))
  refine WL.vv rfl rfl (aU rfl rfl) (by decide) ?_
  refine WL.vv rfl rfl (gr (b:=true) rfl rfl rfl rfl (by simp [aS]<;>omega)) (by decide) ?_
  refine WL.nil (NX.next (CW.yes rfl (CW.seq (CW.region ?_))))
  refine WL.vv rfl rfl (cq rfl rfl) (by decide) ?_
  exact WL.nil (NX.next (CW.ret (NX.ret (NX.zO rfl rfl ⟨rfl,HB⟩))))
 have s0:=q0 (by omega)
 obtain ⟨_,⟨m1,rfl,_,p1',q1⟩,hz2⟩:=aja l m0 (by omega) (by omega)
 have hb1:m1<0\/0<=m1:=by omega
 have Tt: ∀(w0:World),Rd w0->R w0 (fun _=>False) (aN l) AL->_:=fun w0 hG h=>aD.calls hz2 hG (vs:=[AL,.int .i64 m0]) ⟨_,_,rfl,h,_,[],rfl,yN (by omega) (by omega),rfl⟩
 clear p1'
 refine CW.seq (CW.seq (CW.region ?_))
 refine WL.vv rfl rfl (aU rfl rfl) (by decide) ?_
 refine WL.vv rfl rfl (gr (b:=false) rfl rfl rfl rfl (by simp [aS]<;>omega)) (by decide) ?_
 refine WL.nil (NX.next (CW.no rfl (CW.skip (NX.next ?_))))
 refine CW.sub (E':=[(1,AL),(2,.pointer (some ⟨w.heap.size,0,none⟩)),(5,.int .i64 m0)]) ⟨rfl,rfl,rfl,trivial⟩ ?_
 refine CW.seq (CW.region ?_)
 refine WL.vv rfl rfl (aU rfl rfl) (by decide) ?_
 refine WL.vv rfl rfl (aU rfl rfl) (by decide) ?_
 refine WL.c rfl rfl (bT (args:= #[AL,.int .i64 m0]) (by kernel_rfl) rfl rfl rfl) (by decide) (Tt w1 HG HL.zero) ?_
 rintro _ w2 ⟨_,rfl,⟨rfl, -⟩,hb2⟩
 have DJ:=hb2.size
 replace HG:=HG.below hb2
 replace HV:=aX HV hb2
 replace HL:=aX HL hb2
 replace p0:=p0.below hb2 p0.lt
 replace HB:=bt HB hb2
 refine ⟨_,rfl,?_⟩
 refine WL.vv rfl rfl (cq rfl rfl) (by decide) ?_
 refine WL.nil (NX.next ?_)
 refine CW.sub (E':=[(1,AL),(2,.pointer (some ⟨w.heap.size,0,none⟩)),(5,.int .i64 m1)]) ⟨rfl,rfl,rfl,trivial⟩ ?_
 rcases hb1 with hneg|hpos
 ·refine CW.seq (CW.seq (CW.region ?_))
  refine WL.vv rfl rfl (aU rfl rfl) (by decide) ?_
  refine WL.vv rfl rfl (gr (b:=true) rfl rfl rfl rfl (by simp [aS]<;>omega)) (by decide) ?_
  refine WL.nil (NX.next (CW.yes rfl (CW.seq (CW.region ?_))))
  refine WL.vv rfl rfl (cq rfl rfl) (by decide) ?_
  exact WL.nil (NX.next (CW.ret (NX.ret (NX.zO rfl rfl ⟨rfl,HB⟩))))
 have s1:=q1 (by omega)
 have hs1:=(nW.1 (adF.1 s0.1).2).1
 have hs2:=(nW.1 s0.2).1
 have hp:mN p:=⟨hs1,hs2⟩
 obtain ⟨hl0,hl1⟩:=adG s1
 have hq:=abk hp l
 have hq1:=hq.1
 have hq2:=hq.2
 have hq3:=ace p l
 clear hz hz2 q0 q1 hq
 refine CW.seq (CW.seq (CW.region ?_))
 refine WL.vv rfl rfl (aU rfl rfl) (by decide) ?_
 refine WL.vv rfl rfl (gr (b:=false) rfl rfl rfl rfl (by simp [aS]<;>omega)) (by decide) ?_
 refine WL.nil (NX.next (CW.no rfl (CW.skip (NX.next ?_))))
 refine CW.sub (E':=[(1,AL),(2,.pointer (some ⟨w.heap.size,0,none⟩))]) ⟨rfl,rfl,trivial⟩ ?_
 refine CW.seq (CW.region ?_)
 refine WL.vv rfl rfl (bz rfl rfl Tryz.underlying27 rfl p0 Bf) (by decide) ?_
 refine WL.c rfl rfl (bT (args:= #[.agg (aE p A1 A2)]) (by kernel_rfl) rfl rfl rfl) (by decide) (Ew s0 HG HV.zero) ?_
 rintro _ w3 ⟨UA,UH,rfl,hw3,hb3⟩
 have DK:=hb3.size
 replace HG:=HG.below hb3
 replace HV:=aX HV hb3
 replace HL:=aX HL hb3
 replace p0:=p0.below hb3 p0.lt
 replace HB:=bt HB hb3
 have HT1:=hw3
 refine ⟨_,rfl,?_⟩
 refine WL.vv rfl rfl (aU rfl rfl) (by decide) ?_
 refine WL.c rfl rfl (bT (args:= #[AL]) (by kernel_rfl) rfl rfl rfl) (by decide) (Ev s1 HG HL.zero) ?_
 rintro _ w4 ⟨Td,rfl,Zg,hb4⟩
 have Hk:=hb4.size
 replace HG:=HG.below hb4
 replace HV:=aX HV hb4
 replace HL:=aX HL hb4
 replace p0:=p0.below hb4 p0.lt
 replace HB:=bt HB hb4
 replace HT1:=HT1.below hb4
 have Ca:=Zg
 refine ⟨_,rfl,?_⟩
 refine WL.c rfl rfl (bT (args:= #[.agg (aE p UA UH),Td]) (by kernel_rfl) rfl rfl rfl) (by decide) (ai5 hp hl0 hl1 HG HT1.data Ca.data) ?_
 rintro _ w5 ⟨G1,G2,G3,rfl,hk1,hk2,hb5⟩
 have aaG:=hb5.size
 replace HG:=HG.below hb5
 replace HV:=aX HV hb5
 replace HL:=aX HL hb5
 replace p0:=p0.below hb5 p0.lt
 replace HB:=bt HB hb5
 replace HT1:=HT1.below hb5
 replace Ca:=Ca.below hb5
 have HS:=R.over hk1
 have HR:=R.over hk2
 clear hk1 hk2 HT1 Ca
 refine ⟨_,rfl,?_⟩
 refine WL.vv rfl rfl (aU rfl rfl) (by decide) ?_
 refine WL.vv rfl rfl (dQ rfl rfl rfl) (by decide) ?_
 refine WL.vv rfl rfl (dQ rfl rfl rfl) (by decide) ?_
 refine WL.vv rfl rfl (cJ rfl gJ) (by decide) ?_
 refine WL.st rfl rfl rfl rfl (cs:=(aE (aR p l).1 G1 G2)) rfl (show aJ (w5.alloc (.cells bF 37)) w5.heap.size 37 bF from aJ.new w5 _ _) rfl (acm HS) aW fun w6 bA j8=> ?_
 have ep:Below w5.heap.size w5 w6:=qa j8
 have akg:w5.heap.size<w6.heap.size:=bA.lt
 replace HG:=HG.below ep
 replace HV:=aX HV ep
 replace HL:=aX HL ep
 replace p0:=p0.below ep p0.lt
 replace HB:=bt HB ep
 replace HS:=aX HS ep
 replace HR:=aX HR ep
 refine WL.vv rfl rfl (cq rfl rfl) (by decide) ?_
 refine WL.nil (NX.next ?_)
 refine CW.sub (E':=[(1,AL),(2,.pointer (some ⟨w.heap.size,0,none⟩)),(6,.pointer (some ⟨w5.heap.size,0,none⟩)),(7,G3)]) ⟨rfl,rfl,rfl,rfl,trivial⟩ ?_
 refine CW.seq (CW.region ?_)
 refine WL.vv rfl rfl (bz rfl rfl Tryz.underlying27 rfl p0 Bf) (by decide) ?_
 refine WL.c rfl rfl (bT (args:= #[.agg (aE p A1 A2)]) (by kernel_rfl) rfl rfl rfl) (by decide) (Ew s0 HG HV.zero) ?_
 rintro _ w7 ⟨zI,zJ,rfl,Zh,iM⟩
 have Hm:=iM.size
 replace HG:=HG.below iM
 replace HV:=aX HV iM
 replace HL:=aX HL iM
 replace p0:=p0.below iM p0.lt
 replace HB:=bt HB iM
 replace HS:=aX HS iM
 replace HR:=aX HR iM
 replace bA:=bA.below iM bA.lt
 have gC:=Zh
 refine ⟨_,rfl,?_⟩
 refine WL.vv rfl rfl (cJ rfl gJ) (by decide) ?_
 refine WL.st rfl rfl rfl rfl (cs:=(aE p zI zJ)) rfl (show aJ (w7.alloc (.cells bF 37)) w7.heap.size 37 bF from aJ.new w7 _ _) rfl (OP.one gC) aW fun w8 bG TD=> ?_
 have iN:Below w7.heap.size w7 w8:=qa TD
 have akh:w7.heap.size<w8.heap.size:=bG.lt
 replace HG:=HG.below iN
 replace HV:=aX HV iN
 replace HL:=aX HL iN
 replace p0:=p0.below iN p0.lt
 replace HB:=bt HB iN
 replace HS:=aX HS iN
 replace HR:=aX HR iN
 replace bA:=bA.below iN bA.lt
 replace gC:=gC.below iN
 refine WL.nil (NX.next ?_)
 refine CW.sub (E':=[(1,AL),(2,.pointer (some ⟨w.heap.size,0,none⟩)),(6,.pointer (some ⟨w5.heap.size,0,none⟩)),(7,G3),(8,.pointer (some ⟨w7.heap.size,0,none⟩))]) ⟨rfl,rfl,rfl,rfl,rfl,trivial⟩ ?_
 refine CW.seq (CW.region ?_)
 refine WL.vv rfl rfl (aU rfl rfl) (by decide) ?_
 refine WL.c rfl rfl (bT (args:= #[AL]) (by kernel_rfl) rfl rfl rfl) (by decide) (Ev s1 HG HL.zero) ?_
 rintro _ w9 ⟨pU,rfl,Zi,ig⟩
 have Ho:=ig.size
 replace HG:=HG.below ig
 replace HV:=aX HV ig
 replace HL:=aX HL ig
 replace p0:=p0.below ig p0.lt
 replace HB:=bt HB ig
 replace HS:=aX HS ig
 replace HR:=aX HR ig
 replace bA:=bA.below ig bA.lt
 replace gC:=gC.below ig
 replace bG:=bG.below ig bG.lt
 have hO:=Zi
 refine ⟨_,rfl,?_⟩
 refine WL.vv rfl rfl (cq rfl rfl) (by decide) ?_
 refine WL.nil (NX.next ?_)
 refine CW.sub (E':=[(1,AL),(2,.pointer (some ⟨w.heap.size,0,none⟩)),(6,.pointer (some ⟨w5.heap.size,0,none⟩)),(7,G3),(8,.pointer (some ⟨w7.heap.size,0,none⟩)),(9,pU)]) ⟨rfl,rfl,rfl,rfl,rfl,rfl,trivial⟩ ?_
 refine CW.seq (CW.region ?_)
 refine WL.vv rfl rfl (bz rfl rfl Tryz.underlying37 rfl bG aW) (by decide) ?_
 refine WL.vv rfl rfl (aU rfl rfl) (by decide) ?_
 refine WL.c rfl rfl (bT (args:= #[.agg (aE p zI zJ),pU]) (by kernel_rfl) rfl rfl rfl) (by decide) (SW hp hl0 hl1 HG gC.data hO.data) ?_
 rintro _ fJ ⟨I1,I2,I3,rfl,hk1,gW⟩
 have Hg:=gW.size
 replace HG:=HG.below gW
 replace HV:=aX HV gW
 replace HL:=aX HL gW
 replace p0:=p0.below gW p0.lt
 replace HB:=bt HB gW
 replace HS:=aX HS gW
 replace HR:=aX HR gW
 replace bA:=bA.below gW bA.lt
 replace gC:=gC.below gW
 replace bG:=bG.below gW bG.lt
 replace hO:=hO.below gW
 have HA:=hk1
 have hha:=HA.op.le
 clear hk1
 refine ⟨_,rfl,?_⟩
 refine WL.vv rfl rfl (aU rfl rfl) (by decide) ?_
 refine WL.vv rfl rfl (dQ rfl rfl rfl) (by decide) ?_
 refine WL.vv rfl rfl (dQ rfl rfl rfl) (by decide) ?_
 refine WL.vv rfl rfl (cJ rfl gJ) (by decide) ?_
 refine WL.st rfl rfl rfl rfl (cs:=(aE (aR p l).1 I1 I2)) rfl (show aJ (fJ.alloc (.cells bF 37)) fJ.heap.size 37 bF from aJ.new fJ _ _) rfl (OP.one HA.op) aW fun pS bS pX=> ?_
 have gX:Below fJ.heap.size fJ pS:=qa pX
 have ake:fJ.heap.size<pS.heap.size:=bS.lt
 replace HG:=HG.below gX
 replace HV:=aX HV gX
 replace HL:=aX HL gX
 replace p0:=p0.below gX p0.lt
 replace HB:=bt HB gX
 replace HS:=aX HS gX
 replace HR:=aX HR gX
 replace bA:=bA.below gX bA.lt
 replace gC:=gC.below gX
 replace bG:=bG.below gX bG.lt
 replace hO:=hO.below gX
 replace HA:=HA.below gX
 refine WL.vv rfl rfl (cq rfl rfl) (by decide) ?_
 refine WL.nil (NX.next ?_)
 refine CW.sub (E':=[(1,AL),(2,.pointer (some ⟨w.heap.size,0,none⟩)),(6,.pointer (some ⟨w5.heap.size,0,none⟩)),(7,G3),(8,.pointer (some ⟨w7.heap.size,0,none⟩)),(9,pU),(10,.pointer (some ⟨fJ.heap.size,0,none⟩)),(11,I3)]) ⟨rfl,rfl,rfl,rfl,rfl,rfl,rfl,rfl,trivial⟩ ?_
 refine CW.seq (CW.seq (CW.region ?_))
 refine WL.vv rfl rfl (bz rfl rfl Tryz.underlying37 rfl bS aW) (by decide) ?_
 refine WL.vv rfl rfl (bz rfl rfl Tryz.underlying37 rfl bA aW) (by decide) ?_
 refine WL.c rfl rfl (bT (args:= #[.agg (aE (aR p l).1 I1 I2),.agg (aE (aR p l).1 G1 G2)]) (by kernel_rfl) rfl rfl rfl) (by decide) (Eu HG HA.op.data HS) ?_
 rintro _ Jc ⟨rfl,mE⟩
 have NZ:=mE.size
 replace HG:=HG.below mE
 replace HV:=aX HV mE
 replace HL:=aX HL mE
 replace p0:=p0.below mE p0.lt
 replace HB:=bt HB mE
 replace HS:=aX HS mE
 replace HR:=aX HR mE
 replace bA:=bA.below mE bA.lt
 replace gC:=gC.below mE
 replace bG:=bG.below mE bG.lt
 replace hO:=hO.below mE
 replace HA:=HA.below mE
 replace bS:=bS.below mE bS.lt
 refine ⟨_,rfl,?_⟩
 refine WL.vv rfl rfl (uj rfl rfl rfl) (by decide) ?_
 refine WL.vv rfl rfl (aU rfl rfl) (by decide) ?_
 refine WL.vg (b:=false) rfl rfl rfl rfl (aU rfl rfl) (by decide) ?_
 refine WL.vg (b:=false) rfl rfl rfl rfl (aU rfl rfl) (by decide) ?_
 refine WL.cg (b:=false) rfl rfl rfl rfl (bT (args:= #[I3,G3]) (by kernel_rfl) rfl rfl rfl) (by decide) (Jj HG HA.os.data HR) ?_
 rintro _ Jd ⟨rfl,mF⟩
 have akN:=mF.size
 replace HG:=HG.below mF
 replace HV:=aX HV mF
 replace HL:=aX HL mF
 replace p0:=p0.below mF p0.lt
 replace HB:=bt HB mF
 replace HS:=aX HS mF
 replace HR:=aX HR mF
 replace bA:=bA.below mF bA.lt
 replace gC:=gC.below mF
 replace bG:=bG.below mF bG.lt
 replace hO:=hO.below mF
 replace HA:=HA.below mF
 replace bS:=bS.below mF bS.lt
 refine ⟨_,rfl,?_⟩
 refine WL.vg (b:=false) rfl rfl rfl rfl (uj rfl rfl rfl) (by decide) ?_
 refine WL.vv rfl rfl (pM rfl rfl rfl) (by decide) ?_
 refine WL.nil (NX.next (CW.no rfl (CW.skip (NX.next ?_))))
 refine CW.sub (E':=[(1,AL),(2,.pointer (some ⟨w.heap.size,0,none⟩)),(6,.pointer (some ⟨w5.heap.size,0,none⟩)),(7,G3),(8,.pointer (some ⟨w7.heap.size,0,none⟩)),(9,pU),(10,.pointer (some ⟨fJ.heap.size,0,none⟩)),(11,I3)]) ⟨rfl,rfl,rfl,rfl,rfl,rfl,rfl,rfl,trivial⟩ ?_
 refine CW.seq (CW.seq (CW.any (fun W=>aJ W w7.heap.size 37 (aE p zI zJ)/\aJ W w.heap.size 27 (aE p A1 A2)) 4 mo fun zx aki mG=> ?_))
 replace HG:=HG.below mG
 replace HV:=aX HV mG
 replace HL:=aX HL mG
 replace p0:=p0.below mG p0.lt
 replace HB:=bt HB mG
 replace HS:=aX HS mG
 replace HR:=aX HR mG
 replace bA:=bA.below mG bA.lt
 replace gC:=gC.below mG
 replace bG:=bG.below mG bG.lt
 replace hO:=hO.below mG
 replace HA:=HA.below mG
 replace bS:=bS.below mG bS.lt
 have N7:=mG.size
 refine ⟨⟨bG,p0⟩,?_⟩
 refine AU.tk 0 rfl (by kernel_rfl) (fun _ _ _ h=>h) rfl rfl (fun W hW=>bz rfl rfl Tryz.underlying37 rfl hW.1 aW) (by decide) ⟨bG,p0⟩ ?_
 refine AU.tk 1 rfl (by kernel_rfl) (fun _ _ _ h=>h) rfl rfl (fun W hW=>bz rfl rfl Tryz.underlying27 rfl hW.2 Bf) (by decide) ⟨bG,p0⟩ ?_
 refine AU.c 2 (args:= #[.agg (aE p A1 A2)]) rfl (by kernel_rfl) rfl rfl (bT (by kernel_rfl) rfl rfl rfl) (by decide) (Ew s0 HG HV.zero) ?_
 rintro _ Et ⟨Uy,UF,rfl,Zc,mH⟩
 have Hj:=mH.size
 replace HG:=HG.below mH
 replace HV:=aX HV mH
 replace HL:=aX HL mH
 replace p0:=p0.below mH p0.lt
 replace HB:=bt HB mH
 replace HS:=aX HS mH
 replace HR:=aX HR mH
 replace bA:=bA.below mH bA.lt
 replace gC:=gC.below mH
 replace bG:=bG.below mH bG.lt
 replace hO:=hO.below mH
 replace HA:=HA.below mH
 replace bS:=bS.below mH bS.lt
 have HY:=Zc
 refine ⟨_,rfl,fun _=>⟨bG,p0⟩,?_⟩
 refine AU.c 3 (args:= #[.agg (aE p zI zJ),.agg (aE p Uy UF)]) rfl (by kernel_rfl) rfl rfl (bT (by kernel_rfl) rfl rfl rfl) (by decide) (Eu HG gC.data HY.data) ?_
 rintro _ SP ⟨rfl,lI⟩
 have akO:=lI.size
 replace HG:=HG.below lI
 replace HV:=aX HV lI
 replace HL:=aX HL lI
 replace p0:=p0.below lI p0.lt
 replace HB:=bt HB lI
 replace HS:=aX HS lI
 replace HR:=aX HR lI
 replace bA:=bA.below lI bA.lt
 replace gC:=gC.below lI
 replace bG:=bG.below lI bG.lt
 replace hO:=hO.below lI
 replace HA:=HA.below lI
 replace bS:=bS.below lI bS.lt
 replace HY:=HY.below lI
 clear HY
 refine ⟨_,rfl,fun _=>⟨bG,p0⟩,?_⟩
 refine AU.vv 4 rfl (by kernel_rfl) rfl rfl (uj rfl rfl rfl) (by decide) (fun _=>⟨bG,p0⟩) ?_
 refine AU.done (by kernel_rfl) (NX.next (CW.no rfl (CW.skip (NX.next ?_))))
 refine CW.sub (E':=[(1,AL),(2,.pointer (some ⟨w.heap.size,0,none⟩)),(6,.pointer (some ⟨w5.heap.size,0,none⟩)),(7,G3),(8,.pointer (some ⟨w7.heap.size,0,none⟩)),(9,pU),(10,.pointer (some ⟨fJ.heap.size,0,none⟩)),(11,I3)]) ⟨rfl,rfl,rfl,rfl,rfl,rfl,rfl,rfl,trivial⟩ ?_
 refine CW.seq (CW.seq (CW.region ?_))
 refine WL.vv rfl rfl (aU rfl rfl) (by decide) ?_
 refine WL.vv rfl rfl (aU rfl rfl) (by decide) ?_
 refine WL.c rfl rfl (bT (args:= #[AL]) (by kernel_rfl) rfl rfl rfl) (by decide) (Ev s1 HG HL.zero) ?_
 rintro _ w17 ⟨Tb,rfl,Zd,mI⟩
 have aar:=mI.size
 replace HG:=HG.below mI
 replace HV:=aX HV mI
 replace HL:=aX HL mI
 replace p0:=p0.below mI p0.lt
 replace HB:=bt HB mI
 replace HS:=aX HS mI
 replace HR:=aX HR mI
 replace bA:=bA.below mI bA.lt
 replace gC:=gC.below mI
 replace bG:=bG.below mI bG.lt
 replace hO:=hO.below mI
 replace HA:=HA.below mI
 replace bS:=bS.below mI bS.lt
 have HZ:=Zd
 refine ⟨_,rfl,?_⟩
 refine WL.c rfl rfl (bT (args:= #[pU,Tb]) (by kernel_rfl) rfl rfl rfl) (by decide) (ai3 HG hO.data HZ.data) ?_
 rintro _ w18 ⟨rfl,lJ⟩
 have aas:=lJ.size
 replace HG:=HG.below lJ
 replace HV:=aX HV lJ
 replace HL:=aX HL lJ
 replace p0:=p0.below lJ p0.lt
 replace HB:=bt HB lJ
 replace HS:=aX HS lJ
 replace HR:=aX HR lJ
 replace bA:=bA.below lJ bA.lt
 replace gC:=gC.below lJ
 replace bG:=bG.below lJ bG.lt
 replace hO:=hO.below lJ
 replace HA:=HA.below lJ
 replace bS:=bS.below lJ bS.lt
 replace HZ:=HZ.below lJ
 clear HZ
 refine ⟨_,rfl,?_⟩
 refine WL.vv rfl rfl (uj rfl rfl rfl) (by decide) ?_
 refine WL.nil (NX.next (CW.no rfl (CW.skip (NX.next ?_))))
 refine CW.sub (E':=[(1,AL),(2,.pointer (some ⟨w.heap.size,0,none⟩)),(6,.pointer (some ⟨w5.heap.size,0,none⟩)),(7,G3),(8,.pointer (some ⟨w7.heap.size,0,none⟩)),(9,pU),(10,.pointer (some ⟨fJ.heap.size,0,none⟩)),(11,I3)]) ⟨rfl,rfl,rfl,rfl,rfl,rfl,rfl,rfl,trivial⟩ ?_
 refine CW.seq (CW.region ?_)
 refine WL.vv rfl rfl (cq rfl rfl) (by decide) ?_
 refine WL.nil (NX.next ?_)
 refine CW.sub (E':=[(1,AL),(2,.pointer (some ⟨w.heap.size,0,none⟩)),(6,.pointer (some ⟨w5.heap.size,0,none⟩)),(7,G3),(8,.pointer (some ⟨w7.heap.size,0,none⟩)),(9,pU),(10,.pointer (some ⟨fJ.heap.size,0,none⟩)),(11,I3),(12,.int .i64 1)]) ⟨rfl,rfl,rfl,rfl,rfl,rfl,rfl,rfl,rfl,trivial⟩ ?_
 refine CW.seq (CW.region ?_)
 refine WL.vv rfl rfl (bz rfl rfl Tryz.underlying37 rfl bG aW) (by decide) ?_
 refine WL.vv rfl rfl (aU rfl rfl) (by decide) ?_
 have hm:=gC.mark 1 HG (by omega) (by omega)
 clear gC
 refine WL.c rfl rfl (bT (args:= #[.agg (aE p zI zJ),.int .i64 1]) (by kernel_rfl) rfl rfl rfl) (by decide) (hm) ?_
 rintro _ sw ⟨rfl,ha,hr⟩
 have aat:=ha.size
 replace HG:=HG.alt ha fun p hp=>by omega
 replace HV:=kZ HV ha fun p hp=>by omega
 replace HL:=kZ HL ha fun p hp=>by omega
 replace p0:=p0.alt ha fun p hp e=>by omega
 replace HB:=Cm HB (ha.jI (by omega) fun p hp=>by omega)
 replace HS:=kZ HS ha fun p hp=>by omega
 replace HR:=kZ HR ha fun p hp=>by omega
 replace bA:=bA.alt ha fun p hp e=>by omega
 replace bG:=bG.alt ha fun p hp e=>by omega
 replace hO:=hO.alt ha fun p hp=>by omega
 replace HA:=HA.alt ha fun p hp=>by omega
 replace bS:=bS.alt ha fun p hp e=>by omega
 clear ha hm hr
 refine ⟨_,rfl,?_⟩
 refine WL.vv rfl rfl (cq rfl rfl) (by decide) ?_
 refine WL.nil (NX.next ?_)
 refine CW.sub (E':=[(1,AL),(2,.pointer (some ⟨w.heap.size,0,none⟩)),(6,.pointer (some ⟨w5.heap.size,0,none⟩)),(7,G3),(9,pU),(10,.pointer (some ⟨fJ.heap.size,0,none⟩)),(11,I3),(12,.int .i64 ((1+2*p.core.cells.length+2*p.af.length):Nat))]) ⟨rfl,rfl,rfl,rfl,rfl,rfl,rfl,rfl,trivial⟩ ?_
 refine CW.seq (CW.region ?_)
 refine WL.vv rfl rfl (aU rfl rfl) (by decide) ?_
 refine WL.vv rfl rfl (aU rfl rfl) (by decide) ?_
 have hm:=hO.abg (1+2*p.core.cells.length+2*p.af.length) HG (by omega) (by omega)
 clear hO
 refine WL.c rfl rfl (bT (args:= #[pU,.int .i64 ((1+2*p.core.cells.length+2*p.af.length):Nat)]) (by kernel_rfl) rfl rfl rfl) (by decide) (hm) ?_
 rintro _ sy ⟨rfl,ha⟩
 have aau:=ha.size
 replace HG:=HG.alt ha fun p hp=>by omega
 replace HV:=kZ HV ha fun p hp=>by omega
 replace HL:=kZ HL ha fun p hp=>by omega
 replace p0:=p0.alt ha fun p hp e=>by omega
 replace HB:=Cm HB (ha.jI (by omega) fun p hp=>by omega)
 replace HS:=kZ HS ha fun p hp=>by omega
 replace HR:=kZ HR ha fun p hp=>by omega
 replace bA:=bA.alt ha fun p hp e=>by omega
 replace bG:=bG.alt ha fun p hp e=>by omega
 replace HA:=HA.alt ha fun p hp=>by omega
 replace bS:=bS.alt ha fun p hp e=>by omega
 clear ha hm
 refine ⟨_,rfl,?_⟩
 refine WL.vv rfl rfl (cq rfl rfl) (by decide) ?_
 refine WL.nil (NX.next ?_)
 refine CW.sub (E':=[(1,AL),(2,.pointer (some ⟨w.heap.size,0,none⟩)),(6,.pointer (some ⟨w5.heap.size,0,none⟩)),(7,G3),(10,.pointer (some ⟨fJ.heap.size,0,none⟩)),(11,I3),(12,.int .i64 ((1+2*p.core.cells.length+2*p.af.length+4*l.length):Nat))]) ⟨rfl,rfl,rfl,rfl,rfl,rfl,rfl,trivial⟩ ?_
 refine CW.seq (CW.seq (CW.region ?_))
 refine WL.vv rfl rfl (aU rfl rfl) (by decide) ?_
 refine WL.vv rfl rfl (gr (b:=false) rfl rfl rfl rfl (by simp [aS]<;>omega)) (by decide) ?_
 refine WL.vv rfl rfl (aU rfl rfl) (by decide) ?_
 refine WL.vg (b:=false) rfl rfl rfl rfl (bz rfl rfl Tryz.underlying37 rfl bS aW) (by decide) ?_
 refine WL.vg (b:=false) rfl rfl rfl rfl (bz rfl rfl Tryz.underlying37 rfl bA aW) (by decide) ?_
 refine WL.cg (b:=false) rfl rfl rfl rfl (bT (args:= #[.agg (aE (aR p l).1 I1 I2),.agg (aE (aR p l).1 G1 G2)]) (by kernel_rfl) rfl rfl rfl) (by decide) (Eu HG HA.op.data HS) ?_
 rintro _ w21 ⟨rfl,oB⟩
 have aav:=oB.size
 replace HG:=HG.below oB
 replace HV:=aX HV oB
 replace HL:=aX HL oB
 replace p0:=p0.below oB p0.lt
 replace HB:=bt HB oB
 replace HS:=aX HS oB
 replace HR:=aX HR oB
 replace bA:=bA.below oB bA.lt
 replace bG:=bG.below oB bG.lt
 replace HA:=HA.below oB
 replace bS:=bS.below oB bS.lt
 refine ⟨_,rfl,?_⟩
 refine WL.vg (b:=false) rfl rfl rfl rfl (uj rfl rfl rfl) (by decide) ?_
 refine WL.vv rfl rfl (pM rfl rfl rfl) (by decide) ?_
 refine WL.vv rfl rfl (aU rfl rfl) (by decide) ?_
 refine WL.vg (b:=false) rfl rfl rfl rfl (aU rfl rfl) (by decide) ?_
 refine WL.vg (b:=false) rfl rfl rfl rfl (aU rfl rfl) (by decide) ?_
 refine WL.cg (b:=false) rfl rfl rfl rfl (bT (args:= #[I3,G3]) (by kernel_rfl) rfl rfl rfl) (by decide) (Jj HG HA.os.data HR) ?_
 rintro _ w22 ⟨rfl,oC⟩
 have aaw:=oC.size
 replace HG:=HG.below oC
 replace HV:=aX HV oC
 replace HL:=aX HL oC
 replace p0:=p0.below oC p0.lt
 replace HB:=bt HB oC
 replace HS:=aX HS oC
 replace HR:=aX HR oC
 replace bA:=bA.below oC bA.lt
 replace bG:=bG.below oC bG.lt
 replace HA:=HA.below oC
 replace bS:=bS.below oC bS.lt
 refine ⟨_,rfl,?_⟩
 refine WL.vg (b:=false) rfl rfl rfl rfl (uj rfl rfl rfl) (by decide) ?_
 refine WL.vv rfl rfl (pM rfl rfl rfl) (by decide) ?_
 refine WL.nil (NX.next (CW.no rfl (CW.skip (NX.next ?_))))
 refine CW.sub (E':=[(1,AL),(2,.pointer (some ⟨w.heap.size,0,none⟩)),(6,.pointer (some ⟨w5.heap.size,0,none⟩)),(7,G3),(10,.pointer (some ⟨fJ.heap.size,0,none⟩)),(11,I3)]) ⟨rfl,rfl,rfl,rfl,rfl,rfl,trivial⟩ ?_
 refine CW.seq (CW.region ?_)
 refine WL.vv rfl rfl (cq rfl rfl) (by decide) ?_
 refine WL.nil (NX.next ?_)
 refine CW.sub (E':=[(1,AL),(2,.pointer (some ⟨w.heap.size,0,none⟩)),(6,.pointer (some ⟨w5.heap.size,0,none⟩)),(7,G3),(10,.pointer (some ⟨fJ.heap.size,0,none⟩)),(11,I3),(13,.int .i64 1)]) ⟨rfl,rfl,rfl,rfl,rfl,rfl,rfl,trivial⟩ ?_
 refine CW.seq (CW.region ?_)
 refine WL.vv rfl rfl (bz rfl rfl Tryz.underlying37 rfl bS aW) (by decide) ?_
 refine WL.vv rfl rfl (aU rfl rfl) (by decide) ?_
 have hm:=HA.mark 1 HG (by omega) (by omega)
 clear HA
 refine WL.c rfl rfl (bT (args:= #[.agg (aE (aR p l).1 I1 I2),.int .i64 1]) (by kernel_rfl) rfl rfl rfl) (by decide) (hm) ?_
 rintro _ w23 ⟨rfl,ha,hr⟩
 have aax:=ha.size
 replace HG:=HG.alt ha fun p hp=>by omega
 replace HV:=kZ HV ha fun p hp=>by omega
 replace HL:=kZ HL ha fun p hp=>by omega
 replace p0:=p0.alt ha fun p hp e=>by omega
 replace HB:=Cm HB (ha.jI (by omega) fun p hp=>by omega)
 replace HS:=kZ HS ha fun p hp=>by omega
 replace HR:=kZ HR ha fun p hp=>by omega
 replace bA:=bA.alt ha fun p hp e=>by omega
 replace bG:=bG.alt ha fun p hp e=>by omega
 replace bS:=bS.alt ha fun p hp e=>by omega
 have HM:=hr
 clear ha hm
 refine ⟨_,rfl,?_⟩
 refine WL.vv rfl rfl (cq rfl rfl) (by decide) ?_
 refine WL.nil (NX.next ?_)
 refine CW.sub (E':=[(1,AL),(2,.pointer (some ⟨w.heap.size,0,none⟩)),(6,.pointer (some ⟨w5.heap.size,0,none⟩)),(7,G3),(10,.pointer (some ⟨fJ.heap.size,0,none⟩)),(11,I3),(13,.int .i64 ((1+2*(aR p l).1.core.cells.length+2*(aR p l).1.af.length):Nat))]) ⟨rfl,rfl,rfl,rfl,rfl,rfl,rfl,trivial⟩ ?_
 refine CW.seq (CW.region ?_)
 refine WL.vv rfl rfl (aU rfl rfl) (by decide) ?_
 refine WL.vv rfl rfl (aU rfl rfl) (by decide) ?_
 have hm:=HM.mark (1+2*(aR p l).1.core.cells.length+2*(aR p l).1.af.length) HG (by omega) (by omega)
 clear HM
 refine WL.c rfl rfl (bT (args:= #[I3,.int .i64 ((1+2*(aR p l).1.core.cells.length+2*(aR p l).1.af.length):Nat)]) (by kernel_rfl) rfl rfl rfl) (by decide) (hm) ?_
 rintro _ w24 ⟨rfl,ha,hr1,hr2⟩
 have aay:=ha.size
 replace HG:=HG.alt ha fun p hp=>by omega
 replace HV:=kZ HV ha fun p hp=>by omega
 replace HL:=kZ HL ha fun p hp=>by omega
 replace p0:=p0.alt ha fun p hp e=>by omega
 replace HB:=Cm HB (ha.jI (by omega) fun p hp=>by omega)
 replace HS:=kZ HS ha fun p hp=>by omega
 replace HR:=kZ HR ha fun p hp=>by omega
 replace bA:=bA.alt ha fun p hp e=>by omega
 replace bG:=bG.alt ha fun p hp e=>by omega
 replace bS:=bS.alt ha fun p hp e=>by omega
 have iH:=hr1
 have iI:=hr2
 clear ha hm hr1 hr2
 refine ⟨_,rfl,?_⟩
 refine WL.vv rfl rfl (cq rfl rfl) (by decide) ?_
 refine WL.nil (NX.next ?_)
 refine CW.sub (E':=[(1,AL),(2,.pointer (some ⟨w.heap.size,0,none⟩)),(6,.pointer (some ⟨w5.heap.size,0,none⟩)),(7,G3),(10,.pointer (some ⟨fJ.heap.size,0,none⟩)),(11,I3),(13,.int .i64 ((1+2*(aR p l).1.core.cells.length+2*(aR p l).1.af.length+5*(aR p l).2.length):Nat))]) ⟨rfl,rfl,rfl,rfl,rfl,rfl,rfl,trivial⟩ ?_
 refine CW.seq (CW.region ?_)
 refine WL.vv rfl rfl (cq rfl rfl) (by decide) ?_
 refine WL.nil (NX.next ?_)
 refine CW.sub (E':=[(1,AL),(2,.pointer (some ⟨w.heap.size,0,none⟩)),(6,.pointer (some ⟨w5.heap.size,0,none⟩)),(7,G3),(10,.pointer (some ⟨fJ.heap.size,0,none⟩)),(11,I3),(13,.int .i64 ((1+2*(aR p l).1.core.cells.length+2*(aR p l).1.af.length+5*(aR p l).2.length):Nat)),(14,.int .i64 1)]) ⟨rfl,rfl,rfl,rfl,rfl,rfl,rfl,rfl,trivial⟩ ?_
 refine CW.seq (CW.region ?_)
 refine WL.vv rfl rfl (bz rfl rfl Tryz.underlying37 rfl bS aW) (by decide) ?_
 refine WL.vv rfl rfl (aU rfl rfl) (by decide) ?_
 refine WL.c rfl rfl (bT (args:= #[.agg (aE (aR p l).1 I1 I2),.int .i64 1]) (by kernel_rfl) rfl rfl rfl) (by decide) (SU 1 HG iH (by omega)) ?_
 rintro _ w25 ⟨rfl,nH⟩
 have aaz:=nH.size
 replace HG:=HG.below nH
 replace HV:=aX HV nH
 replace HL:=aX HL nH
 replace p0:=p0.below nH p0.lt
 replace HB:=bt HB nH
 replace HS:=aX HS nH
 replace HR:=aX HR nH
 replace bA:=bA.below nH bA.lt
 replace bG:=bG.below nH bG.lt
 replace bS:=bS.below nH bS.lt
 replace iH:=R.keep (bb.below nH fun _ _ h=>h) _ _ iH
 replace iI:=R.keep (bb.below nH fun _ _ h=>h) _ _ iI
 refine ⟨_,rfl,?_⟩
 refine WL.vv rfl rfl (cq rfl rfl) (by decide) ?_
 refine WL.nil (NX.next ?_)
 refine CW.sub (E':=[(1,AL),(2,.pointer (some ⟨w.heap.size,0,none⟩)),(6,.pointer (some ⟨w5.heap.size,0,none⟩)),(7,G3),(10,.pointer (some ⟨fJ.heap.size,0,none⟩)),(11,I3),(13,.int .i64 ((1+2*(aR p l).1.core.cells.length+2*(aR p l).1.af.length+5*(aR p l).2.length):Nat)),(14,.int .i64 ((1+2*(aR p l).1.core.cells.length+2*(aR p l).1.af.length):Nat))]) ⟨rfl,rfl,rfl,rfl,rfl,rfl,rfl,rfl,trivial⟩ ?_
 refine CW.seq (CW.seq (CW.region ?_))
 refine WL.vv rfl rfl (aU rfl rfl) (by decide) ?_
 refine WL.vv rfl rfl (gr (b:=false) rfl rfl rfl rfl (by simp [aS]<;>omega)) (by decide) ?_
 refine WL.nil (NX.next (CW.no rfl (CW.skip (NX.next ?_))))
 refine CW.sub (E':=[(1,AL),(2,.pointer (some ⟨w.heap.size,0,none⟩)),(6,.pointer (some ⟨w5.heap.size,0,none⟩)),(7,G3),(10,.pointer (some ⟨fJ.heap.size,0,none⟩)),(11,I3),(13,.int .i64 ((1+2*(aR p l).1.core.cells.length+2*(aR p l).1.af.length+5*(aR p l).2.length):Nat)),(14,.int .i64 ((1+2*(aR p l).1.core.cells.length+2*(aR p l).1.af.length):Nat))]) ⟨rfl,rfl,rfl,rfl,rfl,rfl,rfl,rfl,trivial⟩ ?_
 refine CW.seq (CW.region ?_)
 refine WL.vv rfl rfl (aU rfl rfl) (by decide) ?_
 refine WL.vv rfl rfl (aU rfl rfl) (by decide) ?_
 refine WL.c rfl rfl (bT (args:= #[I3,.int .i64 ((1+2*(aR p l).1.core.cells.length+2*(aR p l).1.af.length):Nat)]) (by kernel_rfl) rfl rfl rfl) (by decide) (SV (1+2*(aR p l).1.core.cells.length+2*(aR p l).1.af.length) HG iI (by omega)) ?_
 rintro _ w26 ⟨rfl,nI⟩
 have aaA:=nI.size
 replace HG:=HG.below nI
 replace HV:=aX HV nI
 replace HL:=aX HL nI
 replace p0:=p0.below nI p0.lt
 replace HB:=bt HB nI
 replace HS:=aX HS nI
 replace HR:=aX HR nI
 replace bA:=bA.below nI bA.lt
 replace bG:=bG.below nI bG.lt
 replace bS:=bS.below nI bS.lt
 replace iH:=R.keep (bb.below nI fun _ _ h=>h) _ _ iH
 replace iI:=R.keep (bb.below nI fun _ _ h=>h) _ _ iI
 refine ⟨_,rfl,?_⟩
 refine WL.vv rfl rfl (cq rfl rfl) (by decide) ?_
 refine WL.nil (NX.next ?_)
 refine CW.sub (E':=[(1,AL),(2,.pointer (some ⟨w.heap.size,0,none⟩)),(6,.pointer (some ⟨w5.heap.size,0,none⟩)),(7,G3),(10,.pointer (some ⟨fJ.heap.size,0,none⟩)),(11,I3),(13,.int .i64 ((1+2*(aR p l).1.core.cells.length+2*(aR p l).1.af.length+5*(aR p l).2.length):Nat)),(14,.int .i64 ((1+2*(aR p l).1.core.cells.length+2*(aR p l).1.af.length+5*(aR p l).2.length):Nat))]) ⟨rfl,rfl,rfl,rfl,rfl,rfl,rfl,rfl,trivial⟩ ?_
 refine CW.seq (CW.seq (CW.region ?_))
 refine WL.vv rfl rfl (aU rfl rfl) (by decide) ?_
 refine WL.vv rfl rfl (gr (b:=false) rfl rfl rfl rfl (by simp [aS]<;>omega)) (by decide) ?_
 refine WL.nil (NX.next (CW.no rfl (CW.skip (NX.next ?_))))
 refine CW.sub (E':=[(1,AL),(2,.pointer (some ⟨w.heap.size,0,none⟩)),(6,.pointer (some ⟨w5.heap.size,0,none⟩)),(7,G3),(10,.pointer (some ⟨fJ.heap.size,0,none⟩)),(11,I3),(13,.int .i64 ((1+2*(aR p l).1.core.cells.length+2*(aR p l).1.af.length+5*(aR p l).2.length):Nat)),(14,.int .i64 ((1+2*(aR p l).1.core.cells.length+2*(aR p l).1.af.length+5*(aR p l).2.length):Nat))]) ⟨rfl,rfl,rfl,rfl,rfl,rfl,rfl,rfl,trivial⟩ ?_
 refine CW.seq (CW.seq (CW.region ?_))
 refine WL.vv rfl rfl (aU rfl rfl) (by decide) ?_
 refine WL.vv rfl rfl (aU rfl rfl) (by decide) ?_
 refine WL.vv rfl rfl (gr (b:=false) rfl rfl rfl rfl (by simp [aS])) (by decide) ?_
 refine WL.nil (NX.next (CW.no rfl (CW.skip (NX.next ?_))))
 refine CW.sub (E':=[(1,AL),(2,.pointer (some ⟨w.heap.size,0,none⟩)),(6,.pointer (some ⟨w5.heap.size,0,none⟩)),(7,G3),(10,.pointer (some ⟨fJ.heap.size,0,none⟩)),(11,I3),(13,.int .i64 ((1+2*(aR p l).1.core.cells.length+2*(aR p l).1.af.length+5*(aR p l).2.length):Nat)),(14,.int .i64 ((1+2*(aR p l).1.core.cells.length+2*(aR p l).1.af.length+5*(aR p l).2.length):Nat))]) ⟨rfl,rfl,rfl,rfl,rfl,rfl,rfl,rfl,trivial⟩ ?_
 refine CW.seq (CW.region ?_)
 refine WL.vv rfl rfl (bz rfl rfl Tryz.underlying27 rfl p0 Bf) (by decide) ?_
 refine WL.c rfl rfl (bT (args:= #[.agg (aE p A1 A2)]) (by kernel_rfl) rfl rfl rfl) (by decide) (Ew s0 HG HV.zero) ?_
 rintro _ w27 ⟨Uz,UG,rfl,Ze,nJ⟩
 have aaB:=nJ.size
 replace HG:=HG.below nJ
 replace HV:=aX HV nJ
 replace HL:=aX HL nJ
 replace p0:=p0.below nJ p0.lt
 replace HB:=bt HB nJ
 replace HS:=aX HS nJ
 replace HR:=aX HR nJ
 replace bA:=bA.below nJ bA.lt
 replace bG:=bG.below nJ bG.lt
 replace bS:=bS.below nJ bS.lt
 replace iH:=R.keep (bb.below nJ fun _ _ h=>h) _ _ iH
 replace iI:=R.keep (bb.below nJ fun _ _ h=>h) _ _ iI
 have xa:=Ze
 refine ⟨_,rfl,?_⟩
 refine WL.vv rfl rfl (aU rfl rfl) (by decide) ?_
 refine WL.c rfl rfl (bT (args:= #[AL]) (by kernel_rfl) rfl rfl rfl) (by decide) (Ev s1 HG HL.zero) ?_
 rintro _ w28 ⟨Tc,rfl,Zf,mJ⟩
 have aaC:=mJ.size
 replace HG:=HG.below mJ
 replace HV:=aX HV mJ
 replace HL:=aX HL mJ
 replace p0:=p0.below mJ p0.lt
 replace HB:=bt HB mJ
 replace HS:=aX HS mJ
 replace HR:=aX HR mJ
 replace bA:=bA.below mJ bA.lt
 replace bG:=bG.below mJ bG.lt
 replace bS:=bS.below mJ bS.lt
 replace iH:=R.keep (bb.below mJ fun _ _ h=>h) _ _ iH
 replace iI:=R.keep (bb.below mJ fun _ _ h=>h) _ _ iI
 replace xa:=xa.below mJ
 have Cb:=Zf
 refine ⟨_,rfl,?_⟩
 refine WL.c rfl rfl (bT (args:= #[.agg (aE p Uz UG),Tc]) (by kernel_rfl) rfl rfl rfl) (by decide) (SW hp hl0 hl1 HG xa.data Cb.data) ?_
 rintro _ uA ⟨J1,J2,J3,rfl,hk1,lK⟩
 have akP:=lK.size
 replace HG:=HG.below lK
 replace HV:=aX HV lK
 replace HL:=aX HL lK
 replace p0:=p0.below lK p0.lt
 replace HB:=bt HB lK
 replace HS:=aX HS lK
 replace HR:=aX HR lK
 replace bA:=bA.below lK bA.lt
 replace bG:=bG.below lK bG.lt
 replace bS:=bS.below lK bS.lt
 replace iH:=R.keep (bb.below lK fun _ _ h=>h) _ _ iH
 replace iI:=R.keep (bb.below lK fun _ _ h=>h) _ _ iI
 replace xa:=xa.below lK
 replace Cb:=Cb.below lK
 have HH:=hk1
 clear hk1 xa Cb
 refine ⟨_,rfl,?_⟩
 refine WL.vv rfl rfl (aU rfl rfl) (by decide) ?_
 refine WL.vv rfl rfl (dQ rfl rfl rfl) (by decide) ?_
 refine WL.vv rfl rfl (dQ rfl rfl rfl) (by decide) ?_
 refine WL.vv rfl rfl (cJ rfl gJ) (by decide) ?_
 refine WL.st rfl rfl rfl rfl (cs:=(aE (aR p l).1 J1 J2)) rfl (show aJ (uA.alloc (.cells bF 37)) uA.heap.size 37 bF from aJ.new uA _ _) rfl (OP.one HH.op) aW fun Je kL pY=> ?_
 have nK:Below uA.heap.size uA Je:=qa pY
 have akf:uA.heap.size<Je.heap.size:=kL.lt
 replace HG:=HG.below nK
 replace HV:=aX HV nK
 replace HL:=aX HL nK
 replace p0:=p0.below nK p0.lt
 replace HB:=bt HB nK
 replace HS:=aX HS nK
 replace HR:=aX HR nK
 replace bA:=bA.below nK bA.lt
 replace bG:=bG.below nK bG.lt
 replace bS:=bS.below nK bS.lt
 replace iH:=R.keep (bb.below nK fun _ _ h=>h) _ _ iH
 replace iI:=R.keep (bb.below nK fun _ _ h=>h) _ _ iI
 replace HH:=HH.below nK
 refine WL.vv rfl rfl (cq rfl rfl) (by decide) ?_
 refine WL.nil (NX.next ?_)
 refine CW.sub (E':=[(6,.pointer (some ⟨w5.heap.size,0,none⟩)),(7,G3),(10,.pointer (some ⟨fJ.heap.size,0,none⟩)),(11,I3),(13,.int .i64 ((1+2*(aR p l).1.core.cells.length+2*(aR p l).1.af.length+5*(aR p l).2.length):Nat)),(14,.int .i64 ((1+2*(aR p l).1.core.cells.length+2*(aR p l).1.af.length+5*(aR p l).2.length):Nat)),(15,.pointer (some ⟨uA.heap.size,0,none⟩)),(16,J3)]) ⟨rfl,rfl,rfl,rfl,rfl,rfl,rfl,rfl,trivial⟩ ?_
 refine CW.seq (CW.seq (CW.region ?_))
 refine WL.vv rfl rfl (bz rfl rfl Tryz.underlying37 rfl kL aW) (by decide) ?_
 refine WL.vv rfl rfl (bz rfl rfl Tryz.underlying37 rfl bA aW) (by decide) ?_
 refine WL.c rfl rfl (bT (args:= #[.agg (aE (aR p l).1 J1 J2),.agg (aE (aR p l).1 G1 G2)]) (by kernel_rfl) rfl rfl rfl) (by decide) (Eu HG HH.op.data HS) ?_
 rintro _ w31 ⟨rfl,lL⟩
 have aaD:=lL.size
 replace HG:=HG.below lL
 replace HV:=aX HV lL
 replace HL:=aX HL lL
 replace p0:=p0.below lL p0.lt
 replace HB:=bt HB lL
 replace HS:=aX HS lL
 replace HR:=aX HR lL
 replace bA:=bA.below lL bA.lt
 replace bG:=bG.below lL bG.lt
 replace bS:=bS.below lL bS.lt
 replace iH:=R.keep (bb.below lL fun _ _ h=>h) _ _ iH
 replace iI:=R.keep (bb.below lL fun _ _ h=>h) _ _ iI
 replace HH:=HH.below lL
 replace kL:=kL.below lL kL.lt
 refine ⟨_,rfl,?_⟩
 refine WL.vv rfl rfl (uj rfl rfl rfl) (by decide) ?_
 refine WL.vv rfl rfl (aU rfl rfl) (by decide) ?_
 refine WL.vg (b:=false) rfl rfl rfl rfl (aU rfl rfl) (by decide) ?_
 refine WL.vg (b:=false) rfl rfl rfl rfl (aU rfl rfl) (by decide) ?_
 refine WL.cg (b:=false) rfl rfl rfl rfl (bT (args:= #[J3,G3]) (by kernel_rfl) rfl rfl rfl) (by decide) (Jj HG HH.os.data HR) ?_
 rintro _ w32 ⟨rfl,lM⟩
 have akR:=lM.size
 replace HG:=HG.below lM
 replace HV:=aX HV lM
 replace HL:=aX HL lM
 replace p0:=p0.below lM p0.lt
 replace HB:=bt HB lM
 replace HS:=aX HS lM
 replace HR:=aX HR lM
 replace bA:=bA.below lM bA.lt
 replace bG:=bG.below lM bG.lt
 replace bS:=bS.below lM bS.lt
 replace iH:=R.keep (bb.below lM fun _ _ h=>h) _ _ iH
 replace iI:=R.keep (bb.below lM fun _ _ h=>h) _ _ iI
 replace HH:=HH.below lM
 replace kL:=kL.below lM kL.lt
 refine ⟨_,rfl,?_⟩
 refine WL.vg (b:=false) rfl rfl rfl rfl (uj rfl rfl rfl) (by decide) ?_
 refine WL.vv rfl rfl (pM rfl rfl rfl) (by decide) ?_
 refine WL.nil (NX.next (CW.no rfl (CW.skip (NX.next ?_))))
 refine CW.sub (E':=[(10,.pointer (some ⟨fJ.heap.size,0,none⟩)),(11,I3),(13,.int .i64 ((1+2*(aR p l).1.core.cells.length+2*(aR p l).1.af.length+5*(aR p l).2.length):Nat)),(14,.int .i64 ((1+2*(aR p l).1.core.cells.length+2*(aR p l).1.af.length+5*(aR p l).2.length):Nat))]) ⟨rfl,rfl,rfl,rfl,trivial⟩ ?_
 refine CW.seq (CW.region ?_)
 refine WL.vv rfl rfl (cq rfl rfl) (by decide) ?_
 refine WL.nil (NX.next ?_)
 refine CW.sub (E':=[(10,.pointer (some ⟨fJ.heap.size,0,none⟩)),(11,I3),(13,.int .i64 ((1+2*(aR p l).1.core.cells.length+2*(aR p l).1.af.length+5*(aR p l).2.length):Nat)),(14,.int .i64 1)]) ⟨rfl,rfl,rfl,rfl,trivial⟩ ?_
 refine CW.seq (CW.region ?_)
 refine WL.vv rfl rfl (bz rfl rfl Tryz.underlying37 rfl bS aW) (by decide) ?_
 refine WL.vv rfl rfl (aU rfl rfl) (by decide) ?_
 refine WL.c rfl rfl (bT (args:= #[.agg (aE (aR p l).1 I1 I2),.int .i64 1]) (by kernel_rfl) rfl rfl rfl) (by decide) (SU 1 HG iH (by omega)) ?_
 rintro _ w33 ⟨rfl,lN⟩
 have aaE:=lN.size
 replace HG:=HG.below lN
 replace HV:=aX HV lN
 replace HL:=aX HL lN
 replace p0:=p0.below lN p0.lt
 replace HB:=bt HB lN
 replace HS:=aX HS lN
 replace HR:=aX HR lN
 replace bA:=bA.below lN bA.lt
 replace bG:=bG.below lN bG.lt
 replace bS:=bS.below lN bS.lt
 replace iH:=R.keep (bb.below lN fun _ _ h=>h) _ _ iH
 replace iI:=R.keep (bb.below lN fun _ _ h=>h) _ _ iI
 replace HH:=HH.below lN
 replace kL:=kL.below lN kL.lt
 refine ⟨_,rfl,?_⟩
 refine WL.vv rfl rfl (cq rfl rfl) (by decide) ?_
 refine WL.nil (NX.next ?_)
 refine CW.sub (E':=[(11,I3),(13,.int .i64 ((1+2*(aR p l).1.core.cells.length+2*(aR p l).1.af.length+5*(aR p l).2.length):Nat)),(14,.int .i64 ((1+2*(aR p l).1.core.cells.length+2*(aR p l).1.af.length):Nat))]) ⟨rfl,rfl,rfl,trivial⟩ ?_
 refine CW.seq (CW.seq (CW.region ?_))
 refine WL.vv rfl rfl (aU rfl rfl) (by decide) ?_
 refine WL.vv rfl rfl (gr (b:=false) rfl rfl rfl rfl (by simp [aS]<;>omega)) (by decide) ?_
 refine WL.nil (NX.next (CW.no rfl (CW.skip (NX.next ?_))))
 refine CW.sub (E':=[(11,I3),(13,.int .i64 ((1+2*(aR p l).1.core.cells.length+2*(aR p l).1.af.length+5*(aR p l).2.length):Nat)),(14,.int .i64 ((1+2*(aR p l).1.core.cells.length+2*(aR p l).1.af.length):Nat))]) ⟨rfl,rfl,rfl,trivial⟩ ?_
 refine CW.seq (CW.region ?_)
 refine WL.vv rfl rfl (aU rfl rfl) (by decide) ?_
 refine WL.vv rfl rfl (aU rfl rfl) (by decide) ?_
 refine WL.c rfl rfl (bT (args:= #[I3,.int .i64 ((1+2*(aR p l).1.core.cells.length+2*(aR p l).1.af.length):Nat)]) (by kernel_rfl) rfl rfl rfl) (by decide) (SV (1+2*(aR p l).1.core.cells.length+2*(aR p l).1.af.length) HG iI (by omega)) ?_
 rintro _ w34 ⟨rfl,lO⟩
 have aaF:=lO.size
 replace HG:=HG.below lO
 replace HV:=aX HV lO
 replace HL:=aX HL lO
 replace p0:=p0.below lO p0.lt
 replace HB:=bt HB lO
 replace HS:=aX HS lO
 replace HR:=aX HR lO
 replace bA:=bA.below lO bA.lt
 replace bG:=bG.below lO bG.lt
 replace bS:=bS.below lO bS.lt
 replace iH:=R.keep (bb.below lO fun _ _ h=>h) _ _ iH
 replace iI:=R.keep (bb.below lO fun _ _ h=>h) _ _ iI
 replace HH:=HH.below lO
 replace kL:=kL.below lO kL.lt
 refine ⟨_,rfl,?_⟩
 refine WL.vv rfl rfl (cq rfl rfl) (by decide) ?_
 refine WL.nil (NX.next ?_)
 refine CW.sub (E':=[(13,.int .i64 ((1+2*(aR p l).1.core.cells.length+2*(aR p l).1.af.length+5*(aR p l).2.length):Nat)),(14,.int .i64 ((1+2*(aR p l).1.core.cells.length+2*(aR p l).1.af.length+5*(aR p l).2.length):Nat))]) ⟨rfl,rfl,trivial⟩ ?_
 refine CW.seq (CW.seq (CW.region ?_))
 refine WL.vv rfl rfl (aU rfl rfl) (by decide) ?_
 refine WL.vv rfl rfl (gr (b:=false) rfl rfl rfl rfl (by simp [aS]<;>omega)) (by decide) ?_
 refine WL.nil (NX.next (CW.no rfl (CW.skip (NX.next ?_))))
 refine CW.sub (E':=[(13,.int .i64 ((1+2*(aR p l).1.core.cells.length+2*(aR p l).1.af.length+5*(aR p l).2.length):Nat)),(14,.int .i64 ((1+2*(aR p l).1.core.cells.length+2*(aR p l).1.af.length+5*(aR p l).2.length):Nat))]) ⟨rfl,rfl,trivial⟩ ?_
 refine CW.seq (CW.seq (CW.region ?_))
 refine WL.vv rfl rfl (aU rfl rfl) (by decide) ?_
 refine WL.vv rfl rfl (aU rfl rfl) (by decide) ?_
 refine WL.vv rfl rfl (gr (b:=false) rfl rfl rfl rfl (by simp [aS])) (by decide) ?_
 refine WL.nil (NX.next (CW.no rfl (CW.skip (NX.next ?_))))
 refine CW.sub (E':=[]) trivial ?_
 refine CW.seq (CW.region ?_)
 refine WL.vv rfl rfl (cq rfl rfl) (by decide) ?_
 refine WL.nil (NX.next (CW.ret ?_))
 exact NX.zO rfl rfl ⟨rfl,HB⟩
theorem main(ds:List D)(h:fz ay.tab aeN ds):aD Tryz.prog 4 none ds (.bool true) []:=by
 obtain ⟨p,l,rfl⟩: ∃(p:Part) (l:List Call),ds=[enc p,aN l]:=by
  match ds,h with
  | [d0,d1],h =>
   obtain ⟨p,rfl⟩:=WD (h.1)
   obtain ⟨l,rfl⟩:=WA (h.2.1)
   exact ⟨p,l,rfl⟩
 refine aD.v8 (by kernel_rfl) fun w M vs hG hr=> ?_
 obtain ⟨v,q,rfl,hv,u,q',rfl,hu,rfl⟩:=hr
 refine (walk p l w ⟨fun _ h=>h.elim,hG.2.1,hG.2.2⟩ v u hv.zero hu.zero).mono ?_
 rintro e w' ⟨rfl,hb⟩
 exact ⟨_,rfl,rfl,hb⟩
set_option maxRecDepth 100000
theorem ZY:(Rows.fnExactCallPartsRow.wf (OpenSpec.ofChange Rows.fnExactCallPartsSpec))=true:=by kernel_rfl
theorem ZP:(Tryz.f4.params.all (Tryz.prog.readableRec ·))=true:=by kernel_rfl
theorem ZS:(namedTie Tryz.prog Rows.fnExactCallPartsRow.named Rows.fnExactCallPartsSpec.vars)=true:=by kernel_rfl
theorem ZJ:((Rows.fnExactCallPartsRow.inPlace==Tryz.prog.inPlace 4))=true:=by kernel_rfl
theorem ZT:((Rows.fnExactCallPartsRow.unfollowed==Tryz.prog.unfollowed 4))=true:=by kernel_rfl
theorem ZQ:((Rows.fnExactCallPartsRow.recurses==Tryz.prog.recurses 4))=true:=by kernel_rfl
theorem ZV:((Rows.fnExactCallPartsRow.named==Tryz.prog.varsNamed 4))=true:=by kernel_rfl
theorem ZN:((Rows.fnExactCallPartsRow.maps==(Tryz.f4.params.toList++Rows.fnExactCallPartsSpec.plain.varTypes Tryz.prog).any (Tryz.prog.mapsRec ·)))=true:=by kernel_rfl
theorem ZI:((Rows.fnExactCallPartsRow.ifaces==(Tryz.f4.params.toList++Rows.fnExactCallPartsSpec.plain.varTypes Tryz.prog).any (Tryz.prog.ifacesRec ·)))=true:=by kernel_rfl
theorem ZO:((Rows.fnExactCallPartsRow.mapsOut==Tryz.prog.mapsAmong Tryz.f4.resultTypes.toList))=true:=by kernel_rfl
theorem ZM:((Rows.fnExactCallPartsRow.loops==(Tryz.f4.params.toList++Rows.fnExactCallPartsSpec.plain.varTypes Tryz.prog).any (Tryz.prog.loopsFrom ·)))=true:=by kernel_rfl
theorem ZZ:((Rows.fnExactCallPartsRow.wideKeys==(Tryz.f4.params.toList++Rows.fnExactCallPartsSpec.plain.varTypes Tryz.prog++Tryz.f4.resultTypes.toList).any (Tryz.prog.wideKeysFrom ·)))=true:=by kernel_rfl
theorem ZU:(Rows.fnExactCallPartsSpec.vars.all (Tryz.prog.varReadable ·))=true:=by kernel_rfl
theorem ZR:(Tryz.f4.resultTypes.all (fun t=>Tryz.prog.readableRec t&&decide (t<Tryz.prog.types.size)))=true:=by kernel_rfl
theorem ZH:((Rows.fnExactCallPartsRow.ifacesOut==Tryz.f4.resultTypes.toList.any (Tryz.prog.ifacesRec ·)))=true:=by kernel_rfl
theorem ZL:((Rows.fnExactCallPartsRow.loopsOut==Tryz.f4.resultTypes.toList.any (Tryz.prog.loopsFrom ·)))=true:=by kernel_rfl
theorem ZK:((Rows.fnExactCallPartsRow.kinds==(if Rows.fnExactCallPartsRow.domain.isEmpty then [] else Tryz.f4.params.toList.map fun t=>match Tryz.prog.underlying t with|some (.int k)=>some k|_=>none)))=true:=by kernel_rfl
theorem ZW:((Rows.fnExactCallPartsRow.veiled==(Tryz.f4.params.toList++Rows.fnExactCallPartsSpec.plain.varTypes Tryz.prog++Tryz.f4.resultTypes.toList).any (Tryz.prog.veiledRec ·)))=true:=by kernel_rfl
theorem ZX:(Rows.fnExactCallPartsRow.veiledFits Tryz.prog Tryz.f4.params.toList (Tryz.f4.params.toList++Rows.fnExactCallPartsSpec.plain.varTypes Tryz.prog++Tryz.f4.resultTypes.toList))=true:=by kernel_rfl
theorem closed:joinedFacts Tryz.prog 4 Tryz.f4 Rows.fnExactCallPartsSpec Rows.fnExactCallPartsRow=true :=
 (fF (fF (fF (fF (fF (fF (fF (fF (fF (fF (fF (fF (fF (fF (fF (fF (fF (fF (fF (fF (fF (fF (fF (fF (fF (fF (fF (fF (fF (fF (fF ZY G8) ZF) ZP) ZS) rfl) ZG) rfl) ZB) ZJ) ZT) ZQ) ZV) ZN) ZI) ZO) ZM) ZZ) ZU) ZR) ZH) ZL) ZA) rfl) Zz) Zy) ZC) ZD) ZK) rfl) ZW) ZX)
noncomputable def low:Nat:=(World.holding Tryz.prog default ⟨#[],#[],[]⟩).heap.size
noncomputable def NQ(os:Os):World :=
 let w0:=World.holding Tryz.prog os ⟨#[.cells #[.string ⟨#[118,97,108,117,101,32,111,117,116,32,111,102,32,114,97,110,103,101]⟩] 187,.cells #[.string ⟨#[105,110,118,97,108,105,100,32,115,121,110,116,97,120]⟩] 187],#[],[]⟩
 {w0 with heap:=w0.heap
  |>.modify 6 (fun| .cells _ t f=> .cells #[.int .u8 0,.int .u8 1,.int .u8 28,.int .u8 2,.int .u8 29,.int .u8 14,.int .u8 24,.int .u8 3,.int .u8 30,.int .u8 22,.int .u8 20,.int .u8 15,.int .u8 25,.int .u8 17,.int .u8 4,.int .u8 8,.int .u8 31,.int .u8 27,.int .u8 13,.int .u8 23,.int .u8 21,.int .u8 19,.int .u8 16,.int .u8 7,.int .u8 26,.int .u8 12,.int .u8 18,.int .u8 6,.int .u8 11,.int .u8 5,.int .u8 10,.int .u8 9] t f|o=>o)
  |>.modify 7 (fun| .cells _ t f=> .cells #[.int .u8 0,.int .u8 1,.int .u8 56,.int .u8 2,.int .u8 57,.int .u8 49,.int .u8 28,.int .u8 3,.int .u8 61,.int .u8 58,.int .u8 42,.int .u8 50,.int .u8 38,.int .u8 29,.int .u8 17,.int .u8 4,.int .u8 62,.int .u8 47,.int .u8 59,.int .u8 36,.int .u8 45,.int .u8 43,.int .u8 51,.int .u8 22,.int .u8 53,.int .u8 39,.int .u8 33,.int .u8 30,.int .u8 24,.int .u8 18,.int .u8 12,.int .u8 5,.int .u8 63,.int .u8 55,.int .u8 48,.int .u8 27,.int .u8 60,.int .u8 41,.int .u8 37,.int .u8 16,.int .u8 46,.int .u8 35,.int .u8 44,.int .u8 21,.int .u8 52,.int .u8 32,.int .u8 23,.int .u8 11,.int .u8 54,.int .u8 26,.int .u8 40,.int .u8 15,.int .u8 34,.int .u8 20,.int .u8 31,.int .u8 10,.int .u8 25,.int .u8 14,.int .u8 19,.int .u8 9,.int .u8 13,.int .u8 8,.int .u8 7,.int .u8 6] t f|o=>o)
  |>.modify 3 (fun| .cells _ t f=> .cells #[.int .u64 1,.int .u64 10,.int .u64 100,.int .u64 1000,.int .u64 10000,.int .u64 100000,.int .u64 1000000,.int .u64 10000000,.int .u64 100000000,.int .u64 1000000000,.int .u64 10000000000,.int .u64 100000000000,.int .u64 1000000000000,.int .u64 10000000000000,.int .u64 100000000000000,.int .u64 1000000000000000,.int .u64 10000000000000000,.int .u64 100000000000000000,.int .u64 1000000000000000000,.int .u64 10000000000000000000] t f|o=>o)
  |>.modify 5 (fun| .cells _ t f=> .cells #[.int .u8 128,.int .u8 191,.int .u8 160,.int .u8 191,.int .u8 128,.int .u8 159,.int .u8 144,.int .u8 191,.int .u8 128,.int .u8 143,.int .u8 0,.int .u8 0,.int .u8 0,.int .u8 0,.int .u8 0,.int .u8 0,.int .u8 0,.int .u8 0,.int .u8 0,.int .u8 0,.int .u8 0,.int .u8 0,.int .u8 0,.int .u8 0,.int .u8 0,.int .u8 0,.int .u8 0,.int .u8 0,.int .u8 0,.int .u8 0,.int .u8 0,.int .u8 0] t f|o=>o)
  |>.modify 2 (fun| .cells _ t f=> .cells #[.iface 185 (.pointer (some ⟨low+0,0,none⟩))] t f|o=>o)
  |>.modify 1 (fun| .cells _ t f=> .cells #[.iface 185 (.pointer (some ⟨low+1,0,none⟩))] t f|o=>o)
  |>.modify 4 (fun| .cells _ t f=> .cells #[.int .u8 240,.int .u8 240,.int .u8 240,.int .u8 240,.int .u8 240,.int .u8 240,.int .u8 240,.int .u8 240,.int .u8 240,.int .u8 240,.int .u8 240,.int .u8 240,.int .u8 240,.int .u8 240,.int .u8 240,.int .u8 240,.int .u8 240,.int .u8 240,.int .u8 240,.int .u8 240,.int .u8 240,.int .u8 240,.int .u8 240,.int .u8 240,.int .u8 240,.int .u8 240,.int .u8 240,.int .u8 240,.int .u8 240,.int .u8 240,.int .u8 240,.int .u8 240,.int .u8 240,.int .u8 240,.int .u8 240,.int .u8 240,.int .u8 240,.int .u8 240,.int .u8 240,.int .u8 240,.int .u8 240,.int .u8 240,.int .u8 240,.int .u8 240,.int .u8 240,.int .u8 240,.int .u8 240,.int .u8 240,.int .u8 240,.int .u8 240,.int .u8 240,.int .u8 240,.int .u8 240,.int .u8 240,.int .u8 240,.int .u8 240,.int .u8 240,.int .u8 240,.int .u8 240,.int .u8 240,.int .u8 240,.int .u8 240,.int .u8 240,.int .u8 240,.int .u8 240,.int .u8 240,.int .u8 240,.int .u8 240,.int .u8 240,.int .u8 240,.int .u8 240,.int .u8 240,.int .u8 240,.int .u8 240,.int .u8 240,.int .u8 240,.int .u8 240,.int .u8 240,.int .u8 240,.int .u8 240,.int .u8 240,.int .u8 240,.int .u8 240,.int .u8 240,.int .u8 240,.int .u8 240,.int .u8 240,.int .u8 240,.int .u8 240,.int .u8 240,.int .u8 240,.int .u8 240,.int .u8 240,.int .u8 240,.int .u8 240,.int .u8 240,.int .u8 240,.int .u8 240,.int .u8 240,.int .u8 240,.int .u8 240,.int .u8 240,.int .u8 240,.int .u8 240,.int .u8 240,.int .u8 240,.int .u8 240,.int .u8 240,.int .u8 240,.int .u8 240,.int .u8 240,.int .u8 240,.int .u8 240,.int .u8 240,.int .u8 240,.int .u8 240,.int .u8 240,.int .u8 240,.int .u8 240,.int .u8 240,.int .u8 240,.int .u8 240,.int .u8 240,.int .u8 240,.int .u8 240,.int .u8 240,.int .u8 240,.int .u8 240,.int .u8 241,.int .u8 241,.int .u8 241,.int .u8 241,.int .u8 241,.int .u8 241,.int .u8 241,.int .u8 241,.int .u8 241,.int .u8 241,.int .u8 241,.int .u8 241,.int .u8 241,.int .u8 241,.int .u8 241,.int .u8 241,.int .u8 241,.int .u8 241,.int .u8 241,.int .u8 241,.int .u8 241,.int .u8 241,.int .u8 241,.int .u8 241,.int .u8 241,.int .u8 241,.int .u8 241,.int .u8 241,.int .u8 241,.int .u8 241,.int .u8 241,.int .u8 241,.int .u8 241,.int .u8 241,.int .u8 241,.int .u8 241,.int .u8 241,.int .u8 241,.int .u8 241,.int .u8 241,.int .u8 241,.int .u8 241,.int .u8 241,.int .u8 241,.int .u8 241,.int .u8 241,.int .u8 241,.int .u8 241,.int .u8 241,.int .u8 241,.int .u8 241,.int .u8 241,.int .u8 241,.int .u8 241,.int .u8 241,.int .u8 241,.int .u8 241,.int .u8 241,.int .u8 241,.int .u8 241,.int .u8 241,.int .u8 241,.int .u8 241,.int .u8 241,.int .u8 241,.int .u8 241,.int .u8 2,.int .u8 2,.int .u8 2,.int .u8 2,.int .u8 2,.int .u8 2,.int .u8 2,.int .u8 2,.int .u8 2,.int .u8 2,.int .u8 2,.int .u8 2,.int .u8 2,.int .u8 2,.int .u8 2,.int .u8 2,.int .u8 2,.int .u8 2,.int .u8 2,.int .u8 2,.int .u8 2,.int .u8 2,.int .u8 2,.int .u8 2,.int .u8 2,.int .u8 2,.int .u8 2,.int .u8 2,.int .u8 2,.int .u8 2,.int .u8 19,.int .u8 3,.int .u8 3,.int .u8 3,.int .u8 3,.int .u8 3,.int .u8 3,.int .u8 3,.int .u8 3,.int .u8 3,.int .u8 3,.int .u8 3,.int .u8 3,.int .u8 35,.int .u8 3,.int .u8 3,.int .u8 52,.int .u8 4,.int .u8 4,.int .u8 4,.int .u8 68,.int .u8 241,.int .u8 241,.int .u8 241,.int .u8 241,.int .u8 241,.int .u8 241,.int .u8 241,.int .u8 241,.int .u8 241,.int .u8 241,.int .u8 241] t f|o=>o)}
set_option maxRecDepth 100000 in
theorem Z6(os:Os)(args:Array Value):laidMet Tryz.prog Rows.fnExactCallPartsRow.laid ((NQ os).forCall (fun _ _=>0) ⟨#[],args,[]⟩).memory :=
 laidMet_of_run' 8 (by kernel_rfl) (by kernel_rfl)
set_option maxRecDepth 100000 in
theorem lifted(os:Os)(started:os.Started)(H:Type)(enc:TypeId×Value->H) :
  ReturnsInHanded {} Tryz.checked os 4 .any (fun w args=>(Rows.fnExactCallPartsSpec.pre enc Tryz.prog Tryz.f4 Rows.fnExactCallPartsRow.domain false w args/\laidMet Tryz.prog Rows.fnExactCallPartsRow.laid w)/\sizedMet enc Tryz.prog Tryz.f4 (OpenSpec.ofChange Rows.fnExactCallPartsSpec) false w args)
   (Rows.fnExactCallPartsSpec.post enc Tryz.prog Tryz.f4 false true false false):=by
 refine XX (C:=Tryz.checked) (X:=fun w _=>laidMet Tryz.prog Rows.fnExactCallPartsRow.laid w) (fun _ _ _ hh h=>h.of_heap hh) ZE started (by kernel_rfl) Tryz.func4
  (ChangeSpec.witness_at (enc:=enc) (C:=Tryz.checked) (os:=os) (X:=fun w _=>laidMet Tryz.prog Rows.fnExactCallPartsRow.laid w) false (NQ os) #[.agg #[.string ⟨#[]⟩,.bool false,.bool false,.slice none 0 0,.int .i64 0,.slice none 0 0],.slice none 0 0] 8 rfl (by kernel_rfl) (by kernel_rfl) (by kernel_rfl) (by kernel_rfl) (by kernel_rfl) (Z6 os _)) ?_
 intro W base args ds gs before Nq hW _ GQ hsh hL _
 have hval: ∀(j:Nat) t v,Tryz.f4.params[j]? =some t->args[j]? =some v->Value.okWide Tryz.prog W .any base t v:=Nq
 have hW':=hW
 obtain ⟨p,q,kr,hV,rfl,hfz,hnd⟩:=hW
 have hA:DataW.TrodAll enc Tryz.prog W 0 (fun _=>true) true Tryz.f4.params.toList args.toList ds p:=kr
 rw [Tryz.params4] at hA hval
 obtain ⟨v0,vs0,d0,ds0,p0,q0,hargs,rfl,rfl,h0,r0⟩:=trodAll_cons hA
 obtain ⟨v1,vs1,d1,ds1,p1,q1,rfl,rfl,rfl,h1,r1⟩:=trodAll_cons r0
 obtain ⟨rfl,rfl,rfl⟩:=trodAll_nil r1
 obtain rfl:args= #[v0,v1]:=by cases args;simp_all
 obtain ⟨rfl,rfl⟩:=trodVars_none hV
 have k0:=h0
 have lt0: ∀x∈p0,x.block<W.heap.size:=by obtain ⟨m,hm⟩:=k0;exact DataW.trod_lt m _ _ _ hm
 have k1:=h1
 have lt1: ∀x∈p1,x.block<W.heap.size:=by obtain ⟨m,hm⟩:=k1;exact DataW.trod_lt m _ _ _ hm
 obtain ⟨x0,y0,z0⟩:=OY zm (by kernel_rfl) (hval 0 27 v0 rfl rfl) h0
 obtain ⟨x1,y1,z1⟩:=OY zm (by kernel_rfl) (hval 1 49 v1 rfl rfl) h1
 clear kr Nq
 refine ((law_run (main [x0,x1] ⟨y0,y1,trivial⟩) ⟨fun p hp=>hp.elim,start hsh hL⟩ (show Rs W M0 [x0,x1] [v0,v1] from ⟨_,_,rfl,z0,⟨_,_,rfl,z1,rfl⟩⟩))).mono fun e W' ⟨he,dK⟩=> ?_
 subst he
 exact ⟨_,rfl,_,_,_,[],_,[],hW',trodAll_mk1 (shut_bool Tryz.underlying4 _),(trodAll_cons_mk (Below.trod G8 (by kernel_rfl) (of_decide_eq_true (by kernel_rfl)) k0 dK lt0) (trodAll_cons_mk (Below.trod G8 (by kernel_rfl) (of_decide_eq_true (by kernel_rfl)) k1 dK lt1) trodAll_mk0)),rfl,dK.frame _,fun h=>by cases h⟩
theorem over:Rows.fnExactCallPartsRow.holds Tryz.pinned (OpenSpec.ofChange Rows.fnExactCallPartsSpec) :=
 OpenClaim.holds_of_wide 4 Tryz.f4 rfl rfl rfl rfl rfl rfl rfl ⟨rfl,rfl,rfl,rfl,rfl⟩ rfl rfl rfl rfl rfl (by kernel_rfl) Tryz.func4 closed
  (of_decide_eq_true (by kernel_rfl)) (by unfold Func.isWrapper;first|(rw [if_pos (by decide +kernel)];kernel_rfl)|(rw [if_neg (by decide +kernel)];exact ⟨rfl,rfl⟩))
  (fun os started H enc _=>lifted os started H enc)
theorem ack:Rows.fnExactCallPartsRow.laidByTextAt .later Tryz.pinned [.data,.data,.data,.data,.sentinel,.sentinel,.pinned] true:=fnExactCallParts_row_tie
theorem proved:Rows.FnExactCallPartsCardSaid :=
 Claim7.holds_tied_plain_at .later [] [.data,.data,.data,.data,.sentinel,.sentinel,.pinned] true Rows.fnExactCallPartsCard.stood.harness true
  over (fun _ h=>by cases h) (by kernel_rfl) (fun _ h=>by cases h) ack rfl ⟨rfl,rfl⟩ (by kernel_rfl) rfl
  (fun f fn hf hfn=>by
   obtain rfl:f=4:=Option.some.inj ((show Tryz.prog.funcNamed Rows.fnExactCallPartsRow.func=some 4 by kernel_rfl).symm.trans hf) |>.symm
   obtain rfl:fn=Tryz.f4:=(Option.some.inj (Tryz.func4.symm.trans hfn)).symm
   exact ⟨by kernel_rfl,adN (by kernel_rfl)⟩)
  (by kernel_rfl)
#print axioms proved
end Go.Proofs.YtimickglpboilaaGreatDoor.lawFnExactCallParts
