/- Walk: what a call does to a core in a box (does). -/
import Derived.Test.YtimickglpboilaaGreatDoorG14
set_option linter.unusedVariables false
set_option linter.unusedSimpArgs false
set_option linter.unusedSectionVars false
set_option maxRecDepth 100000
namespace Go.Proofs.YtimickglpboilaaGreatDoor
open Go.RowKit Go
variable [GC]
theorem aiZ[kI]{K:Nat->Prop}{w:World}{g:Nat}{S2:Value}{p:Part}(h:PB K w g S2 p){S1:Value}(hr:cu K w g S1 (cS p.core.cells)) :
  Calls Tryz.prog 95 #[S1] w fun e w'=>e= .returned (.string (fmtC p.core.cells))/\Below w.heap.size w w':=by
 have hd:R w (fun _=>False) (aN p.core.cells) S1:=by
  have:=hr.rd (M:=fun _=>False) (fun _ _ _ _ _ _ _ h=>h)
  rwa [wo] at this
 refine (aD.calls (Vh p.core.cells) (vs:=[S1]) h.lZ ⟨_,[],rfl,hd,rfl⟩).mono ?_
 rintro e w' ⟨v,rfl,⟨rfl,_⟩,h3⟩
 exact ⟨rfl,h3⟩
theorem ai1[mi][kI][og]{K:Nat->Prop}{w:World}{g:Nat}{S2:Value}{p:Part}(h:PB K w g S2 p)(s:ByteArray)(hs:s.size<4294967281) :
  Calls Tryz.prog 96 #[.string s] w fun e w'=> ∃S1 a n cap,e= .returned (.tuple #[S1,.bool (eF s).2])/\S1= .slice a n cap/\n=(eF s).1.length/\Below w.heap.size w w'/\cu (Gr K w w') w' g S1 (cS (eF s).1)/\(∀b,bi S1 b->w.heap.size<=b):=by
 refine ((Vm s hs).2 w _ 0 [.string s] h.lZ ⟨_,[],rfl,⟨rfl,by unfold maxLen;omega⟩,rfl⟩ (fun cs h=>by cases h)).mono ?_
 rintro e w' ⟨v,rfl,⟨cs,rfl,v1,r1,e1,hr1,v2,r2,rfl,rfl,rfl⟩,h3,h4,_⟩
 have hcs:cs= #[v1,.bool (eF s).2]:=by rw [<-Array.toList_inj,e1]
 subst hcs
 have hb:=h3.jI
 have hl:=h4.1 (0,2) (by simp)
 have fD:qI w.heap.size w' v1 2:=by
  obtain ⟨a,len,cap,rfl,_⟩:=(show R w' _ (.sl ((eF s).1.map aZ.cells)) v1 from hr1)
  exact hl
 have hr:R w' (fun p=>False\/iK (.tuple #[v1,.bool (eF s).2]) [(0,2)] p) (.sl ((cS (eF s).1).map jV)) v1:=by rw [wo];exact hr1
 have row:cu (Gr K w w') w' g v1 (cS (eF s).1):=cu.of hr fD (fun b h1 h2=> .inr ⟨h1,h2⟩) (fun b h1 h2 e=>by have:=h.vf;omega)
 obtain ⟨a,cap,e,_,_⟩:=row.qt
 refine ⟨v1,a,_,cap,rfl,e,wm _,hb,row,fun b eE=> ?_⟩
 obtain ⟨o,s',len,cap',e',hc⟩:=eE
 exact (fD b o s' len cap' e' hc).2.1
theorem Oz:mStart.toList=[83,116,97,114,116]/\bZ.toList=[83,116,111,112]/\gm.toList=[71,101,116]/\fj.toList=[80,117,116]/\dP.toList=[84,101,108,108]/\eT.toList=[72,101,97,114]/\jE.toList=[76,111,97,100]/\rR.toList=[83,97,118,101]/\eS.toList=[72,101,97,108]:=by
 refine ⟨?_,?_,?_,?_,?_,?_,?_,?_,?_⟩<;>(rw [ByteArray.toList_eq];rfl)
theorem abd:List.Pairwise (· ≠ ·) [mStart,bZ,gm,fj,dP,eT,jE,rR,eS]:=by decide
theorem pI{m:ByteArray}{l:List UInt8}{x:ByteArray}(hl:m.toList=l)(h:x≠m):(x.toList==l)=false:=by
 have: ¬x.toList=l:=fun e=>h (toList_inj (by rw [e,hl]))
 simpa using this
set_option maxHeartbeats 60000000 in
theorem adU[kI][mi][og](Mh:Tu){K:Nat->Prop}{w:World}{g:Nat}{S2:Value}{p:Part}{x:Call}(h:PB K w g S2 p)(hx:ni x) :
  Calls Tryz.prog 72 #[.pointer (some ⟨g,0,none⟩),dL x] w (sB K w g S2 (cC p (bJ p.core x))):=by
 have hgl:=h.vf
 have H:=Lib.hid h
 have HX:=Lib.hid hx
 obtain ⟨l1,l2,l3,l4,l5,l6,l7,l8,l9⟩:=Oz
 have LI:=Lib.hid Oz
 have hkr: ¬K (w.heap.size+1):=fun hk=>by have:=(H.out.kb _ hk).2;omega
 have hkx: ¬K w.heap.size:=fun hk=>by have:=(H.out.kb _ hk).2;omega
 have HW:=Lib.hid (show Below w.heap.size w ((w.alloc (.cells #[.string x.method,.string x.key,.int .i64 x.val,.string x.text] 43)).alloc (.cells aY 39)) by go_grown)
 have HXB:=Lib.hid (show aJ ((w.alloc (.cells #[.string x.method,.string x.key,.int .i64 x.val,.string x.text] 43)).alloc (.cells aY 39)) w.heap.size 43 #[.string x.method,.string x.key,.int .i64 x.val,.string x.text] from (aJ.new w 43 _).alloc _)
 have HR:=Lib.hid (show aJ ((w.alloc (.cells #[.string x.method,.string x.key,.int .i64 x.val,.string x.text] 43)).alloc (.cells aY 39)) (w.heap.size+1) 39 aY by
  have:=aJ.new (w.alloc (.cells #[.string x.method,.string x.key,.int .i64 x.val,.string x.text] 43)) 39 aY
  rwa [World.size_alloc] at this)
 obtain ⟨S1,a1,n1,Wu, -, -, -, -,c0,c1,c2,c3,c4,c5,hf, -, -⟩:=h.cells
 clear h hx l1 l2 l3 l4 l5 l6 l7 l8 l9 c3 c5 c0
 unfold dL
 go_enter Tryz.func72,Tryz.ntmps72
 go_upto_region 1 with fail
 go_cut [20] (fun s20 wx=>s20= .bool (p.core.broken&&(!decide (x.method=eS)&& !decide (x.method=dP)))/\wx=((w.alloc (.cells #[.string x.method,.string x.key,.int .i64 x.val,.string x.text] 43)).alloc (.cells aY 39)))
 case first =>
  cases hb:p.core.broken with
  | false =>
   rw [hb] at c2
   go_wp2_with fail
   go_meet
   case rel=>exact ⟨by rw [hb];rfl,rfl⟩
  | true =>
   rw [hb] at c2
   by_cases h1:x.method=eS
   ·have h1':x.method.toList=[72,101,97,108]:=by rw [h1];exact LI.out.2.2.2.2.2.2.2.2
    have H1:=Lib.hid h1
    clear h1
    go_wp2_with fail
    go_meet
    case rel=>exact ⟨by rw [hb,H1.out];rfl,rfl⟩
   ·have h1':=pI LI.out.2.2.2.2.2.2.2.2 h1
    by_cases h2:x.method=dP
    ·have h2':x.method.toList=[84,101,108,108]:=by rw [h2];exact LI.out.2.2.2.2.1
     have H2:=Lib.hid h2
     clear h1 h2 h1'
     go_wp2_with fail
     go_meet
     case rel=>exact ⟨by rw [hb,H2.out];rfl,rfl⟩
    ·have h2':=pI LI.out.2.2.2.2.1 h2
     have H1:=Lib.hid h1
     have H2:=Lib.hid h2
     clear h1 h2
     go_wp2_with fail
     go_meet
     case rel=>exact ⟨by rw [hb,decide_eq_false H1.out,decide_eq_false H2.out];rfl,rfl⟩
 case rest =>
 obtain ⟨rfl,yK⟩:=hcut
 rw [<-yK] at HW HXB HR
 clear yK
 have HS:=Lib.hid ((St.start H.out).below HW.out)
 obtain ⟨lF,a1',n1',ajG,rfl,hn1', -, -,c0',c1',c2',Ka,c4',c5',hf',XQ,ajU⟩:=HS.out.pb.cells
 clear hn1'
 have x0:wc.cell? ⟨w.heap.size,0,none⟩=some (.string x.method):=by rw [HXB.out.cell];rfl
 have x1:wc.cell? ⟨w.heap.size,1,none⟩=some (.string x.key):=by rw [HXB.out.cell];rfl
 have x2:wc.cell? ⟨w.heap.size,2,none⟩=some (.int .i64 x.val):=by rw [HXB.out.cell];rfl
 have x3:wc.cell? ⟨w.heap.size,3,none⟩=some (.string x.text):=by rw [HXB.out.cell];rfl
 have fZ:=HR.out;obtain ⟨mR,mS,mT,mU,mV,mW⟩:=ma (w:=wc) (b:=w.heap.size+1) fZ
 by_cases oD:p.core.broken=true/\x.method≠eS/\x.method≠dP
 ·have hq:(p.core.broken&&(!decide (x.method=eS)&& !decide (x.method=dP)))=true:=by simp [oD.1,oD.2.1,oD.2.2]
  have HB:=Lib.hid oD
  clear oD
  rw [hq]
  go_wp2
  obtain ⟨q1,q2⟩:=iL HS.out H.out HR.out (by omega) hkr (rep 3 0 0 0)
  have e:cC p (bJ p.core x)=(p,rep 3 0 0 0):=by unfold cC bJ;rw [if_pos HB.out]
  rw [e]
  refine bodyPost_ret (iF rfl _ _ _ rfl q1 Tryz.underlying39 rfl (by kernel_rfl)) rfl q2
 have hq:(p.core.broken&&(!decide (x.method=eS)&& !decide (x.method=dP)))=false:=by
  cases h1:p.core.broken with
  | false=>rfl
  | true =>
   by_cases h2:x.method=eS
   ·simp [h2]
   ·by_cases h3:x.method=dP
    ·simp [h3]
    ·exact absurd ⟨h1,h2,h3⟩ oD
 have HB:=Lib.hid oD
 have HP:=Lib.hid abd
 clear oD
 rw [hq]
 clear hq c1 c2 c4 hf
 have kQ:w.heap.size+1≠g:=by omega
 have kg:=HS.out.pb.kg
 by_cases yj:x.method=mStart
 ·have P1:=HS.out.pb.BF true
  have P2:=HS.out.pb.BF false
  have jf:x.method.toList=[83,116,97,114,116]:=by rw [yj];exact LI.out.1
  have HM:=Lib.hid yj
  clear yj
  cases hon:p.core.on with
  | true =>
   rw [hon] at c1'
   clear P1
   have A1:=HS.out.put (a:=⟨g,1,none⟩) kg P2
   have A2:=Lib.hid (A1.put (a:=⟨g,2,none⟩) kg (A1.pb.Qj true))
   have EH:=Lib.hid ((HR.out.far (p:=⟨g,1,none⟩) kQ (.bool false)).far (p:=⟨g,2,none⟩) kQ (.bool true))
   clear A1 P2
   go_wp2
   obtain ⟨q1,q2⟩:=iL A2.out H.out EH.out (by omega) hkr (rep 3 0 0 0)
   have e:cC p (bJ p.core x)=(⟨⟨p.core.kind,false,true,p.core.cells,p.core.count⟩,p.af⟩,rep 3 0 0 0):=by unfold cC bJ;rw [if_neg HB.out,if_pos HM.out,if_pos hon]
   rw [e]
   refine bodyPost_ret (iF rfl _ _ _ rfl q1 Tryz.underlying39 rfl (by kernel_rfl)) rfl q2
  | false =>
   rw [hon] at c1'
   clear P2
   have A1:=Lib.hid (HS.out.put (a:=⟨g,1,none⟩) kg P1)
   have qH:=Lib.hid (HR.out.far (p:=⟨g,1,none⟩) kQ (.bool true))
   have HC:=Lib.hid (BW P1 p.core.count H.out.ct)
   clear P1
   go_wp2_with fail
   refine HC.out.mono ?_
   rintro e w5 ⟨rfl,hb5,AQ⟩
   have A5:=A1.out.below hb5
   have iR:=Lib.hid (qH.out.below hb5 qH.out.lt)
   obtain ⟨EO,au,nu,cpu, -, -, -, -,d0,d1,d2,d3,d4,d5,MJ, -, -⟩:=A5.pb.cells
   have A6:=Lib.hid (A5.put (a:=⟨g,4,none⟩) kg (A5.pb.II (bR p.core.count) AQ))
   have pW:=Lib.hid (iR.out.far (p:=⟨g,4,none⟩) kQ (.int .i64 (bR p.core.count)))
   clear A5 hb5
   have fZ:=pW.out;obtain ⟨mR,mS,mT,mU,mV,mW⟩:=ma (w:=(w5.setCell ⟨g,4,none⟩ (.int .i64 (bR p.core.count)))) (b:=w.heap.size+1) fZ
   go_wp2
   obtain ⟨q1,q2⟩:=iL A6.out H.out pW.out (by omega) hkr (rep 0 0 0 0)
   have e:cC p (bJ p.core x)=(⟨⟨p.core.kind,true,p.core.broken,p.core.cells,bR p.core.count⟩,p.af⟩,rep 0 0 0 0):=by unfold cC bJ;rw [if_neg HB.out,if_pos HM.out,if_neg (by simp [hon])]
   rw [e]
   refine bodyPost_ret (iF rfl _ _ _ rfl q1 Tryz.underlying39 rfl (by kernel_rfl)) rfl q2
 have ajR:=pI LI.out.1 yj
 have nk:=Lib.hid yj
 clear yj
 by_cases yl:x.method=bZ
 ·have P2:=HS.out.pb.BF false
  have jf:x.method.toList=[83,116,111,112]:=by rw [yl];exact LI.out.2.1
  have HM:=Lib.hid yl
  clear yl
  cases hon:p.core.on with
  | true =>
   rw [hon] at c1'
   have A1:=Lib.hid (HS.out.put (a:=⟨g,1,none⟩) kg P2)
   have qH:=Lib.hid (HR.out.far (p:=⟨g,1,none⟩) kQ (.bool false))
   clear P2
   go_wp2
   obtain ⟨q1,q2⟩:=iL A1.out H.out qH.out (by omega) hkr (rep 0 0 0 0)
   have e:cC p (bJ p.core x)=(⟨⟨p.core.kind,false,p.core.broken,p.core.cells,p.core.count⟩,p.af⟩,rep 0 0 0 0):=by unfold cC bJ;rw [if_neg HB.out,if_neg nk.out,if_pos HM.out,if_neg (by simp [hon])]
   rw [e]
   refine bodyPost_ret (iF rfl _ _ _ rfl q1 Tryz.underlying39 rfl (by kernel_rfl)) rfl q2
  | false =>
   rw [hon] at c1'
   clear P2
   go_wp2
   obtain ⟨q1,q2⟩:=iL HS.out H.out HR.out (by omega) hkr (rep 2 0 0 0)
   have e:cC p (bJ p.core x)=(p,rep 2 0 0 0):=by unfold cC bJ;rw [if_neg HB.out,if_neg nk.out,if_pos HM.out,if_pos hon]
   rw [e]
   refine bodyPost_ret (iF rfl _ _ _ rfl q1 Tryz.underlying39 rfl (by kernel_rfl)) rfl q2
 have ajS:=pI LI.out.2.1 yl
 have oQ:=Lib.hid yl
 clear yl
 by_cases xY:x.method=gm
 ·have jf:x.method.toList=[71,101,116]:=by rw [xY];exact LI.out.2.2.1
  have HM:=Lib.hid xY
  clear xY
  have HC:=Lib.hid (Mh _ _ _ _ _ _ HS.out.pb HX.out)
  unfold dL at HC
  go_wp2_with fail
  refine HC.out.mono ?_
  rintro e w5 ⟨rfl,ij,eu⟩
  have A5:=Lib.hid (HS.out.call ij eu)
  have iR:=Lib.hid (HR.out.bV eu hkr)
  have lR: ¬Gr K wc w5 (w.heap.size+1):=by rintro (h|h);exact hkr h;have:=HR.out.lt;omega
  clear ij eu
  have fZ:=iR.out;obtain ⟨mR,mS,mT,mU,mV,mW⟩:=ma (w:=w5) (b:=w.heap.size+1) fZ
  unfold rY
  go_wp2
  obtain ⟨q1,q2⟩:=iL A5.out H.out iR.out (by omega) lR (cC p (keepD p.core x)).2
  have e:cC p (bJ p.core x)=((cC p (keepD p.core x)).1,(cC p (keepD p.core x)).2):=by unfold cC bJ;rw [if_neg HB.out,if_neg nk.out,if_neg oQ.out,if_pos (lU.2 (.inl HM.out))]
  rw [e]
  refine bodyPost_ret (iF rfl _ _ _ rfl q1 Tryz.underlying39 rfl (by kernel_rfl)) rfl q2
 have ajK:=pI LI.out.2.2.1 xY
 have qK:=Lib.hid xY
 clear xY
 by_cases yf:x.method=fj
 ·have jf:x.method.toList=[80,117,116]:=by rw [yf];exact LI.out.2.2.2.1
  have HM:=Lib.hid yf
  clear yf
  have HC:=Lib.hid (Mh _ _ _ _ _ _ HS.out.pb HX.out)
  unfold dL at HC
  go_wp2_with fail
  refine HC.out.mono ?_
  rintro e w5 ⟨rfl,ij,eu⟩
  have A5:=Lib.hid (HS.out.call ij eu)
  have iR:=Lib.hid (HR.out.bV eu hkr)
  have lR: ¬Gr K wc w5 (w.heap.size+1):=by rintro (h|h);exact hkr h;have:=HR.out.lt;omega
  clear ij eu
  have fZ:=iR.out;obtain ⟨mR,mS,mT,mU,mV,mW⟩:=ma (w:=w5) (b:=w.heap.size+1) fZ
  unfold rY
  go_wp2
  obtain ⟨q1,q2⟩:=iL A5.out H.out iR.out (by omega) lR (cC p (keepD p.core x)).2
  have e:cC p (bJ p.core x)=((cC p (keepD p.core x)).1,(cC p (keepD p.core x)).2):=by unfold cC bJ;rw [if_neg HB.out,if_neg nk.out,if_neg oQ.out,if_pos (lU.2 (.inr HM.out))]
  rw [e]
  refine bodyPost_ret (iF rfl _ _ _ rfl q1 Tryz.underlying39 rfl (by kernel_rfl)) rfl q2
 have ajP:=pI LI.out.2.2.2.1 yf
 have qL:=Lib.hid yf
 clear yf
 by_cases yn:x.method=dP
 ·have jf:x.method.toList=[84,101,108,108]:=by rw [yn];exact LI.out.2.2.2.2.1
  have HM:=Lib.hid yn
  clear yn
  go_wp2
  obtain ⟨q1,q2⟩:=iL HS.out H.out HR.out (by omega) hkr (rep 0 p.core.count 0 0)
  have e:cC p (bJ p.core x)=(p,rep 0 p.core.count 0 0):=by unfold cC bJ;rw [if_neg HB.out,if_neg nk.out,if_neg oQ.out,if_neg (fun h=>by rcases lU.1 h with h|h;exact qK.out h;exact qL.out h),if_pos HM.out]
  rw [e]
  refine bodyPost_ret (iF rfl _ _ _ rfl q1 Tryz.underlying39 rfl (by kernel_rfl)) rfl q2
 have ajT:=pI LI.out.2.2.2.2.1 yn
 have sF:=Lib.hid yn
 clear yn
 by_cases x5:x.method=eT
 ·have jf:x.method.toList=[72,101,97,114]:=by rw [x5];exact LI.out.2.2.2.2.2.1
  have HM:=Lib.hid x5
  clear x5
  have HC:=Lib.hid (BW HS.out.pb p.core.count H.out.ct)
  go_wp2_with fail
  refine HC.out.mono ?_
  rintro e w5 ⟨rfl,hb5,AQ⟩
  have A5:=HS.out.below hb5
  have iR:=Lib.hid (HR.out.below hb5 HR.out.lt)
  obtain ⟨EO,au,nu,cpu, -, -, -, -,d0,d1,d2,d3,d4,d5,MJ, -, -⟩:=A5.pb.cells
  have A6:=A5.put (a:=⟨g,4,none⟩) kg (A5.pb.II (bR p.core.count) AQ)
  have pW:=Lib.hid (iR.out.far (p:=⟨g,4,none⟩) kQ (.int .i64 (bR p.core.count)))
  have y2:w5.cell? ⟨w.heap.size,2,none⟩=some (.int .i64 x.val):=ax hb5 x2
  have y2':(w5.setCell ⟨g,4,none⟩ (.int .i64 (bR p.core.count))).cell? ⟨w.heap.size,2,none⟩=some (.int .i64 x.val):=by
   rw [World.cell?_of_block (w:=w5) (w':=w5.setCell ⟨g,4,none⟩ (.int .i64 (bR p.core.count))) (a:=⟨w.heap.size,2,none⟩) (qj (by intro e;have e:w.heap.size=g:=e;omega))];exact y2
  obtain ⟨S1t,at1,nt1,cpt, -, -, -, -,t0,t1,t2,t3,t4,t5,hft, -, -⟩:=A6.pb.cells
  have Ta:=Lib.hid A6
  have Jp:=fun b=>A6.put (a:=⟨g,1,none⟩) kg (A6.pb.BF b)
  have B0:=Lib.hid Jp
  clear A5 A6 Jp hb5 y2
  by_cases hv0:x.val=0
  ·have sC:=Lib.hid (pW.out.far (p:=⟨g,1,none⟩) kQ (.bool false))
   obtain ⟨Ux,av,nv,Wv, -, -, -, -,u0',u1',u2',u3',u4',u5',Gt, -, -⟩:=(B0.out false).pb.cells
   have fZ:=sC.out;obtain ⟨mR,mS,mT,mU,mV,mW⟩:=ma (w:=((w5.setCell ⟨g,4,none⟩ (.int .i64 (bR p.core.count))).setCell ⟨g,1,none⟩ (.bool false))) (b:=w.heap.size+1) fZ
   go_wp2
   obtain ⟨q1,q2⟩:=iL (B0.out false) H.out sC.out (by omega) hkr (rep 0 (bR p.core.count) 0 0)
   have e:cC p (bJ p.core x)=(⟨⟨p.core.kind,false,p.core.broken,p.core.cells,bR p.core.count⟩,p.af⟩,rep 0 (bR p.core.count) 0 0):=by unfold cC bJ;rw [if_neg HB.out,if_neg nk.out,if_neg oQ.out,if_neg (fun h=>by rcases lU.1 h with h|h;exact qK.out h;exact qL.out h),if_neg sF.out,if_pos HM.out,if_pos hv0]
   rw [e]
   refine bodyPost_ret (iF rfl _ _ _ rfl q1 Tryz.underlying39 rfl (by kernel_rfl)) rfl q2
  by_cases hv1:x.val=1
  ·have sC:=Lib.hid (pW.out.far (p:=⟨g,1,none⟩) kQ (.bool true))
   obtain ⟨Ux,av,nv,Wv, -, -, -, -,u0',u1',u2',u3',u4',u5',Gt, -, -⟩:=(B0.out true).pb.cells
   have fZ:=sC.out;obtain ⟨mR,mS,mT,mU,mV,mW⟩:=ma (w:=((w5.setCell ⟨g,4,none⟩ (.int .i64 (bR p.core.count))).setCell ⟨g,1,none⟩ (.bool true))) (b:=w.heap.size+1) fZ
   go_wp2
   obtain ⟨q1,q2⟩:=iL (B0.out true) H.out sC.out (by omega) hkr (rep 0 (bR p.core.count) 0 0)
   have e:cC p (bJ p.core x)=(⟨⟨p.core.kind,true,p.core.broken,p.core.cells,bR p.core.count⟩,p.af⟩,rep 0 (bR p.core.count) 0 0):=by unfold cC bJ;rw [if_neg HB.out,if_neg nk.out,if_neg oQ.out,if_neg (fun h=>by rcases lU.1 h with h|h;exact qK.out h;exact qL.out h),if_neg sF.out,if_pos HM.out,if_neg hv0,if_pos hv1]
   rw [e]
   refine bodyPost_ret (iF rfl _ _ _ rfl q1 Tryz.underlying39 rfl (by kernel_rfl)) rfl q2
  ·have fZ:=pW.out;obtain ⟨mR,mS,mT,mU,mV,mW⟩:=ma (w:=(w5.setCell ⟨g,4,none⟩ (.int .i64 (bR p.core.count)))) (b:=w.heap.size+1) fZ
   go_wp2
   obtain ⟨q1,q2⟩:=iL Ta.out H.out pW.out (by omega) hkr (rep 0 (bR p.core.count) 0 0)
   have e:cC p (bJ p.core x)=(⟨⟨p.core.kind,p.core.on,p.core.broken,p.core.cells,bR p.core.count⟩,p.af⟩,rep 0 (bR p.core.count) 0 0):=by unfold cC bJ;rw [if_neg HB.out,if_neg nk.out,if_neg oQ.out,if_neg (fun h=>by rcases lU.1 h with h|h;exact qK.out h;exact qL.out h),if_neg sF.out,if_pos HM.out,if_neg hv0,if_neg hv1]
   rw [e]
   refine bodyPost_ret (iF rfl _ _ _ rfl q1 Tryz.underlying39 rfl (by kernel_rfl)) rfl q2
 have ajM:=pI LI.out.2.2.2.2.2.1 x5
 have zD:=Lib.hid x5
 clear x5
 by_cases yh:x.method=rR
 ·have jf:x.method.toList=[83,97,118,101]:=by rw [yh];exact LI.out.2.2.2.2.2.2.2.1
  have HM:=Lib.hid yh
  clear yh
  have HC:=Lib.hid (aiZ HS.out.pb XQ)
  obtain ⟨tx,GU⟩: ∃t,t=fmtC p.core.cells:=⟨_,rfl⟩
  rw [<-GU] at HC
  have Tq:=Lib.hid GU
  clear GU
  go_wp2_with fail
  refine HC.out.mono ?_
  rintro e w5 ⟨rfl,hb5⟩
  have A5:=Lib.hid (HS.out.below hb5)
  have iR:=Lib.hid (HR.out.below hb5 HR.out.lt)
  clear hb5
  have fZ:=iR.out;obtain ⟨mR,mS,mT,mU,mV,mW⟩:=ma (w:=w5) (b:=w.heap.size+1) fZ
  go_wp2
  obtain ⟨q1,q2⟩:=iL A5.out H.out iR.out (by omega) hkr (⟨0,0,tx,0,0⟩)
  have e:cC p (bJ p.core x)=(p,⟨0,0,tx,0,0⟩):=by rw [Tq.out];unfold cC bJ;rw [if_neg HB.out,if_neg nk.out,if_neg oQ.out,if_neg (fun h=>by rcases lU.1 h with h|h;exact qK.out h;exact qL.out h),if_neg sF.out,if_neg zD.out,if_pos HM.out]
  rw [e]
  refine bodyPost_ret (iF rfl _ _ _ rfl q1 Tryz.underlying39 rfl (by kernel_rfl)) rfl q2
 have ajQ:=pI LI.out.2.2.2.2.2.2.2.1 yh
 have Cf:=Lib.hid yh
 clear yh
 by_cases x7:x.method=jE
 ·have jf:x.method.toList=[76,111,97,100]:=by rw [x7];exact LI.out.2.2.2.2.2.2.1
  have HM:=Lib.hid x7
  clear x7
  have HC:=Lib.hid (ai1 HS.out.pb x.text HX.out.text)
  go_wp2_with fail
  refine HC.out.mono ?_
  rintro e w5 ⟨S1n,an,nn,KF,rfl,rfl,hnn,hb5,hrow,hnew⟩
  have A5:=HS.out.below hb5
  have iR:=Lib.hid (HR.out.below hb5 HR.out.lt)
  have hgr: ∀b,Gr K wc w5 b->NG<=b/\b<w5.heap.size:=by
   rintro b (hb|hb)
   ·exact A5.pb.kb b hb
   ·exact ⟨Nat.le_trans HS.out.pb.gi.2 hb.1,hb.2⟩
  have A6:St K w g S2 (Gr K wc w5) p w5:=⟨A5.pb.mono (fun _ h=> .inl h) hgr,A5.nb,fun b hb=>by
   rcases hb with hb|hb
   ·exact .inl hb
   ·exact .inr ⟨Nat.le_trans HS.out.fr.size hb.1,hb.2⟩,A5.fr⟩
  have P7:=A6.pb.setCells hrow (fun b hb hs2=>by
   have h1:=hnew b hb
   have h2:=(HS.out.pb.ly.out hs2).2.2
   omega)
  have A7:=Lib.hid (A6.put (a:=⟨g,3,none⟩) A6.pb.kg P7)
  have lR: ¬Gr K wc w5 (w.heap.size+1):=by rintro (h|h);exact hkr h;have:=HR.out.lt;omega
  obtain ⟨EO,au,nu,cpu, -, -, -, -,d0,d1,d2,d3,d4,d5,MJ, -, -⟩:=A6.pb.cells
  have Tg:=Lib.hid A6
  have Ti:=Lib.hid hnn
  clear A5 A6 hgr P7 hrow hnew hb5 hnn
  cases hok:(eF x.text).2 with
  | true =>
   have sC:=Lib.hid (iR.out.far (p:=⟨g,3,none⟩) kQ (.slice an nn KF))
   have fZ:=sC.out;obtain ⟨mR,mS,mT,mU,mV,mW⟩:=ma (w:=(w5.setCell ⟨g,3,none⟩ (.slice an nn KF))) (b:=w.heap.size+1) fZ
   go_wp2
   obtain ⟨q1,q2⟩:=iL A7.out H.out sC.out (by omega) lR (rep 0 (eF x.text).1.length 0 0)
   have e:cC p (bJ p.core x)=(⟨⟨p.core.kind,p.core.on,p.core.broken,(eF x.text).1,p.core.count⟩,p.af⟩,rep 0 (eF x.text).1.length 0 0):=by unfold cC bJ;rw [if_neg HB.out,if_neg nk.out,if_neg oQ.out,if_neg (fun h=>by rcases lU.1 h with h|h;exact qK.out h;exact qL.out h),if_neg sF.out,if_neg zD.out,if_neg Cf.out,if_pos HM.out,if_pos hok]
   rw [e]
   rw [<-Ti.out] at q1 q2 ⊢
   refine bodyPost_ret (iF rfl _ _ _ rfl q1 Tryz.underlying39 rfl (by kernel_rfl)) rfl q2
  | false =>
   have fZ:=iR.out;obtain ⟨mR,mS,mT,mU,mV,mW⟩:=ma (w:=w5) (b:=w.heap.size+1) fZ
   go_wp2
   obtain ⟨q1,q2⟩:=iL Tg.out H.out iR.out (by omega) lR (rep 6 0 0 0)
   have e:cC p (bJ p.core x)=(p,rep 6 0 0 0):=by unfold cC bJ;rw [if_neg HB.out,if_neg nk.out,if_neg oQ.out,if_neg (fun h=>by rcases lU.1 h with h|h;exact qK.out h;exact qL.out h),if_neg sF.out,if_neg zD.out,if_neg Cf.out,if_pos HM.out,if_neg (by simp [hok])]
   rw [e]
   refine bodyPost_ret (iF rfl _ _ _ rfl q1 Tryz.underlying39 rfl (by kernel_rfl)) rfl q2
 have ajN:=pI LI.out.2.2.2.2.2.2.1 x7
 have JC:=Lib.hid x7
 clear x7
 by_cases xZ:x.method=eS
 ·have P2:=HS.out.pb.BF false
  have jf:x.method.toList=[72,101,97,108]:=by rw [xZ];exact LI.out.2.2.2.2.2.2.2.2
  have HM:=Lib.hid xZ
  clear xZ
  have A1:=HS.out.put (a:=⟨g,1,none⟩) kg P2
  have A2:=Lib.hid (A1.put (a:=⟨g,2,none⟩) kg (A1.pb.Qj false))
  have EH:=Lib.hid ((HR.out.far (p:=⟨g,1,none⟩) kQ (.bool false)).far (p:=⟨g,2,none⟩) kQ (.bool false))
  clear A1 P2
  go_wp2
  obtain ⟨q1,q2⟩:=iL A2.out H.out EH.out (by omega) hkr (rep 0 0 0 0)
  have e:cC p (bJ p.core x)=(⟨⟨p.core.kind,false,false,p.core.cells,p.core.count⟩,p.af⟩,rep 0 0 0 0):=by unfold cC bJ;rw [if_neg HB.out,if_neg nk.out,if_neg oQ.out,if_neg (fun h=>by rcases lU.1 h with h|h;exact qK.out h;exact qL.out h),if_neg sF.out,if_neg zD.out,if_neg Cf.out,if_neg JC.out,if_pos HM.out]
  rw [e]
  refine bodyPost_ret (iF rfl _ _ _ rfl q1 Tryz.underlying39 rfl (by kernel_rfl)) rfl q2
 have ajL:=pI LI.out.2.2.2.2.2.2.2.2 xZ
 have Tx:=Lib.hid xZ
 clear xZ
 go_wp2
 obtain ⟨q1,q2⟩:=iL HS.out H.out HR.out (by omega) hkr (rep 0 0 0 0)
 have e:cC p (bJ p.core x)=(p,rep 0 0 0 0):=by unfold cC bJ;rw [if_neg HB.out,if_neg nk.out,if_neg oQ.out,if_neg (fun h=>by rcases lU.1 h with h|h;exact qK.out h;exact qL.out h),if_neg sF.out,if_neg zD.out,if_neg Cf.out,if_neg JC.out,if_neg Tx.out]
 rw [e]
 refine bodyPost_ret (iF rfl _ _ _ rfl q1 Tryz.underlying39 rfl (by kernel_rfl)) rfl q2
end Go.Proofs.YtimickglpboilaaGreatDoor
