/- Walk: what a call does to a core in a box (does). -/
import Derived.Test.YtimickglpboilaaGreatDoorF14
set_option linter.unusedVariables false
set_option linter.unusedSimpArgs false
set_option linter.unusedSectionVars false
set_option maxRecDepth 100000
namespace Go.Proofs.YtimickglpboilaaGreatDoor
open Go.RowKit Go
variable [GC]
theorem ahT[mi]{K:Nat->Prop}{w:World}{g:Nat}{S2:Value}{p:Part}(h:PB K w g S2 p){S1:Value}(hr:cB K w g S1 (dc p.core.cells)) :
  Calls Tryz.prog 95 #[S1] w fun e w'=>e= .returned (.string (fmtC p.core.cells))/\Below w.heap.size w w':=by
 have hd:R w (fun _=>False) (bg p.core.cells) S1:=by
  have:=hr.rd (M:=fun _=>False) (fun _ _ _ _ _ _ _ h=>h)
  rwa [vZ] at this
 refine (aG.calls (UZ p.core.cells) (vs:=[S1]) h.je ⟨_,[],rfl,hd,rfl⟩).mono ?_
 rintro e w' ⟨v,rfl,⟨rfl,_⟩,h3⟩
 exact ⟨rfl,h3⟩
theorem ahV[nN][mi][pN]{K:Nat->Prop}{w:World}{g:Nat}{S2:Value}{p:Part}(h:PB K w g S2 p)(s:ByteArray)(hs:s.size<4294967281) :
  Calls Tryz.prog 96 #[.string s] w fun e w'=> ∃S1 a n cap,e= .returned (.tuple #[S1,.bool (eT s).2])/\S1= .slice a n cap/\n=(eT s).1.length/\Below w.heap.size w w'/\cB (Gr K w w') w' g S1 (dc (eT s).1)/\(∀b,bM S1 b->w.heap.size<=b):=by
 refine ((U6 s hs).2 w _ 0 [.string s] h.je ⟨_,[],rfl,⟨rfl,by unfold maxLen;omega⟩,rfl⟩ (fun cs h=>by cases h)).mono ?_
 rintro e w' ⟨v,rfl,⟨cs,rfl,v1,r1,e1,hr1,v2,r2,rfl,rfl,rfl⟩,h3,h4,_⟩
 have hcs:cs= #[v1,.bool (eT s).2]:=by rw [<-Array.toList_inj,e1]
 subst hcs
 have hb:=h3.lF
 have hl:=h4.1 (0,2) (by simp)
 have fG:r9 w.heap.size w' v1 2:=by
  obtain ⟨a,len,cap,rfl,_⟩:=(show R w' _ (.sl ((eT s).1.map bC.cells)) v1 from hr1)
  exact hl
 have hr:R w' (fun p=>False\/iM (.tuple #[v1,.bool (eT s).2]) [(0,2)] p) (.sl ((dc (eT s).1).map j7)) v1:=by rw [vZ];exact hr1
 have row:cB (Gr K w w') w' g v1 (dc (eT s).1):=cB.of hr fG (fun b h1 h2=> .inr ⟨h1,h2⟩) (fun b h1 h2 e=>by have:=h.uY;omega)
 obtain ⟨a,cap,e,_,_⟩:=row.ou
 refine ⟨v1,a,_,cap,rfl,e,vY _,hb,row,fun b eS=> ?_⟩
 obtain ⟨o,s',len,cap',e',hc⟩:=eS
 exact (fG b o s' len cap' e' hc).2.1
theorem Ow:mStart.toList=[83,116,97,114,116]/\cj.toList=[83,116,111,112]/\gy.toList=[71,101,116]/\fw.toList=[80,117,116]/\ep.toList=[84,101,108,108]/\fe.toList=[72,101,97,114]/\jN.toList=[76,111,97,100]/\rI.toList=[83,97,118,101]/\fc.toList=[72,101,97,108]:=by
 refine ⟨?_,?_,?_,?_,?_,?_,?_,?_,?_⟩<;>(rw [ByteArray.toList_eq];rfl)
theorem aaO:List.Pairwise (· ≠ ·) [mStart,cj,gy,fw,ep,fe,jN,rI,fc]:=by decide
theorem oX{m:ByteArray}{l:List UInt8}{x:ByteArray}(hl:m.toList=l)(h:x≠m):(x.toList==l)=false:=by
 have: ¬x.toList=l:=fun e=>h (toList_inj (by rw [e,hl]))
 simpa using this
set_option maxHeartbeats 60000000 in
theorem adl[mi][nN][pN](Mg:Th){K:Nat->Prop}{w:World}{g:Nat}{S2:Value}{p:Part}{x:Call}(h:PB K w g S2 p)(hx:mS x) :
  Calls Tryz.prog 72 #[.pointer (some ⟨g,0,none⟩),cm x] w (rX K w g S2 (cG p (bL p.core x))):=by
 have hgl:=h.uY
 have H:=Lib.hid h
 have HX:=Lib.hid hx
 obtain ⟨l1,l2,l3,l4,l5,l6,l7,l8,l9⟩:=Ow
 have LI:=Lib.hid Ow
 have hkr: ¬K (w.heap.size+1):=fun hk=>by have:=(H.out.kb _ hk).2;omega
 have hkx: ¬K w.heap.size:=fun hk=>by have:=(H.out.kb _ hk).2;omega
 have HW:=Lib.hid (show Below w.heap.size w ((w.alloc (.cells #[.string x.method,.string x.key,.int .i64 x.val,.string x.text] 43)).alloc (.cells aC 39)) by go_grown)
 have HXB:=Lib.hid (show ai ((w.alloc (.cells #[.string x.method,.string x.key,.int .i64 x.val,.string x.text] 43)).alloc (.cells aC 39)) w.heap.size 43 #[.string x.method,.string x.key,.int .i64 x.val,.string x.text] from (ai.new w 43 _).alloc _)
 have HR:=Lib.hid (show ai ((w.alloc (.cells #[.string x.method,.string x.key,.int .i64 x.val,.string x.text] 43)).alloc (.cells aC 39)) (w.heap.size+1) 39 aC by
  have:=ai.new (w.alloc (.cells #[.string x.method,.string x.key,.int .i64 x.val,.string x.text] 43)) 39 aC
  rwa [World.size_alloc] at this)
 obtain ⟨S1,a1,n1,Wd, -, -, -, -,c0,c1,c2,c3,c4,c5,hf, -, -⟩:=h.cells
 clear h hx l1 l2 l3 l4 l5 l6 l7 l8 l9 c3 c5 c0
 unfold cm
 go_enter Tryz.func72,Tryz.ntmps72
 go_upto_region 1 with fail
 go_cut [20] (fun s20 wx=>s20= .bool (p.core.broken&&(!decide (x.method=fc)&& !decide (x.method=ep)))/\wx=((w.alloc (.cells #[.string x.method,.string x.key,.int .i64 x.val,.string x.text] 43)).alloc (.cells aC 39)))
 case first =>
  cases hb:p.core.broken with
  | false =>
   rw [hb] at c2
   go_wp2_with fail
   go_meet
   case rel=>exact ⟨by rw [hb];rfl,rfl⟩
  | true =>
   rw [hb] at c2
   by_cases h1:x.method=fc
   ·have h1':x.method.toList=[72,101,97,108]:=by rw [h1];exact LI.out.2.2.2.2.2.2.2.2
    have H1:=Lib.hid h1
    clear h1
    go_wp2_with fail
    go_meet
    case rel=>exact ⟨by rw [hb,H1.out];rfl,rfl⟩
   ·have h1':=oX LI.out.2.2.2.2.2.2.2.2 h1
    by_cases h2:x.method=ep
    ·have h2':x.method.toList=[84,101,108,108]:=by rw [h2];exact LI.out.2.2.2.2.1
     have H2:=Lib.hid h2
     clear h1 h2 h1'
     go_wp2_with fail
     go_meet
     case rel=>exact ⟨by rw [hb,H2.out];rfl,rfl⟩
    ·have h2':=oX LI.out.2.2.2.2.1 h2
     have H1:=Lib.hid h1
     have H2:=Lib.hid h2
     clear h1 h2
     go_wp2_with fail
     go_meet
     case rel=>exact ⟨by rw [hb,decide_eq_false H1.out,decide_eq_false H2.out];rfl,rfl⟩
 case rest =>
 obtain ⟨rfl,yI⟩:=hcut
 rw [<-yI] at HW HXB HR
 clear yI
 have HS:=Lib.hid ((St.start H.out).below HW.out)
 obtain ⟨lL,a1',n1',aiC,rfl,hn1', -, -,c0',c1',c2',J8,c4',c5',hf',XD,aiQ⟩:=HS.out.pb.cells
 clear hn1'
 have x0:wc.cell? ⟨w.heap.size,0,none⟩=some (.string x.method):=by rw [HXB.out.cell];rfl
 have x1:wc.cell? ⟨w.heap.size,1,none⟩=some (.string x.key):=by rw [HXB.out.cell];rfl
 have x2:wc.cell? ⟨w.heap.size,2,none⟩=some (.int .i64 x.val):=by rw [HXB.out.cell];rfl
 have x3:wc.cell? ⟨w.heap.size,3,none⟩=some (.string x.text):=by rw [HXB.out.cell];rfl
 have gm:=HR.out;obtain ⟨mJ,mK,mL,mM,mN,mO⟩:=lY (w:=wc) (b:=w.heap.size+1) gm
 by_cases om:p.core.broken=true/\x.method≠fc/\x.method≠ep
 ·have hq:(p.core.broken&&(!decide (x.method=fc)&& !decide (x.method=ep)))=true:=by simp [om.1,om.2.1,om.2.2]
  have HB:=Lib.hid om
  clear om
  rw [hq]
  go_wp2
  obtain ⟨q1,q2⟩:=iN HS.out H.out HR.out (by omega) hkr (rep 3 0 0 0)
  have e:cG p (bL p.core x)=(p,rep 3 0 0 0):=by unfold cG bL;rw [if_pos HB.out]
  rw [e]
  refine bodyPost_ret (iJ rfl _ _ _ rfl q1 Tryz.underlying39 rfl (by kernel_rfl)) rfl q2
 have hq:(p.core.broken&&(!decide (x.method=fc)&& !decide (x.method=ep)))=false:=by
  cases h1:p.core.broken with
  | false=>rfl
  | true =>
   by_cases h2:x.method=fc
   ·simp [h2]
   ·by_cases h3:x.method=ep
    ·simp [h3]
    ·exact absurd ⟨h1,h2,h3⟩ om
 have HB:=Lib.hid om
 have HP:=Lib.hid aaO
 clear om
 rw [hq]
 clear hq c1 c2 c4 hf
 have kW:w.heap.size+1≠g:=by omega
 have kg:=HS.out.pb.kg
 by_cases yg:x.method=mStart
 ·have P1:=HS.out.pb.BH true
  have P2:=HS.out.pb.BH false
  have jk:x.method.toList=[83,116,97,114,116]:=by rw [yg];exact LI.out.1
  have HM:=Lib.hid yg
  clear yg
  cases hon:p.core.on with
  | true =>
   rw [hon] at c1'
   clear P1
   have A1:=HS.out.put (a:=⟨g,1,none⟩) kg P2
   have A2:=Lib.hid (A1.put (a:=⟨g,2,none⟩) kg (A1.pb.Qf true))
   have EU:=Lib.hid ((HR.out.far (p:=⟨g,1,none⟩) kW (.bool false)).far (p:=⟨g,2,none⟩) kW (.bool true))
   clear A1 P2
   go_wp2
   obtain ⟨q1,q2⟩:=iN A2.out H.out EU.out (by omega) hkr (rep 3 0 0 0)
   have e:cG p (bL p.core x)=(⟨⟨p.core.kind,false,true,p.core.cells,p.core.count⟩,p.af⟩,rep 3 0 0 0):=by unfold cG bL;rw [if_neg HB.out,if_pos HM.out,if_pos hon]
   rw [e]
   refine bodyPost_ret (iJ rfl _ _ _ rfl q1 Tryz.underlying39 rfl (by kernel_rfl)) rfl q2
  | false =>
   rw [hon] at c1'
   clear P2
   have A1:=Lib.hid (HS.out.put (a:=⟨g,1,none⟩) kg P1)
   have qw:=Lib.hid (HR.out.far (p:=⟨g,1,none⟩) kW (.bool true))
   have HC:=Lib.hid (Cb P1 p.core.count H.out.ct)
   clear P1
   go_wp2_with fail
   refine HC.out.mono ?_
   rintro e w5 ⟨rfl,hb5,AP⟩
   have A5:=A1.out.below hb5
   have iU:=Lib.hid (qw.out.below hb5 qw.out.lt)
   obtain ⟨E4,au,nu,cpu, -, -, -, -,d0,d1,d2,d3,d4,d5,MI, -, -⟩:=A5.pb.cells
   have A6:=Lib.hid (A5.put (a:=⟨g,4,none⟩) kg (A5.pb.IJ (bU p.core.count) AP))
   have pM:=Lib.hid (iU.out.far (p:=⟨g,4,none⟩) kW (.int .i64 (bU p.core.count)))
   clear A5 hb5
   have gm:=pM.out;obtain ⟨mJ,mK,mL,mM,mN,mO⟩:=lY (w:=(w5.setCell ⟨g,4,none⟩ (.int .i64 (bU p.core.count)))) (b:=w.heap.size+1) gm
   go_wp2
   obtain ⟨q1,q2⟩:=iN A6.out H.out pM.out (by omega) hkr (rep 0 0 0 0)
   have e:cG p (bL p.core x)=(⟨⟨p.core.kind,true,p.core.broken,p.core.cells,bU p.core.count⟩,p.af⟩,rep 0 0 0 0):=by unfold cG bL;rw [if_neg HB.out,if_pos HM.out,if_neg (by simp [hon])]
   rw [e]
   refine bodyPost_ret (iJ rfl _ _ _ rfl q1 Tryz.underlying39 rfl (by kernel_rfl)) rfl q2
 have aiN:=oX LI.out.1 yg
 have mT:=Lib.hid yg
 clear yg
 by_cases yh:x.method=cj
 ·have P2:=HS.out.pb.BH false
  have jk:x.method.toList=[83,116,111,112]:=by rw [yh];exact LI.out.2.1
  have HM:=Lib.hid yh
  clear yh
  cases hon:p.core.on with
  | true =>
   rw [hon] at c1'
   have A1:=Lib.hid (HS.out.put (a:=⟨g,1,none⟩) kg P2)
   have qw:=Lib.hid (HR.out.far (p:=⟨g,1,none⟩) kW (.bool false))
   clear P2
   go_wp2
   obtain ⟨q1,q2⟩:=iN A1.out H.out qw.out (by omega) hkr (rep 0 0 0 0)
   have e:cG p (bL p.core x)=(⟨⟨p.core.kind,false,p.core.broken,p.core.cells,p.core.count⟩,p.af⟩,rep 0 0 0 0):=by unfold cG bL;rw [if_neg HB.out,if_neg mT.out,if_pos HM.out,if_neg (by simp [hon])]
   rw [e]
   refine bodyPost_ret (iJ rfl _ _ _ rfl q1 Tryz.underlying39 rfl (by kernel_rfl)) rfl q2
  | false =>
   rw [hon] at c1'
   clear P2
   go_wp2
   obtain ⟨q1,q2⟩:=iN HS.out H.out HR.out (by omega) hkr (rep 2 0 0 0)
   have e:cG p (bL p.core x)=(p,rep 2 0 0 0):=by unfold cG bL;rw [if_neg HB.out,if_neg mT.out,if_pos HM.out,if_pos hon]
   rw [e]
   refine bodyPost_ret (iJ rfl _ _ _ rfl q1 Tryz.underlying39 rfl (by kernel_rfl)) rfl q2
 have aiO:=oX LI.out.2.1 yh
 have oH:=Lib.hid yh
 clear yh
 by_cases xT:x.method=gy
 ·have jk:x.method.toList=[71,101,116]:=by rw [xT];exact LI.out.2.2.1
  have HM:=Lib.hid xT
  clear xT
  have HC:=Lib.hid (Mg _ _ _ _ _ _ HS.out.pb HX.out)
  unfold cm at HC
  go_wp2_with fail
  refine HC.out.mono ?_
  rintro e w5 ⟨rfl,ik,eI⟩
  have A5:=Lib.hid (HS.out.call ik eI)
  have iU:=Lib.hid (HR.out.bY eI hkr)
  have lQ: ¬Gr K wc w5 (w.heap.size+1):=by rintro (h|h);exact hkr h;have:=HR.out.lt;omega
  clear ik eI
  have gm:=iU.out;obtain ⟨mJ,mK,mL,mM,mN,mO⟩:=lY (w:=w5) (b:=w.heap.size+1) gm
  unfold rO
  go_wp2
  obtain ⟨q1,q2⟩:=iN A5.out H.out iU.out (by omega) lQ (cG p (keepD p.core x)).2
  have e:cG p (bL p.core x)=((cG p (keepD p.core x)).1,(cG p (keepD p.core x)).2):=by unfold cG bL;rw [if_neg HB.out,if_neg mT.out,if_neg oH.out,if_pos (lT.2 (.inl HM.out))]
  rw [e]
  refine bodyPost_ret (iJ rfl _ _ _ rfl q1 Tryz.underlying39 rfl (by kernel_rfl)) rfl q2
 have aiG:=oX LI.out.2.2.1 xT
 have qA:=Lib.hid xT
 clear xT
 by_cases yd:x.method=fw
 ·have jk:x.method.toList=[80,117,116]:=by rw [yd];exact LI.out.2.2.2.1
  have HM:=Lib.hid yd
  clear yd
  have HC:=Lib.hid (Mg _ _ _ _ _ _ HS.out.pb HX.out)
  unfold cm at HC
  go_wp2_with fail
  refine HC.out.mono ?_
  rintro e w5 ⟨rfl,ik,eI⟩
  have A5:=Lib.hid (HS.out.call ik eI)
  have iU:=Lib.hid (HR.out.bY eI hkr)
  have lQ: ¬Gr K wc w5 (w.heap.size+1):=by rintro (h|h);exact hkr h;have:=HR.out.lt;omega
  clear ik eI
  have gm:=iU.out;obtain ⟨mJ,mK,mL,mM,mN,mO⟩:=lY (w:=w5) (b:=w.heap.size+1) gm
  unfold rO
  go_wp2
  obtain ⟨q1,q2⟩:=iN A5.out H.out iU.out (by omega) lQ (cG p (keepD p.core x)).2
  have e:cG p (bL p.core x)=((cG p (keepD p.core x)).1,(cG p (keepD p.core x)).2):=by unfold cG bL;rw [if_neg HB.out,if_neg mT.out,if_neg oH.out,if_pos (lT.2 (.inr HM.out))]
  rw [e]
  refine bodyPost_ret (iJ rfl _ _ _ rfl q1 Tryz.underlying39 rfl (by kernel_rfl)) rfl q2
 have aiL:=oX LI.out.2.2.2.1 yd
 have qB:=Lib.hid yd
 clear yd
 by_cases yl:x.method=ep
 ·have jk:x.method.toList=[84,101,108,108]:=by rw [yl];exact LI.out.2.2.2.2.1
  have HM:=Lib.hid yl
  clear yl
  go_wp2
  obtain ⟨q1,q2⟩:=iN HS.out H.out HR.out (by omega) hkr (rep 0 p.core.count 0 0)
  have e:cG p (bL p.core x)=(p,rep 0 p.core.count 0 0):=by unfold cG bL;rw [if_neg HB.out,if_neg mT.out,if_neg oH.out,if_neg (fun h=>by rcases lT.1 h with h|h;exact qA.out h;exact qB.out h),if_pos HM.out]
  rw [e]
  refine bodyPost_ret (iJ rfl _ _ _ rfl q1 Tryz.underlying39 rfl (by kernel_rfl)) rfl q2
 have aiP:=oX LI.out.2.2.2.2.1 yl
 have sn:=Lib.hid yl
 clear yl
 by_cases xV:x.method=fe
 ·have jk:x.method.toList=[72,101,97,114]:=by rw [xV];exact LI.out.2.2.2.2.2.1
  have HM:=Lib.hid xV
  clear xV
  have HC:=Lib.hid (Cb HS.out.pb p.core.count H.out.ct)
  go_wp2_with fail
  refine HC.out.mono ?_
  rintro e w5 ⟨rfl,hb5,AP⟩
  have A5:=HS.out.below hb5
  have iU:=Lib.hid (HR.out.below hb5 HR.out.lt)
  obtain ⟨E4,au,nu,cpu, -, -, -, -,d0,d1,d2,d3,d4,d5,MI, -, -⟩:=A5.pb.cells
  have A6:=A5.put (a:=⟨g,4,none⟩) kg (A5.pb.IJ (bU p.core.count) AP)
  have pM:=Lib.hid (iU.out.far (p:=⟨g,4,none⟩) kW (.int .i64 (bU p.core.count)))
  have y2:w5.cell? ⟨w.heap.size,2,none⟩=some (.int .i64 x.val):=ay hb5 x2
  have y2':(w5.setCell ⟨g,4,none⟩ (.int .i64 (bU p.core.count))).cell? ⟨w.heap.size,2,none⟩=some (.int .i64 x.val):=by
   rw [World.cell?_of_block (w:=w5) (w':=w5.setCell ⟨g,4,none⟩ (.int .i64 (bU p.core.count))) (a:=⟨w.heap.size,2,none⟩) (p8 (by intro e;have e:w.heap.size=g:=e;omega))];exact y2
  obtain ⟨S1t,at1,nt1,cpt, -, -, -, -,t0,t1,t2,t3,t4,t5,hft, -, -⟩:=A6.pb.cells
  have SX:=Lib.hid A6
  have Jp:=fun b=>A6.put (a:=⟨g,1,none⟩) kg (A6.pb.BH b)
  have Cd:=Lib.hid Jp
  clear A5 A6 Jp hb5 y2
  by_cases hv0:x.val=0
  ·have rY:=Lib.hid (pM.out.far (p:=⟨g,1,none⟩) kW (.bool false))
   obtain ⟨Un,av,nv,We, -, -, -, -,u0',u1',u2',u3',u4',u5',GF, -, -⟩:=(Cd.out false).pb.cells
   have gm:=rY.out;obtain ⟨mJ,mK,mL,mM,mN,mO⟩:=lY (w:=((w5.setCell ⟨g,4,none⟩ (.int .i64 (bU p.core.count))).setCell ⟨g,1,none⟩ (.bool false))) (b:=w.heap.size+1) gm
   go_wp2
   obtain ⟨q1,q2⟩:=iN (Cd.out false) H.out rY.out (by omega) hkr (rep 0 (bU p.core.count) 0 0)
   have e:cG p (bL p.core x)=(⟨⟨p.core.kind,false,p.core.broken,p.core.cells,bU p.core.count⟩,p.af⟩,rep 0 (bU p.core.count) 0 0):=by unfold cG bL;rw [if_neg HB.out,if_neg mT.out,if_neg oH.out,if_neg (fun h=>by rcases lT.1 h with h|h;exact qA.out h;exact qB.out h),if_neg sn.out,if_pos HM.out,if_pos hv0]
   rw [e]
   refine bodyPost_ret (iJ rfl _ _ _ rfl q1 Tryz.underlying39 rfl (by kernel_rfl)) rfl q2
  by_cases hv1:x.val=1
  ·have rY:=Lib.hid (pM.out.far (p:=⟨g,1,none⟩) kW (.bool true))
   obtain ⟨Un,av,nv,We, -, -, -, -,u0',u1',u2',u3',u4',u5',GF, -, -⟩:=(Cd.out true).pb.cells
   have gm:=rY.out;obtain ⟨mJ,mK,mL,mM,mN,mO⟩:=lY (w:=((w5.setCell ⟨g,4,none⟩ (.int .i64 (bU p.core.count))).setCell ⟨g,1,none⟩ (.bool true))) (b:=w.heap.size+1) gm
   go_wp2
   obtain ⟨q1,q2⟩:=iN (Cd.out true) H.out rY.out (by omega) hkr (rep 0 (bU p.core.count) 0 0)
   have e:cG p (bL p.core x)=(⟨⟨p.core.kind,true,p.core.broken,p.core.cells,bU p.core.count⟩,p.af⟩,rep 0 (bU p.core.count) 0 0):=by unfold cG bL;rw [if_neg HB.out,if_neg mT.out,if_neg oH.out,if_neg (fun h=>by rcases lT.1 h with h|h;exact qA.out h;exact qB.out h),if_neg sn.out,if_pos HM.out,if_neg hv0,if_pos hv1]
   rw [e]
   refine bodyPost_ret (iJ rfl _ _ _ rfl q1 Tryz.underlying39 rfl (by kernel_rfl)) rfl q2
  ·have gm:=pM.out;obtain ⟨mJ,mK,mL,mM,mN,mO⟩:=lY (w:=(w5.setCell ⟨g,4,none⟩ (.int .i64 (bU p.core.count)))) (b:=w.heap.size+1) gm
   go_wp2
   obtain ⟨q1,q2⟩:=iN SX.out H.out pM.out (by omega) hkr (rep 0 (bU p.core.count) 0 0)
   have e:cG p (bL p.core x)=(⟨⟨p.core.kind,p.core.on,p.core.broken,p.core.cells,bU p.core.count⟩,p.af⟩,rep 0 (bU p.core.count) 0 0):=by unfold cG bL;rw [if_neg HB.out,if_neg mT.out,if_neg oH.out,if_neg (fun h=>by rcases lT.1 h with h|h;exact qA.out h;exact qB.out h),if_neg sn.out,if_pos HM.out,if_neg hv0,if_neg hv1]
   rw [e]
   refine bodyPost_ret (iJ rfl _ _ _ rfl q1 Tryz.underlying39 rfl (by kernel_rfl)) rfl q2
 have aiI:=oX LI.out.2.2.2.2.2.1 xV
 have zA:=Lib.hid xV
 clear xV
 by_cases yf:x.method=rI
 ·have jk:x.method.toList=[83,97,118,101]:=by rw [yf];exact LI.out.2.2.2.2.2.2.2.1
  have HM:=Lib.hid yf
  clear yf
  have HC:=Lib.hid (ahT HS.out.pb XD)
  obtain ⟨tx,G6⟩: ∃t,t=fmtC p.core.cells:=⟨_,rfl⟩
  rw [<-G6] at HC
  have Te:=Lib.hid G6
  clear G6
  go_wp2_with fail
  refine HC.out.mono ?_
  rintro e w5 ⟨rfl,hb5⟩
  have A5:=Lib.hid (HS.out.below hb5)
  have iU:=Lib.hid (HR.out.below hb5 HR.out.lt)
  clear hb5
  have gm:=iU.out;obtain ⟨mJ,mK,mL,mM,mN,mO⟩:=lY (w:=w5) (b:=w.heap.size+1) gm
  go_wp2
  obtain ⟨q1,q2⟩:=iN A5.out H.out iU.out (by omega) hkr (⟨0,0,tx,0,0⟩)
  have e:cG p (bL p.core x)=(p,⟨0,0,tx,0,0⟩):=by rw [Te.out];unfold cG bL;rw [if_neg HB.out,if_neg mT.out,if_neg oH.out,if_neg (fun h=>by rcases lT.1 h with h|h;exact qA.out h;exact qB.out h),if_neg sn.out,if_neg zA.out,if_pos HM.out]
  rw [e]
  refine bodyPost_ret (iJ rfl _ _ _ rfl q1 Tryz.underlying39 rfl (by kernel_rfl)) rfl q2
 have aiM:=oX LI.out.2.2.2.2.2.2.2.1 yf
 have Ch:=Lib.hid yf
 clear yf
 by_cases xX:x.method=jN
 ·have jk:x.method.toList=[76,111,97,100]:=by rw [xX];exact LI.out.2.2.2.2.2.2.1
  have HM:=Lib.hid xX
  clear xX
  have HC:=Lib.hid (ahV HS.out.pb x.text HX.out.text)
  go_wp2_with fail
  refine HC.out.mono ?_
  rintro e w5 ⟨S1n,an,nn,KE,rfl,rfl,hnn,hb5,hrow,hnew⟩
  have A5:=HS.out.below hb5
  have iU:=Lib.hid (HR.out.below hb5 HR.out.lt)
  have hgr: ∀b,Gr K wc w5 b->NG<=b/\b<w5.heap.size:=by
   rintro b (hb|hb)
   ·exact A5.pb.kb b hb
   ·exact ⟨Nat.le_trans HS.out.pb.gi.2 hb.1,hb.2⟩
  have A6:St K w g S2 (Gr K wc w5) p w5:=⟨A5.pb.mono (fun _ h=> .inl h) hgr,A5.nb,fun b hb=>by
   rcases hb with hb|hb
   ·exact .inl hb
   ·exact .inr ⟨Nat.le_trans HS.out.fr.size hb.1,hb.2⟩,A5.fr⟩
  have P7:=A6.pb.setCells hrow (fun b hb hs2=>by
   have h1:=hnew b hb
   have h2:=(HS.out.pb.ly.out hs2).2.2
   omega)
  have A7:=Lib.hid (A6.put (a:=⟨g,3,none⟩) A6.pb.kg P7)
  have lQ: ¬Gr K wc w5 (w.heap.size+1):=by rintro (h|h);exact hkr h;have:=HR.out.lt;omega
  obtain ⟨E4,au,nu,cpu, -, -, -, -,d0,d1,d2,d3,d4,d5,MI, -, -⟩:=A6.pb.cells
  have S5:=Lib.hid A6
  have S7:=Lib.hid hnn
  clear A5 A6 hgr P7 hrow hnew hb5 hnn
  cases hok:(eT x.text).2 with
  | true =>
   have rY:=Lib.hid (iU.out.far (p:=⟨g,3,none⟩) kW (.slice an nn KE))
   have gm:=rY.out;obtain ⟨mJ,mK,mL,mM,mN,mO⟩:=lY (w:=(w5.setCell ⟨g,3,none⟩ (.slice an nn KE))) (b:=w.heap.size+1) gm
   go_wp2
   obtain ⟨q1,q2⟩:=iN A7.out H.out rY.out (by omega) lQ (rep 0 (eT x.text).1.length 0 0)
   have e:cG p (bL p.core x)=(⟨⟨p.core.kind,p.core.on,p.core.broken,(eT x.text).1,p.core.count⟩,p.af⟩,rep 0 (eT x.text).1.length 0 0):=by unfold cG bL;rw [if_neg HB.out,if_neg mT.out,if_neg oH.out,if_neg (fun h=>by rcases lT.1 h with h|h;exact qA.out h;exact qB.out h),if_neg sn.out,if_neg zA.out,if_neg Ch.out,if_pos HM.out,if_pos hok]
   rw [e]
   rw [<-S7.out] at q1 q2 ⊢
   refine bodyPost_ret (iJ rfl _ _ _ rfl q1 Tryz.underlying39 rfl (by kernel_rfl)) rfl q2
  | false =>
   have gm:=iU.out;obtain ⟨mJ,mK,mL,mM,mN,mO⟩:=lY (w:=w5) (b:=w.heap.size+1) gm
   go_wp2
   obtain ⟨q1,q2⟩:=iN S5.out H.out iU.out (by omega) lQ (rep 6 0 0 0)
   have e:cG p (bL p.core x)=(p,rep 6 0 0 0):=by unfold cG bL;rw [if_neg HB.out,if_neg mT.out,if_neg oH.out,if_neg (fun h=>by rcases lT.1 h with h|h;exact qA.out h;exact qB.out h),if_neg sn.out,if_neg zA.out,if_neg Ch.out,if_pos HM.out,if_neg (by simp [hok])]
   rw [e]
   refine bodyPost_ret (iJ rfl _ _ _ rfl q1 Tryz.underlying39 rfl (by kernel_rfl)) rfl q2
 have aiJ:=oX LI.out.2.2.2.2.2.2.1 xX
 have JA:=Lib.hid xX
 clear xX
 by_cases xU:x.method=fc
 ·have P2:=HS.out.pb.BH false
  have jk:x.method.toList=[72,101,97,108]:=by rw [xU];exact LI.out.2.2.2.2.2.2.2.2
  have HM:=Lib.hid xU
  clear xU
  have A1:=HS.out.put (a:=⟨g,1,none⟩) kg P2
  have A2:=Lib.hid (A1.put (a:=⟨g,2,none⟩) kg (A1.pb.Qf false))
  have EU:=Lib.hid ((HR.out.far (p:=⟨g,1,none⟩) kW (.bool false)).far (p:=⟨g,2,none⟩) kW (.bool false))
  clear A1 P2
  go_wp2
  obtain ⟨q1,q2⟩:=iN A2.out H.out EU.out (by omega) hkr (rep 0 0 0 0)
  have e:cG p (bL p.core x)=(⟨⟨p.core.kind,false,false,p.core.cells,p.core.count⟩,p.af⟩,rep 0 0 0 0):=by unfold cG bL;rw [if_neg HB.out,if_neg mT.out,if_neg oH.out,if_neg (fun h=>by rcases lT.1 h with h|h;exact qA.out h;exact qB.out h),if_neg sn.out,if_neg zA.out,if_neg Ch.out,if_neg JA.out,if_pos HM.out]
  rw [e]
  refine bodyPost_ret (iJ rfl _ _ _ rfl q1 Tryz.underlying39 rfl (by kernel_rfl)) rfl q2
 have aiH:=oX LI.out.2.2.2.2.2.2.2.2 xU
 have Tk:=Lib.hid xU
 clear xU
 go_wp2
 obtain ⟨q1,q2⟩:=iN HS.out H.out HR.out (by omega) hkr (rep 0 0 0 0)
 have e:cG p (bL p.core x)=(p,rep 0 0 0 0):=by unfold cG bL;rw [if_neg HB.out,if_neg mT.out,if_neg oH.out,if_neg (fun h=>by rcases lT.1 h with h|h;exact qA.out h;exact qB.out h),if_neg sn.out,if_neg zA.out,if_neg Ch.out,if_neg JA.out,if_neg Tk.out]
 rw [e]
 refine bodyPost_ret (iJ rfl _ _ _ rfl q1 Tryz.underlying39 rfl (by kernel_rfl)) rfl q2
end Go.Proofs.YtimickglpboilaaGreatDoor
