/- Walk: Get and Put of a core in a box (keepCall). -/
import Derived.Test.YtimickglpboilaaGreatDoorG19
import Derived.Test.YtimickglpboilaaGreatDoorG15
set_option linter.unusedVariables false
set_option linter.unusedSimpArgs false
set_option linter.unusedSectionVars false
set_option maxRecDepth 100000
namespace Go.Proofs.YtimickglpboilaaGreatDoor
open Go.RowKit Go
variable [GC]
set_option maxHeartbeats 60000000 in
theorem adW{K:Nat->Prop}{w:World}{g:Nat}{S2:Value}{p:Part}{x:Call}(h:PB K w g S2 p)(hx:ni x) :
  Calls Tryz.prog 94 #[.pointer (some ⟨g,0,none⟩),dL x] w (sB K w g S2 (cC p (keepD p.core x))):=by
 obtain ⟨S1,a,n,cap,C6,hn,hnc,hcm,c0,c1,c2,c3,c4,c5,hf,Mq,hap⟩:=h.cells
 unfold maxLen at hcm
 have hlen:=wm p.core.cells
 have H:=Lib.hid h
 have HX:=Lib.hid hx
 have HK:=Lib.hid (fun w0 hb=>ai0 h p.core.kind h.ks w0 hb)
 have hgl:=h.vf
 clear h hx
 unfold dL
 go_enter Tryz.func94,Tryz.ntmps94
 go_wp2_with fail
 refine (HK.out _ (by go_grown)).mono ?_
 rintro e w1 ⟨rfl,hb1⟩
 have fq:Below w.heap.size w w1:=bt (by go_grown) hb1
 obtain ⟨hc1,hf1⟩:=EV hb1
 (try simp only [World.size_alloc] at hc1 hf1)
 have hz1:w.heap.size+1+1<=w1.heap.size:=by have:=hb1.size;(try simp only [World.size_alloc] at this);omega
 have d0:=ax fq c0
 have d1:=ax fq c1
 have d3:=ax fq c3
 have d4:=ax fq c4
 have Gh:=UL (dO p.core.kind) (vV _)
 have HS:=Lib.hid ((St.start H.out).below fq)
 have HR:=Lib.hid (show aJ w1 (w.heap.size+1) 39 aY by
  have:=(aJ.new (w.alloc (.cells #[.string x.method,.string x.key,.int .i64 x.val,.string x.text] 43)) 39 aY).below hb1 (by simp)
  rwa [World.size_alloc] at this)
 have hkr: ¬K (w.heap.size+1):=fun hk=>by have:=(H.out.kb _ hk).2;omega
 have HXB:=Lib.hid (show aJ w1 w.heap.size 43 #[.string x.method,.string x.key,.int .i64 x.val,.string x.text] from
  ((aJ.new w 43 #[.string x.method,.string x.key,.int .i64 x.val,.string x.text]).alloc _).below hb1 (by simp only [World.size_alloc];omega))
 go_upto_region 2 with fail
 go_cut [26] (fun s26 wx=>s26= .bool ((dO p.core.kind).testBit 0&& !p.core.on)/\wx=w1)
 case first =>
  cases hq:(dO p.core.kind).testBit 0 with
  | true =>
   rw [hq,if_pos rfl] at Gh
   cases hon:p.core.on<;>(rw [hon] at d1;go_wp2_with fail;go_meet;case rel=>exact ⟨by rw [hq,hon];rfl,rfl⟩)
  | false =>
   rw [hq,if_neg (by simp)] at Gh
   go_wp2_with fail
   go_meet
   case rel=>exact ⟨by rw [hq];rfl,rfl⟩
 case rest =>
 obtain ⟨rfl,yK⟩:=hcut
 replace yK:=yK.symm
 subst yK
 clear Gh
 by_cases hoff:(dO p.core.kind).testBit 0=true/\p.core.on=false
 ·have hq:((dO p.core.kind).testBit 0&& !p.core.on)=true:=by simp [hoff.1,hoff.2]
  have nZ:=Lib.hid hoff
  clear hoff
  rw [hq]
  go_wp2
  obtain ⟨q1,q2⟩:=iL HS.out H.out HR.out (by simp) (by simpa using hkr) (rep 2 0 0 0)
  have e:cC p (keepD p.core x)=(p,rep 2 0 0 0):=by unfold cC keepD;rw [if_pos nZ.out]
  rw [e]
  refine bodyPost_ret (iF rfl _ _ _ rfl q1 Tryz.underlying39 rfl (by kernel_rfl)) rfl q2
 have hq:((dO p.core.kind).testBit 0&& !p.core.on)=false:=by
  cases h1:(dO p.core.kind).testBit 0<;>cases h2:p.core.on<;>simp_all
 have nZ:=Lib.hid hoff
 clear hoff
 rw [hq]
 clear hq
 go_upto_block 0 with fail
 have HN:=Lib.hid hn
 clear hn
 have hf': ∀W:World,Below w.heap.size w W-> ∀i,W.frozen? ⟨g,i,none⟩=false:=fun W hb i=>by rw [(EV hb).2 g i hgl];exact hf i
 have HF:=Lib.hid hf'
 clear hf' hf
 have x0:w1.cell? ⟨w.heap.size,0,none⟩=some (.string x.method):=by rw [HXB.out.cell];rfl
 have x1:w1.cell? ⟨w.heap.size,1,none⟩=some (.string x.key):=by rw [HXB.out.cell];rfl
 have x2:w1.cell? ⟨w.heap.size,2,none⟩=some (.int .i64 x.val):=by rw [HXB.out.cell];rfl
 have qH:=Lib.hid Mq
 clear Mq
 have B6:=Lib.hid (fun (k:Nat) (hk:k<n) (W:World) (hb:Below w.heap.size w W)=>show ∃b o,S1= .slice (some ⟨b,o,none⟩) n cap/\K b/\b≠g/\bi S1 b/\W.cell? ⟨b,o+k*2,none⟩=some (.string (nth p.core.cells k).key)/\W.cell? ⟨b,o+k*2+1,none⟩=some (.int .i64 (nth p.core.cells k).val)/\(∀i,W.frozen? ⟨b,i,none⟩=false) from by
  obtain ⟨b,o,cp,bO,hKb,hbg,eE,a0,a1,hfz,hbl⟩:=qH.out.at (i:=k) (by rw [wm, <-HN.out];exact hk)
  rw [Pg (by rw [<-HN.out];exact hk)] at a0 a1
  have e:S1= .slice (some ⟨b,o,none⟩) n cap:=by
   rw [C6] at bO ⊢
   simp only [Value.slice.injEq] at bO ⊢
   exact ⟨bO.1,trivial,trivial⟩
  exact ⟨b,o,e,hKb,hbg,eE,ax hb a0,ax hb a1,fun i=>by rw [(EV hb).2 b i hbl];exact hfz i none⟩)
 rw [C6] at d3
 have uB:=Lib.hid C6
 clear C6 hlen
 go_cut [7] (fun s7 wx=>s7= .int .i64 ((bW p.core.cells x.key:Nat):Int)/\Below w1.heap.size w1 wx)
 case first =>
  go_wp2
  go_loopw [7] (fun at' wr=>Below w1.heap.size w1 wr/\ ∃k:Nat,k<=n/\at'= .int .i64 k/\ ∀i,i<k->gj (nth p.core.cells i).key x.key=true) (fun at' _=>n-(intOf at').toNat)
  case atStart=>exact ⟨Below.refl _ _,0,by omega,rfl,fun i h=>absurd h (by omega)⟩
  case round =>
   obtain ⟨hB,k,hk,rfl,hlow⟩:=hrel
   have e1:=ax hB d1
   have e3:=ax hB d3
   have e4:=ax hB d4
   replace x0:=ax hB x0
   replace x1:=ax hB x1
   replace x2:=ax hB x2
   have EG:=Lib.hid hlow
   clear hlow
   by_cases hlt:k<n
   ·obtain ⟨b,o,bO,hKb,hbg,eE,a0,a1,hfz⟩:=B6.out k hlt wr (bt fq hB)
    rw [uB.out] at bO
    simp only [Value.slice.injEq] at bO
    obtain ⟨rfl, -, -⟩:=bO
    have hi0:(0:Int)<=(k:Int):=by omega
    have hi1:(k:Int)<(n:Int):=by omega
    have hdl:decide (k<n)=true:=by simp;omega
    by_cases hl:gj (nth p.core.cells k).key x.key=true
    ·have hl':Op.bytesLess (nth p.core.cells k).key.toList x.key.toList=true:=hl
     go_wp2
     (refine Pt mo (by kernel_rfl) fun wd hwd cy=> ?_);replace e1:=ax cy e1;replace e3:=ax cy e3;replace e4:=ax cy e4;replace x0:=ax cy x0;replace x1:=ax cy x1;replace x2:=ax cy x2;replace a0:=ax cy a0;replace a1:=ax cy a1;replace hB:=bt hB cy;clear hwd cy;(repeat still_step);refine wpStill_nil ?_
     go_wp2
     exact ⟨⟨hB,k+1,by omega,by go_num,fun i hi=>by
      rcases Nat.lt_or_ge i k with h|h
      ·exact EG.out i h
      ·obtain rfl:i=k:=by omega
       exact hl⟩,by simp [intOf];omega⟩
    ·have fD:gj (nth p.core.cells k).key x.key=false:=by simpa using hl
     have hl':Op.bytesLess (nth p.core.cells k).key.toList x.key.toList=false:=fD
     have hat:bW p.core.cells x.key=k:=ET (by rw [<-HN.out];omega) EG.out (fun _=>fD)
     have EF:=Lib.hid hat
     clear hat hl fD
     go_wp2
     (refine Pt mo (by kernel_rfl) fun wd hwd cy=> ?_);replace e1:=ax cy e1;replace e3:=ax cy e3;replace e4:=ax cy e4;replace x0:=ax cy x0;replace x1:=ax cy x1;replace x2:=ax cy x2;replace a0:=ax cy a0;replace a1:=ax cy a1;replace hB:=bt hB cy;clear hwd cy;(repeat still_step);refine wpStill_nil ?_
     go_wp2_with fail
     go_meet
     case rel=>exact ⟨by rw [EF.out],hB⟩
   ·have hat:bW p.core.cells x.key=k:=ET (by rw [<-HN.out];omega) EG.out (fun h=>by have:=HN.out;omega)
    have EF:=Lib.hid hat
    clear hat
    have hdl:decide (k<n)=false:=by simp;omega
    go_wp2
    refine DW (C:=jM w1 [((⟨g,3,none⟩:Addr),.slice a n cap)]) (by kernel_rfl) (by kernel_rfl) (jM.start hB ⟨e3,trivial⟩) ?_;(repeat (first|go_big_quiet_skip|(go_big_quiet_want;first|(refine BigFrame.quiet_move _ rfl ?_;(try simp only [Act.put]);(try simp only [Act.eval]);(try simp only [Array.getD_eq_getD_getElem?]);(try simp only [List.getElem?_toArray]);(try simp only [List.getElem?_cons_succ]);(try simp only [List.getElem?_cons_zero]);(try simp only [Option.getD_some]);(try simp only [List.setIfInBounds_toArray]);(try simp only [List.set_cons_succ]);(try simp only [List.set_cons_zero]);go_big_quiet_on)|(refine BigFrame.quiet_assign _ rfl ?_;(try simp only [Act.put]);(try simp only [Act.eval]);(try simp only [Array.getD_eq_getD_getElem?]);(try simp only [List.getElem?_toArray]);(try simp only [List.getElem?_cons_succ]);(try simp only [List.getElem?_cons_zero]);(try simp only [Option.getD_some]);(try simp only [List.setIfInBounds_toArray]);(try simp only [List.set_cons_succ]);(try simp only [List.set_cons_zero]);go_big_quiet_on)|(apply DU;(focus (intro w' hC;simp only [jM,jr] at hC;go_split_ands;go_simp;(try exact rfl);done));(try simp only [Act.put]);(try simp only [List.setIfInBounds_toArray]);(try simp only [List.set_cons_succ]);(try simp only [List.set_cons_zero]);go_big_quiet_on))));refine wpQuiet_nil ?_;intro w' hC;simp only [jM,jr] at hC;go_split_ands
    go_wp2_with fail
    go_meet
    case rel=>exact ⟨by rw [EF.out],by assumption⟩
 case rest =>
 obtain ⟨rfl,hB⟩:=hcut
 have hle:bW p.core.cells x.key<=n:=by rw [HN.out];exact uS _ _
 obtain ⟨k,hk⟩: ∃k,bW p.core.cells x.key=k:=⟨_,rfl⟩
 rw [hk] at hle ⊢
 have lC:=Lib.hid hk
 clear hk
 have e1:=ax hB d1
 have e3:=ax hB d3
 have e4:=ax hB d4
 replace x0:=ax hB x0
 replace x1:=ax hB x1
 replace x2:=ax hB x2
 have Tn:=Lib.hid (HS.out.below hB)
 have Tl:=Lib.hid (HR.out.below hB (by omega))
 have Jt:=Lib.hid (bt fq hB)
 go_upto_region 7 with fail
 go_cut [8] (fun s8 wx=>s8= .bool (eO p.core.cells x.key)/\Below wc.heap.size wc wx)
 case first =>
  by_cases hlt:k<n
  ·obtain ⟨b,o,bO,hKb,hbg,eE,a0,a1,hfz⟩:=B6.out k hlt wc Jt.out
   rw [uB.out] at bO
   simp only [Value.slice.injEq] at bO
   obtain ⟨rfl, -, -⟩:=bO
   have hi0:(0:Int)<=(k:Int):=by omega
   have hi1:(k:Int)<(n:Int):=by omega
   have hdl:decide (k<n)=true:=by simp;omega
   cases rG:decide ((nth p.core.cells k).key=x.key) with
   | true =>
    have Yu:((nth p.core.cells k).key.toList==x.key.toList)=true:=by rw [wM];exact rG
    have jk:eO p.core.cells x.key=true:=nP.2 ⟨by rw [lC.out, <-HN.out];exact hlt,by rw [lC.out];simpa using rG⟩
    have iq:=Lib.hid jk
    clear jk rG
    refine DW (C:=jM wc [((⟨g,3,none⟩:Addr),.slice (some ⟨b,o,none⟩) n cap),(⟨b,o+k*2,none⟩,.string (nth p.core.cells k).key),(⟨w.heap.size,1,none⟩,.string x.key)]) (by kernel_rfl) (by kernel_rfl) (jM.start (Below.refl _ wc) ⟨e3,a0,x1,trivial⟩) ?_;(repeat (first|go_big_quiet_skip|(go_big_quiet_want;first|(refine BigFrame.quiet_move _ rfl ?_;(try simp only [Act.put]);(try simp only [Act.eval]);(try simp only [Array.getD_eq_getD_getElem?]);(try simp only [List.getElem?_toArray]);(try simp only [List.getElem?_cons_succ]);(try simp only [List.getElem?_cons_zero]);(try simp only [Option.getD_some]);(try simp only [List.setIfInBounds_toArray]);(try simp only [List.set_cons_succ]);(try simp only [List.set_cons_zero]);go_big_quiet_on)|(refine BigFrame.quiet_assign _ rfl ?_;(try simp only [Act.put]);(try simp only [Act.eval]);(try simp only [Array.getD_eq_getD_getElem?]);(try simp only [List.getElem?_toArray]);(try simp only [List.getElem?_cons_succ]);(try simp only [List.getElem?_cons_zero]);(try simp only [Option.getD_some]);(try simp only [List.setIfInBounds_toArray]);(try simp only [List.set_cons_succ]);(try simp only [List.set_cons_zero]);go_big_quiet_on)|(apply DU;(focus (intro w' hC;simp only [jM,jr] at hC;go_split_ands;go_simp;(try exact rfl);done));(try simp only [Act.put]);(try simp only [List.setIfInBounds_toArray]);(try simp only [List.set_cons_succ]);(try simp only [List.set_cons_zero]);go_big_quiet_on))));refine wpQuiet_nil ?_;intro w' hC;simp only [jM,jr] at hC;go_split_ands
    go_wp2_with fail
    go_meet
    case rel=>exact ⟨by rw [iq.out],by assumption⟩
   | false =>
    have Yu:((nth p.core.cells k).key.toList==x.key.toList)=false:=by rw [wM];exact rG
    have jk:eO p.core.cells x.key=false:=by
     unfold eO;rw [lC.out,rG];simp
    have iq:=Lib.hid jk
    clear jk rG
    refine DW (C:=jM wc [((⟨g,3,none⟩:Addr),.slice (some ⟨b,o,none⟩) n cap),(⟨b,o+k*2,none⟩,.string (nth p.core.cells k).key),(⟨w.heap.size,1,none⟩,.string x.key)]) (by kernel_rfl) (by kernel_rfl) (jM.start (Below.refl _ wc) ⟨e3,a0,x1,trivial⟩) ?_;(repeat (first|go_big_quiet_skip|(go_big_quiet_want;first|(refine BigFrame.quiet_move _ rfl ?_;(try simp only [Act.put]);(try simp only [Act.eval]);(try simp only [Array.getD_eq_getD_getElem?]);(try simp only [List.getElem?_toArray]);(try simp only [List.getElem?_cons_succ]);(try simp only [List.getElem?_cons_zero]);(try simp only [Option.getD_some]);(try simp only [List.setIfInBounds_toArray]);(try simp only [List.set_cons_succ]);(try simp only [List.set_cons_zero]);go_big_quiet_on)|(refine BigFrame.quiet_assign _ rfl ?_;(try simp only [Act.put]);(try simp only [Act.eval]);(try simp only [Array.getD_eq_getD_getElem?]);(try simp only [List.getElem?_toArray]);(try simp only [List.getElem?_cons_succ]);(try simp only [List.getElem?_cons_zero]);(try simp only [Option.getD_some]);(try simp only [List.setIfInBounds_toArray]);(try simp only [List.set_cons_succ]);(try simp only [List.set_cons_zero]);go_big_quiet_on)|(apply DU;(focus (intro w' hC;simp only [jM,jr] at hC;go_split_ands;go_simp;(try exact rfl);done));(try simp only [Act.put]);(try simp only [List.setIfInBounds_toArray]);(try simp only [List.set_cons_succ]);(try simp only [List.set_cons_zero]);go_big_quiet_on))));refine wpQuiet_nil ?_;intro w' hC;simp only [jM,jr] at hC;go_split_ands
    go_wp2_with fail
    go_meet
    case rel=>exact ⟨by rw [iq.out],by assumption⟩
  ·have hdl:decide (k<n)=false:=by simp;omega
   have jk:eO p.core.cells x.key=false:=by
    unfold eO;rw [lC.out, <-HN.out,hdl];rfl
   have iq:=Lib.hid jk
   clear jk
   refine DW (C:=jM wc [((⟨g,3,none⟩:Addr),.slice a n cap)]) (by kernel_rfl) (by kernel_rfl) (jM.start (Below.refl _ wc) ⟨e3,trivial⟩) ?_;(repeat (first|go_big_quiet_skip|(go_big_quiet_want;first|(refine BigFrame.quiet_move _ rfl ?_;(try simp only [Act.put]);(try simp only [Act.eval]);(try simp only [Array.getD_eq_getD_getElem?]);(try simp only [List.getElem?_toArray]);(try simp only [List.getElem?_cons_succ]);(try simp only [List.getElem?_cons_zero]);(try simp only [Option.getD_some]);(try simp only [List.setIfInBounds_toArray]);(try simp only [List.set_cons_succ]);(try simp only [List.set_cons_zero]);go_big_quiet_on)|(refine BigFrame.quiet_assign _ rfl ?_;(try simp only [Act.put]);(try simp only [Act.eval]);(try simp only [Array.getD_eq_getD_getElem?]);(try simp only [List.getElem?_toArray]);(try simp only [List.getElem?_cons_succ]);(try simp only [List.getElem?_cons_zero]);(try simp only [Option.getD_some]);(try simp only [List.setIfInBounds_toArray]);(try simp only [List.set_cons_succ]);(try simp only [List.set_cons_zero]);go_big_quiet_on)|(apply DU;(focus (intro w' hC;simp only [jM,jr] at hC;go_split_ands;go_simp;(try exact rfl);done));(try simp only [Act.put]);(try simp only [List.setIfInBounds_toArray]);(try simp only [List.set_cons_succ]);(try simp only [List.set_cons_zero]);go_big_quiet_on))));refine wpQuiet_nil ?_;intro w' hC;simp only [jM,jr] at hC;go_split_ands
   go_wp2_with fail
   go_meet
   case rel=>exact ⟨by rw [iq.out],by assumption⟩
 case rest =>
 obtain ⟨rfl,qY⟩:=hcut
 replace e1:=ax qY e1
 replace e3:=ax qY e3
 replace e4:=ax qY e4
 replace x0:=ax qY x0
 replace x1:=ax qY x1
 replace x2:=ax qY x2
 have oP:=Lib.hid (Tn.out.below qY)
 have XS:=Tl.out.below qY (by have:=hB.size;omega)
 have mh:=Lib.hid XS
 have pV:=Lib.hid (bt Jt.out qY)
 generalize jk:eO p.core.cells x.key=bv
 go_upto_block 2 with fail
 go_cut [] (fun wy=>(∃K',St K w g S2 K' ⟨⟨p.core.kind,p.core.on,p.core.broken,iD p.core.cells x.key x.val,p.core.count⟩,p.af⟩ wy/\ ¬K' (w.heap.size+1)/\aJ wy (w.heap.size+1) 39 aY)/\cC p (keepD p.core x)=(⟨⟨p.core.kind,p.core.on,p.core.broken,iD p.core.cells x.key x.val,bR p.core.count⟩,p.af⟩,rep 0 (iD p.core.cells x.key x.val).length 0 0))
 case first =>
  by_cases hg:x.method=gm
  ·have hg':x.method.toList=[71,101,116]:=by rw [hg,ByteArray.toList_eq];rfl
   have HG:=Lib.hid hg
   clear hg
   cases bv with
   | true =>
    have iq:=Lib.hid jk
    clear jk
    have hkn:k<n:=by have:=(nP.1 iq.out).1;rw [lC.out] at this;have:=HN.out;omega
    obtain ⟨b,o,bO,hKb,hbg,eE,a0,a1,hfz⟩:=B6.out k hkn wc pV.out
    rw [uB.out] at bO
    simp only [Value.slice.injEq] at bO
    obtain ⟨rfl, -, -⟩:=bO
    have hi0:(0:Int)<=(k:Int):=by omega
    have hi1:(k:Int)<(n:Int):=by omega
    have fZ:=mh.out;obtain ⟨mR,mS,mT,mU,mV,mW⟩:=ma (w:=wc) (b:=w.heap.size+1) fZ
    go_wp2
    obtain ⟨q1,q2⟩:=iL oP.out H.out mh.out (by omega) hkr (rep 0 (nth p.core.cells k).val 0 0)
    have e:cC p (keepD p.core x)=(p,rep 0 (nth p.core.cells k).val 0 0):=by unfold cC keepD;rw [if_neg nZ.out,if_pos HG.out,if_pos iq.out,lC.out]
    rw [e]
    refine bodyPost_ret (iF rfl _ _ _ rfl q1 Tryz.underlying39 rfl (by kernel_rfl)) rfl q2
   | false =>
    have iq:=Lib.hid jk
    clear jk
    have fZ:=mh.out;obtain ⟨mR,mS,mT,mU,mV,mW⟩:=ma (w:=wc) (b:=w.heap.size+1) fZ
    go_wp2
    obtain ⟨q1,q2⟩:=iL oP.out H.out mh.out (by omega) hkr (rep 4 0 0 0)
    have e:cC p (keepD p.core x)=(p,rep 4 0 0 0):=by unfold cC keepD;rw [if_neg nZ.out,if_pos HG.out,if_neg (by rw [iq.out];simp)]
    rw [e]
    refine bodyPost_ret (iF rfl _ _ _ rfl q1 Tryz.underlying39 rfl (by kernel_rfl)) rfl q2
  ·have hg':(x.method.toList==[71,101,116])=false:=by
    have: ¬x.method.toList=[71,101,116]:=fun h=>hg (toList_inj (by rw [h,ByteArray.toList_eq];rfl))
    simpa using this
   have HG:=Lib.hid hg
   clear hg
   cases bv with
   | true =>
    have iq:=Lib.hid jk
    clear jk
    have hkn:k<n:=by have:=(nP.1 iq.out).1;rw [lC.out] at this;have:=HN.out;omega
    obtain ⟨b,o,bO,hKb,hbg,eE,a0,a1,hfz⟩:=B6.out k hkn wc pV.out
    rw [uB.out] at bO
    simp only [Value.slice.injEq] at bO
    obtain ⟨rfl, -, -⟩:=bO
    have hi0:(0:Int)<=(k:Int):=by omega
    have hi1:(k:Int)<(n:Int):=by omega
    go_wp2
    refine Pu 9 mo (by kernel_rfl) fun wd hwd cy=> ?_
    replace e3:=ax cy e3
    replace x2:=ax cy x2
    replace a1:=ax cy a1
    have hfz': ∀i,wd.frozen? ⟨b,i,none⟩=false:=fun i=>(xS (w:=wc) (w':=wd) (p:=⟨b,i,none⟩) (by rw [hwd])).trans (hfz i)
    have Jz:=Lib.hid (oP.out.below cy)
    have Tk:=Lib.hid (mh.out.below cy (by have:=oP.out.fr.size;have:=mh.out.lt;omega))
    simp only [List.take_succ_cons,List.take_zero,List.drop_succ_cons,List.drop_zero]
    (repeat still_step)
    refine wpStill_nil ?_
    go_wp2_with fail
    go_meet
    case rel =>
     have hkc:k<p.core.cells.length:=by rw [<-HN.out];exact hkn
     have P2:=Jz.out.pb.abU e3 hkc HX.out.val
     have e:p.core.cells.set k ⟨(nth p.core.cells k).key,x.val⟩=iD p.core.cells x.key x.val:=by
      unfold iD
      have:=(nP.1 iq.out).2
      rw [lC.out] at this
      rw [if_pos iq.out,lC.out,this]
     rw [e] at P2
     exact ⟨⟨K,Jz.out.put (a:=⟨b,o+k*2+1,none⟩) hKb P2,hkr,Tk.out.far (by intro e2;exact hkr (by have e2:w.heap.size+1=b:=e2;rw [e2];exact hKb)) _⟩,by unfold cC keepD;rw [if_neg nZ.out,if_neg HG.out,if_neg (fun h=>by have h1:=h.1;rw [iq.out] at h1;cases h1)]⟩
   | false =>
    have iq:=Lib.hid jk
    clear jk
    by_cases h4:4<=n
    ·have h4':(4:Int)<=(n:Int):=by omega
     have fZ:=mh.out;obtain ⟨mR,mS,mT,mU,mV,mW⟩:=ma (w:=wc) (b:=w.heap.size+1) fZ
     go_wp2
     obtain ⟨q1,q2⟩:=iL oP.out H.out mh.out (by omega) hkr (rep 5 0 0 0)
     have e:cC p (keepD p.core x)=(p,rep 5 0 0 0):=by unfold cC keepD;rw [if_neg nZ.out,if_neg HG.out,if_pos ⟨iq.out,by rw [<-HN.out];exact h4⟩]
     rw [e]
     refine bodyPost_ret (iF rfl _ _ _ rfl q1 Tryz.underlying39 rfl (by kernel_rfl)) rfl q2
    ·have h4': ¬((4:Int)<=(n:Int)):=by omega
     go_wp2
     cases a with
     | none =>
      obtain ⟨ti,aM,hz,hsz,hby⟩:=info_parts (P:=Tryz.prog) (e:=118) (z:= .agg #[.string ⟨#[]⟩,.int .i64 0]) (size:=2) (bytes:=24) (by kernel_rfl)
      have hc0:cap=0:=by
       obtain ⟨a',cap',e,_,_,h3,_⟩:=qH.out
       rw [uB.out] at e
       simp only [Value.slice.injEq] at e
       rw [e.2.2];exact h3 e.1.symm
      have hn0:n=0:=by omega
      have hk0:k=0:=by omega
      have hnil:p.core.cells=[]:=List.eq_nil_of_length_eq_zero (by rw [<-HN.out];exact hn0)
      have Jx:=Lib.hid hnil
      clear hnil
      subst hc0 hn0 hk0
      refine Ey (fun W=>Below wc.heap.size wc W) 24 (by kernel_rfl) (by go_grown) (fun bO=> ?_)
      refine cf (i:=0) (v:= ?_) rfl (by kernel_rfl) (fun _ _ _ h=>h) (Or.inl ⟨by rfl,?_⟩) bO ?_
      rotate_left
      ·intro W hW
       have cj:=ax hW e3;have cE:=ax hW x1;have cF:=ax hW x2
       go_simp
       try with_reducible rfl
      try simp only [Act.put,sI]
      refine cf (i:=1) (v:= ?_) rfl (by kernel_rfl) (fun _ _ _ h=>h) (Or.inl ⟨by rfl,?_⟩) bO ?_
      rotate_left
      ·intro W hW
       have cj:=ax hW e3;have cE:=ax hW x1;have cF:=ax hW x2
       go_simp
       try with_reducible rfl
      try simp only [Act.put,sI]
      refine cf (i:=2) (v:= ?_) rfl (by kernel_rfl) (fun _ _ _ h=>h) (Or.inl ⟨by rfl,?_⟩) bO ?_
      rotate_left
      ·intro W hW
       have cj:=ax hW e3;have cE:=ax hW x1;have cF:=ax hW x2
       go_simp
       try with_reducible rfl
      try simp only [Act.put,sI]
      refine cf (i:=3) (v:= ?_) rfl (by kernel_rfl) (fun _ _ _ h=>h) (Or.inl ⟨by rfl,?_⟩) bO ?_
      rotate_left
      ·intro W hW
       have cj:=ax hW e3;have cE:=ax hW x1;have cF:=ax hW x2
       go_simp
       try with_reducible rfl
      try simp only [Act.put,sI]
      refine cf (i:=4) (v:= ?_) rfl (by kernel_rfl) (fun _ _ _ h=>h) (Or.inl ⟨by rfl,?_⟩) bO ?_
      rotate_left
      ·intro W hW
       have cj:=ax hW e3;have cE:=ax hW x1;have cF:=ax hW x2
       go_simp
       try with_reducible rfl
      try simp only [Act.put,sI]
      refine cf (i:=5) (v:= ?_) rfl (by kernel_rfl) (fun _ _ _ h=>h) (Or.inl ⟨by rfl,?_⟩) bO ?_
      rotate_left
      ·intro W hW
       have cj:=ax hW e3;have cE:=ax hW x1;have cF:=ax hW x2
       go_simp
       try with_reducible rfl
      try simp only [Act.put,sI]
      refine cf (i:=6) (v:= ?_) rfl (by kernel_rfl) (fun _ _ _ h=>h) (Or.inl ⟨by rfl,?_⟩) bO ?_
      rotate_left
      ·intro W hW
       have cj:=ax hW e3;have cE:=ax hW x1;have cF:=ax hW x2
       go_simp
       try with_reducible rfl
      try simp only [Act.put,sI]
      refine cf (i:=8) (v:= ?_) rfl (by kernel_rfl) (fun _ _ _ h=>h) (Or.inl ⟨by rfl,?_⟩) bO ?_
      rotate_left
      ·intro W hW
       have cj:=ax hW e3;have cE:=ax hW x1;have cF:=ax hW x2
       go_simp
       try with_reducible rfl
      try simp only [Act.put,sI]
      refine cf (i:=9) (v:= ?_) rfl (by kernel_rfl) (fun _ _ _ h=>h) (Or.inl ⟨by rfl,?_⟩) bO ?_
      rotate_left
      ·intro W hW
       have cj:=ax hW e3;have cE:=ax hW x1;have cF:=ax hW x2
       go_simp
       try with_reducible rfl
      try simp only [Act.put,sI]
      refine cf (i:=10) (v:= ?_) rfl (by kernel_rfl) (fun _ _ _ h=>h) (Or.inl ⟨by rfl,?_⟩) bO ?_
      rotate_left
      ·intro W hW
       have cj:=ax hW e3;have cE:=ax hW x1;have cF:=ax hW x2
       go_simp
       try with_reducible rfl
      try simp only [Act.put,sI]
      refine cf (i:=11) (v:= ?_) rfl (by kernel_rfl) (fun _ _ _ h=>h) (Or.inl ⟨by rfl,?_⟩) bO ?_
      rotate_left
      ·intro W hW
       have cj:=ax hW e3;have cE:=ax hW x1;have cF:=ax hW x2
       go_simp
       try with_reducible rfl
      try simp only [Act.put,sI]
      refine cf (i:=12) (v:= ?_) rfl (by kernel_rfl) (fun _ _ _ h=>h) (Or.inl ⟨by rfl,?_⟩) bO ?_
      rotate_left
      ·intro W hW
       have cj:=ax hW e3;have cE:=ax hW x1;have cF:=ax hW x2
       go_simp
       try with_reducible rfl
      try simp only [Act.put,sI]
      refine cf (i:=15) (v:= ?_) rfl (by kernel_rfl) (fun _ _ _ h=>h) (Or.inl ⟨by rfl,?_⟩) bO ?_
      rotate_left
      ·intro W hW
       have cj:=ax hW e3;have cE:=ax hW x1;have cF:=ax hW x2
       go_simp
       try with_reducible rfl
      try simp only [Act.put,sI]
      refine cf (i:=16) (v:= ?_) rfl (by kernel_rfl) (fun _ _ _ h=>h) (Or.inl ⟨by rfl,?_⟩) bO ?_
      rotate_left
      ·intro W hW
       have cj:=ax hW e3;have cE:=ax hW x1;have cF:=ax hW x2
       go_simp
       try with_reducible rfl
      try simp only [Act.put,sI]
      refine cf (i:=17) (v:= ?_) rfl (by kernel_rfl) (fun _ _ _ h=>h) (Or.inl ⟨by rfl,?_⟩) bO ?_
      rotate_left
      ·intro W hW
       have cj:=ax hW e3;have cE:=ax hW x1;have cF:=ax hW x2
       go_simp
       try with_reducible rfl
      try simp only [Act.put,sI]
      refine cf (i:=18) (v:= ?_) rfl (by kernel_rfl) (fun _ _ _ h=>h) (Or.inl ⟨by rfl,?_⟩) bO ?_
      rotate_left
      ·intro W hW
       have cj:=ax hW e3;have cE:=ax hW x1;have cF:=ax hW x2
       go_simp
       try with_reducible rfl
      try simp only [Act.put,sI]
      refine cf (i:=19) (v:= ?_) rfl (by kernel_rfl) (fun _ _ _ h=>h) (Or.inl ⟨by rfl,?_⟩) bO ?_
      rotate_left
      ·intro W hW
       have cj:=ax hW e3;have cE:=ax hW x1;have cF:=ax hW x2
       go_simp
       try with_reducible rfl
      try simp only [Act.put,sI]
      refine cf (i:=20) (v:= ?_) rfl (by kernel_rfl) (fun _ _ _ h=>h) (Or.inl ⟨by rfl,?_⟩) bO ?_
      rotate_left
      ·intro W hW
       have cj:=ax hW e3;have cE:=ax hW x1;have cF:=ax hW x2
       go_simp
       try with_reducible rfl
      try simp only [Act.put,sI]
      refine ER (i:=7) (k:=13) rfl rfl (by kernel_rfl) ?_ ?_
      ·intro K' hK
       refine Ed rfl (.const (.slice none 0 0)) (.tmp 76) 32 rfl 118 ti Tryz.underlying32 aM none 0 0 rfl (Nat.le_refl _) rfl ?_
       refine hK _ _ (fun _=>by go_grown) (fun hS=> ?_)
       clear hK K' hS
       try simp only [Act.put,sI]
       refine gD (i:=13) rfl (by kernel_rfl) ?_
       intro K' hK
       go_simp
       refine hK _ _ (fun _=>by go_grown) (fun hS=> ?_)
       clear hK K' hS
       try simp only [Act.put,sI]
       refine gD (i:=14) rfl (by kernel_rfl) ?_
       intro K' hK
       refine mX (w0:=wc) rfl (.tmp 77) (.tmp 83) 32 rfl 118 ti _ 2 24 Tryz.underlying32 aM hz hsz hby rfl (by decide) (.slice none 0 0) 0 [] rfl (World.ownsRow_nil _ _ _ _) _ 1 1 [.string x.key,.int .i64 x.val] rfl rfl (by first|exact qd|(intro j u hj;exact ax (by go_grown) (qd j u hj))|(intro j u hj;simpa using qd (w:=wc) j u hj)) (by intro u hu;simp at hu;rcases hu with rfl|rfl<;>rfl) (by unfold maxLen;omega) (by omega) (by go_grown) ?_
       intro v2 W2 lS eD oz
       obtain ⟨a3,uV,rfl⟩:=y8 lS
       refine hK _ _ (fun _=>eD) (fun hS=> ?_)
       clear hK K' hS
       try simp only [Act.put,sI]
       refine gD (i:=21) rfl (by kernel_rfl) ?_
       intro K' hK
       refine Ed rfl (.tmp 84) (.tmp 90) 32 rfl 118 ti Tryz.underlying32 aM a3 _ uV rfl (O4 lS) rfl ?_
       refine hK _ _ (fun _=>eD) (fun hS=> ?_)
       clear hK K' hS
       try simp only [Act.put,sI]
       have z8:=ax eD e3;have f33:=HF.out W2 (bt pV.out eD)
       refine cf (i:=22) (v:= ?_) rfl (by kernel_rfl) (fun _ _ _ h=>h) (Or.inl ⟨by rfl,?_⟩) eD ?_
       rotate_left
       ·intro W hW
        have cj:=ax hW e3;have cE:=ax hW x1;have cF:=ax hW x2
        go_simp
        try with_reducible rfl
       try simp only [Act.put,sI]
       refine cf (i:=23) (v:= ?_) rfl (by kernel_rfl) (fun _ _ _ h=>h) (Or.inl ⟨by rfl,?_⟩) eD ?_
       rotate_left
       ·intro W hW
        have cj:=ax hW e3;have cE:=ax hW x1;have cF:=ax hW x2
        go_simp
        try with_reducible rfl
       try simp only [Act.put,sI]
       refine gD (i:=24) rfl (by kernel_rfl) ?_
       intro K' hK
       go_simp
       refine hK _ _ (fun h=>absurd rfl h) (fun _=> ?_)
       clear hK K'
       refine uR (by kernel_rfl) ?_ _
       go_wp2_with fail
       go_meet
       case rel=>exact ⟨yX oP.out HX.out HN.out lC.out iq.out eD lS (by omega) (by rw [Jx.out];simp [cS,eM]) mh.out hkr,by unfold cC keepD;rw [if_neg nZ.out,if_neg HG.out,if_neg (fun h=>by have h1:=h.2;have h2:=HN.out;omega)]⟩
      ·intro K' hK
       go_simp
       refine hK _ _ (fun _=>by go_grown) (fun hS=> ?_)
       clear hK K' hS
       try simp only [Act.put,sI]
       refine gD (i:=7) rfl (by kernel_rfl) ?_
       intro K' hK
       refine Ed rfl (.const (.slice none 0 0)) (.tmp 76) 32 rfl 118 ti Tryz.underlying32 aM none 0 0 rfl (Nat.le_refl _) rfl ?_
       refine hK _ _ (fun _=>by go_grown) (fun hS=> ?_)
       clear hK K' hS
       try simp only [Act.put,sI]
       refine gD (i:=14) rfl (by kernel_rfl) ?_
       intro K' hK
       refine mX (w0:=wc) rfl (.tmp 77) (.tmp 83) 32 rfl 118 ti _ 2 24 Tryz.underlying32 aM hz hsz hby rfl (by decide) (.slice none 0 0) 0 [] rfl (World.ownsRow_nil _ _ _ _) _ 1 1 [.string x.key,.int .i64 x.val] rfl rfl (by first|exact qd|(intro j u hj;exact ax (by go_grown) (qd j u hj))|(intro j u hj;simpa using qd (w:=wc) j u hj)) (by intro u hu;simp at hu;rcases hu with rfl|rfl<;>rfl) (by unfold maxLen;omega) (by omega) (by go_grown) ?_
       intro v2 W2 lS eD oz
       obtain ⟨a3,uV,rfl⟩:=y8 lS
       refine hK _ _ (fun _=>eD) (fun hS=> ?_)
       clear hK K' hS
       try simp only [Act.put,sI]
       refine gD (i:=21) rfl (by kernel_rfl) ?_
       intro K' hK
       refine Ed rfl (.tmp 84) (.tmp 90) 32 rfl 118 ti Tryz.underlying32 aM a3 _ uV rfl (O4 lS) rfl ?_
       refine hK _ _ (fun _=>eD) (fun hS=> ?_)
       clear hK K' hS
       try simp only [Act.put,sI]
       have z8:=ax eD e3;have f33:=HF.out W2 (bt pV.out eD)
       refine cf (i:=22) (v:= ?_) rfl (by kernel_rfl) (fun _ _ _ h=>h) (Or.inl ⟨by rfl,?_⟩) eD ?_
       rotate_left
       ·intro W hW
        have cj:=ax hW e3;have cE:=ax hW x1;have cF:=ax hW x2
        go_simp
        try with_reducible rfl
       try simp only [Act.put,sI]
       refine cf (i:=23) (v:= ?_) rfl (by kernel_rfl) (fun _ _ _ h=>h) (Or.inl ⟨by rfl,?_⟩) eD ?_
       rotate_left
       ·intro W hW
        have cj:=ax hW e3;have cE:=ax hW x1;have cF:=ax hW x2
        go_simp
        try with_reducible rfl
       try simp only [Act.put,sI]
       refine gD (i:=24) rfl (by kernel_rfl) ?_
       intro K' hK
       go_simp
       refine hK _ _ (fun h=>absurd rfl h) (fun _=> ?_)
       clear hK K'
       refine uR (by kernel_rfl) ?_ _
       go_wp2_with fail
       go_meet
       case rel=>exact ⟨yX oP.out HX.out HN.out lC.out iq.out eD lS (by omega) (by rw [Jx.out];simp [cS,eM]) mh.out hkr,by unfold cC keepD;rw [if_neg nZ.out,if_neg HG.out,if_neg (fun h=>by have h1:=h.2;have h2:=HN.out;omega)]⟩
     | some ad =>
      obtain ⟨ti,aM,hz,hsz,hby⟩:=info_parts (P:=Tryz.prog) (e:=118) (z:= .agg #[.string ⟨#[]⟩,.int .i64 0]) (size:=2) (bytes:=24) (by kernel_rfl)
      have hi0:(0:Int)<=(k:Int):=by omega
      have hi1:(k:Int)<=(n:Int):=by omega
      have hi2:(k:Int)<=(cap:Int):=by omega
      have hi3:(n:Int)<=(cap:Int):=by omega
      have hnn:n=(cS p.core.cells).length:=by rw [wm];exact HN.out
      have Cc:=Lib.hid (fun (W:World) (hb:Below wc.heap.size wc W)=>show ∀j u,(eM ((cS p.core.cells).take k))[j]? =some u->W.cell? (ad.add j)=some u from fun j u hj=>by
       have hr:=qH.out
       rw [uB.out] at hr
       exact ax (bt pV.out hb) (hr.Xo k j u hj))
      have Ju:=Lib.hid (fun (W:World) (hb:Below wc.heap.size wc W)=>show ∀j u,(eM ((cS p.core.cells).drop k))[j]? =some u->W.cell? ((ad.add (k*2)).add j)=some u from fun j u hj=>by
       have hr:=qH.out
       rw [uB.out] at hr
       have:=ax (bt pV.out hb) (hr.flat k j u hj)
       rw [UJ]
       exact this)
      have Ce:=Lib.hid (show (eM ((cS p.core.cells).take k)).length=k*2 by rw [LU,List.length_take, <-hnn];omega)
      have zA:=Lib.hid (show (eM ((cS p.core.cells).drop k)).length=(n-k)*2 by rw [LU,List.length_drop, <-hnn])
      clear hnn
      have e3a:=(fun o=>ax ((Below.refl wc.heap.size wc).alloc (Nat.le_refl _) o) e3)
      have x1a:=(fun o=>ax ((Below.refl wc.heap.size wc).alloc (Nat.le_refl _) o) x1)
      have x2a:=(fun o=>ax ((Below.refl wc.heap.size wc).alloc (Nat.le_refl _) o) x2)
      by_cases tQ:cap=k
      ·have Jv:=Lib.hid (fun (W:World)=>show ∀j u,(eM ((cS p.core.cells).drop k))[j]? =some u->W.cell? (ad.add j)=some u from fun j u hj=>by
        have:=(List.getElem?_eq_some_iff.1 hj).1
        rw [zA.out] at this
        omega)
       have ajX:(cap=k)=True:=eq_true tQ
       have HCK:=Lib.hid tQ
       clear tQ
       refine Ey (fun W=>Below wc.heap.size wc W) 24 (by kernel_rfl) (by go_grown) (fun bO=> ?_)
       refine cf (i:=0) (v:= ?_) rfl (by kernel_rfl) (fun _ _ _ h=>h) (Or.inl ⟨by rfl,?_⟩) bO ?_
       rotate_left
       ·intro W hW
        have cj:=ax hW e3;have cE:=ax hW x1;have cF:=ax hW x2
        go_simp
        try with_reducible rfl
       try simp only [Act.put,sI]
       refine cf (i:=1) (v:= ?_) rfl (by kernel_rfl) (fun _ _ _ h=>h) (Or.inl ⟨by rfl,?_⟩) bO ?_
       rotate_left
       ·intro W hW
        have cj:=ax hW e3;have cE:=ax hW x1;have cF:=ax hW x2
        go_simp
        try with_reducible rfl
       try simp only [Act.put,sI]
       refine cf (i:=2) (v:= ?_) rfl (by kernel_rfl) (fun _ _ _ h=>h) (Or.inl ⟨by rfl,?_⟩) bO ?_
       rotate_left
       ·intro W hW
        have cj:=ax hW e3;have cE:=ax hW x1;have cF:=ax hW x2
        go_simp
        try with_reducible rfl
       try simp only [Act.put,sI]
       refine cf (i:=3) (v:= ?_) rfl (by kernel_rfl) (fun _ _ _ h=>h) (Or.inl ⟨by rfl,?_⟩) bO ?_
       rotate_left
       ·intro W hW
        have cj:=ax hW e3;have cE:=ax hW x1;have cF:=ax hW x2
        go_simp
        try with_reducible rfl
       try simp only [Act.put,sI]
       refine cf (i:=4) (v:= ?_) rfl (by kernel_rfl) (fun _ _ _ h=>h) (Or.inl ⟨by rfl,?_⟩) bO ?_
       rotate_left
       ·intro W hW
        have cj:=ax hW e3;have cE:=ax hW x1;have cF:=ax hW x2
        go_simp
        try with_reducible rfl
       try simp only [Act.put,sI]
       refine cf (i:=5) (v:= ?_) rfl (by kernel_rfl) (fun _ _ _ h=>h) (Or.inl ⟨by rfl,?_⟩) bO ?_
       rotate_left
       ·intro W hW
        have cj:=ax hW e3;have cE:=ax hW x1;have cF:=ax hW x2
        go_simp
        try with_reducible rfl
       try simp only [Act.put,sI]
       refine cf (i:=6) (v:= ?_) rfl (by kernel_rfl) (fun _ _ _ h=>h) (Or.inl ⟨by rfl,?_⟩) bO ?_
       rotate_left
       ·intro W hW
        have cj:=ax hW e3;have cE:=ax hW x1;have cF:=ax hW x2
        go_simp
        try with_reducible rfl
       try simp only [Act.put,sI]
       refine cf (i:=8) (v:= ?_) rfl (by kernel_rfl) (fun _ _ _ h=>h) (Or.inl ⟨by rfl,?_⟩) bO ?_
       rotate_left
       ·intro W hW
        have cj:=ax hW e3;have cE:=ax hW x1;have cF:=ax hW x2
        go_simp
        try with_reducible rfl
       try simp only [Act.put,sI]
       refine cf (i:=9) (v:= ?_) rfl (by kernel_rfl) (fun _ _ _ h=>h) (Or.inl ⟨by rfl,?_⟩) bO ?_
       rotate_left
       ·intro W hW
        have cj:=ax hW e3;have cE:=ax hW x1;have cF:=ax hW x2
        go_simp
        try with_reducible rfl
       try simp only [Act.put,sI]
       refine cf (i:=10) (v:= ?_) rfl (by kernel_rfl) (fun _ _ _ h=>h) (Or.inl ⟨by rfl,?_⟩) bO ?_
       rotate_left
       ·intro W hW
        have cj:=ax hW e3;have cE:=ax hW x1;have cF:=ax hW x2
        go_simp
        try with_reducible rfl
       try simp only [Act.put,sI]
       refine cf (i:=11) (v:= ?_) rfl (by kernel_rfl) (fun _ _ _ h=>h) (Or.inl ⟨by rfl,?_⟩) bO ?_
       rotate_left
       ·intro W hW
        have cj:=ax hW e3;have cE:=ax hW x1;have cF:=ax hW x2
        go_simp
        try with_reducible rfl
       try simp only [Act.put,sI]
       refine cf (i:=12) (v:= ?_) rfl (by kernel_rfl) (fun _ _ _ h=>h) (Or.inl ⟨by rfl,?_⟩) bO ?_
       rotate_left
       ·intro W hW
        have cj:=ax hW e3;have cE:=ax hW x1;have cF:=ax hW x2
        go_simp
        try with_reducible rfl
       try simp only [Act.put,sI]
       refine cf (i:=15) (v:= ?_) rfl (by kernel_rfl) (fun _ _ _ h=>h) (Or.inl ⟨by rfl,?_⟩) bO ?_
       rotate_left
       ·intro W hW
        have cj:=ax hW e3;have cE:=ax hW x1;have cF:=ax hW x2
        go_simp
        try with_reducible rfl
       try simp only [Act.put,sI]
       refine cf (i:=16) (v:= ?_) rfl (by kernel_rfl) (fun _ _ _ h=>h) (Or.inl ⟨by rfl,?_⟩) bO ?_
       rotate_left
       ·intro W hW
        have cj:=ax hW e3;have cE:=ax hW x1;have cF:=ax hW x2
        go_simp
        try with_reducible rfl
       try simp only [Act.put,sI]
       refine cf (i:=17) (v:= ?_) rfl (by kernel_rfl) (fun _ _ _ h=>h) (Or.inl ⟨by rfl,?_⟩) bO ?_
       rotate_left
       ·intro W hW
        have cj:=ax hW e3;have cE:=ax hW x1;have cF:=ax hW x2
        go_simp
        try with_reducible rfl
       try simp only [Act.put,sI]
       refine cf (i:=18) (v:= ?_) rfl (by kernel_rfl) (fun _ _ _ h=>h) (Or.inl ⟨by rfl,?_⟩) bO ?_
       rotate_left
       ·intro W hW
        have cj:=ax hW e3;have cE:=ax hW x1;have cF:=ax hW x2
        go_simp
        try with_reducible rfl
       try simp only [Act.put,sI]
       refine cf (i:=19) (v:= ?_) rfl (by kernel_rfl) (fun _ _ _ h=>h) (Or.inl ⟨by rfl,?_⟩) bO ?_
       rotate_left
       ·intro W hW
        have cj:=ax hW e3;have cE:=ax hW x1;have cF:=ax hW x2
        go_simp
        try with_reducible rfl
       try simp only [Act.put,sI]
       refine cf (i:=20) (v:= ?_) rfl (by kernel_rfl) (fun _ _ _ h=>h) (Or.inl ⟨by rfl,?_⟩) bO ?_
       rotate_left
       ·intro W hW
        have cj:=ax hW e3;have cE:=ax hW x1;have cF:=ax hW x2
        go_simp
        try with_reducible rfl
       try simp only [Act.put,sI]
       refine ER (i:=7) (k:=13) rfl rfl (by kernel_rfl) ?_ ?_
       ·intro K' hK
        refine mX (w0:=wc) rfl (.const (.slice none 0 0)) (.tmp 76) 32 rfl 118 ti _ 2 24 Tryz.underlying32 aM hz hsz hby rfl (by decide) (.slice none 0 0) 0 [] rfl (World.ownsRow_nil _ _ _ _) ad k cap (eM ((cS p.core.cells).take k)) rfl Ce.out (Cc.out _ (by go_grown)) (tI _) (by unfold maxLen;omega) (by omega) (by go_grown) ?_
        intro v1 W1 vG fq hK1
        refine hK _ _ (fun _=>fq) (fun hS=> ?_)
        clear hK K' hS
        try simp only [Act.put,sI]
        refine gD (i:=13) rfl (by kernel_rfl) ?_
        intro K' hK
        go_simp
        refine hK _ _ (fun _=>bt fq (by go_grown)) (fun hS=> ?_)
        clear hK K' hS
        try simp only [Act.put,sI]
        refine gD (i:=14) rfl (by kernel_rfl) ?_
        intro K' hK
        refine mX (w0:=wc) rfl (.tmp 77) (.tmp 83) 32 rfl 118 ti _ 2 24 Tryz.underlying32 aM hz hsz hby rfl (by decide) _ _ _ rfl (O3 vG (by go_grown)) _ 1 1 [.string x.key,.int .i64 x.val] rfl rfl (qd) (by intro u hu;simp at hu;rcases hu with rfl|rfl<;>rfl) (by unfold maxLen;omega) (by omega) (bt fq (by go_grown)) ?_
        intro v2 W2 lS eD oz
        refine hK _ _ (fun _=>eD) (fun hS=> ?_)
        clear hK K' hS
        try simp only [Act.put,sI]
        refine gD (i:=21) rfl (by kernel_rfl) ?_
        intro K' hK
        refine mX (w0:=wc) rfl (.tmp 84) (.tmp 90) 32 rfl 118 ti _ 2 24 Tryz.underlying32 aM hz hsz hby rfl (by decide) _ _ _ rfl lS ad (n-k) (cap-k) (eM ((cS p.core.cells).drop k)) rfl zA.out (Jv.out _) (tI _) (by unfold maxLen;omega) (by omega) eD ?_
        intro v3 W3 pE fG F9
        obtain ⟨a3,uV,rfl⟩:=y8 pE
        refine hK _ _ (fun _=>fG) (fun hS=> ?_)
        clear hK K' hS
        try simp only [Act.put,sI]
        have z8:=ax fG e3;have f33:=HF.out W3 (bt pV.out fG)
        refine cf (i:=22) (v:= ?_) rfl (by kernel_rfl) (fun _ _ _ h=>h) (Or.inl ⟨by rfl,?_⟩) fG ?_
        rotate_left
        ·intro W hW
         have cj:=ax hW e3
         go_simp
         try with_reducible rfl
        try simp only [Act.put,sI]
        refine cf (i:=23) (v:= ?_) rfl (by kernel_rfl) (fun _ _ _ h=>h) (Or.inl ⟨by rfl,?_⟩) fG ?_
        rotate_left
        ·intro W hW
         have cj:=ax hW e3
         go_simp
         try with_reducible rfl
        try simp only [Act.put,sI]
        refine gD (i:=24) rfl (by kernel_rfl) ?_
        intro K' hK
        go_simp
        refine hK _ _ (fun h=>absurd rfl h) (fun _=> ?_)
        clear hK K'
        refine uR (by kernel_rfl) ?_ _
        go_wp2_with fail
        go_meet
        case rel=>exact ⟨yX oP.out HX.out HN.out lC.out iq.out fG pE (by omega) (by simp) mh.out hkr,by unfold cC keepD;rw [if_neg nZ.out,if_neg HG.out,if_neg (fun h=>by have h1:=h.2;have h2:=HN.out;omega)]⟩
       ·intro K' hK
        go_simp
        refine hK _ _ (fun _=>by go_grown) (fun hS=> ?_)
        clear hK K' hS
        try simp only [Act.put,sI]
        refine gD (i:=7) rfl (by kernel_rfl) ?_
        intro K' hK
        refine mX (w0:=wc) rfl (.const (.slice none 0 0)) (.tmp 76) 32 rfl 118 ti _ 2 24 Tryz.underlying32 aM hz hsz hby rfl (by decide) (.slice none 0 0) 0 [] rfl (World.ownsRow_nil _ _ _ _) ad k cap (eM ((cS p.core.cells).take k)) rfl Ce.out (Cc.out _ (by go_grown)) (tI _) (by unfold maxLen;omega) (by omega) (by go_grown) ?_
        intro v1 W1 vG fq hK1
        refine hK _ _ (fun _=>fq) (fun hS=> ?_)
        clear hK K' hS
        try simp only [Act.put,sI]
        refine gD (i:=14) rfl (by kernel_rfl) ?_
        intro K' hK
        refine mX (w0:=wc) rfl (.tmp 77) (.tmp 83) 32 rfl 118 ti _ 2 24 Tryz.underlying32 aM hz hsz hby rfl (by decide) _ _ _ rfl (vG) _ 1 1 [.string x.key,.int .i64 x.val] rfl rfl (fun j u hj=>ax (hK1 rfl) (qd j u hj)) (by intro u hu;simp at hu;rcases hu with rfl|rfl<;>rfl) (by unfold maxLen;omega) (by omega) (fq) ?_
        intro v2 W2 lS eD oz
        refine hK _ _ (fun _=>eD) (fun hS=> ?_)
        clear hK K' hS
        try simp only [Act.put,sI]
        refine gD (i:=21) rfl (by kernel_rfl) ?_
        intro K' hK
        refine mX (w0:=wc) rfl (.tmp 84) (.tmp 90) 32 rfl 118 ti _ 2 24 Tryz.underlying32 aM hz hsz hby rfl (by decide) _ _ _ rfl lS ad (n-k) (cap-k) (eM ((cS p.core.cells).drop k)) rfl zA.out (Jv.out _) (tI _) (by unfold maxLen;omega) (by omega) eD ?_
        intro v3 W3 pE fG F9
        obtain ⟨a3,uV,rfl⟩:=y8 pE
        refine hK _ _ (fun _=>fG) (fun hS=> ?_)
        clear hK K' hS
        try simp only [Act.put,sI]
        have z8:=ax fG e3;have f33:=HF.out W3 (bt pV.out fG)
        refine cf (i:=22) (v:= ?_) rfl (by kernel_rfl) (fun _ _ _ h=>h) (Or.inl ⟨by rfl,?_⟩) fG ?_
        rotate_left
        ·intro W hW
         have cj:=ax hW e3
         go_simp
         try with_reducible rfl
        try simp only [Act.put,sI]
        refine cf (i:=23) (v:= ?_) rfl (by kernel_rfl) (fun _ _ _ h=>h) (Or.inl ⟨by rfl,?_⟩) fG ?_
        rotate_left
        ·intro W hW
         have cj:=ax hW e3
         go_simp
         try with_reducible rfl
        try simp only [Act.put,sI]
        refine gD (i:=24) rfl (by kernel_rfl) ?_
        intro K' hK
        go_simp
        refine hK _ _ (fun h=>absurd rfl h) (fun _=> ?_)
        clear hK K'
        refine uR (by kernel_rfl) ?_ _
        go_wp2_with fail
        go_meet
        case rel=>exact ⟨yX oP.out HX.out HN.out lC.out iq.out fG pE (by omega) (by simp) mh.out hkr,by unfold cC keepD;rw [if_neg nZ.out,if_neg HG.out,if_neg (fun h=>by have h1:=h.2;have h2:=HN.out;omega)]⟩
      ·have ajW:(cap=k)=False:=eq_false tQ
       refine Ey (fun W=>Below wc.heap.size wc W) 24 (by kernel_rfl) (by go_grown) (fun bO=> ?_)
       refine cf (i:=0) (v:= ?_) rfl (by kernel_rfl) (fun _ _ _ h=>h) (Or.inl ⟨by rfl,?_⟩) bO ?_
       rotate_left
       ·intro W hW
        have cj:=ax hW e3;have cE:=ax hW x1;have cF:=ax hW x2
        go_simp
        try with_reducible rfl
       try simp only [Act.put,sI]
       refine cf (i:=1) (v:= ?_) rfl (by kernel_rfl) (fun _ _ _ h=>h) (Or.inl ⟨by rfl,?_⟩) bO ?_
       rotate_left
       ·intro W hW
        have cj:=ax hW e3;have cE:=ax hW x1;have cF:=ax hW x2
        go_simp
        try with_reducible rfl
       try simp only [Act.put,sI]
       refine cf (i:=2) (v:= ?_) rfl (by kernel_rfl) (fun _ _ _ h=>h) (Or.inl ⟨by rfl,?_⟩) bO ?_
       rotate_left
       ·intro W hW
        have cj:=ax hW e3;have cE:=ax hW x1;have cF:=ax hW x2
        go_simp
        try with_reducible rfl
       try simp only [Act.put,sI]
       refine cf (i:=3) (v:= ?_) rfl (by kernel_rfl) (fun _ _ _ h=>h) (Or.inl ⟨by rfl,?_⟩) bO ?_
       rotate_left
       ·intro W hW
        have cj:=ax hW e3;have cE:=ax hW x1;have cF:=ax hW x2
        go_simp
        try with_reducible rfl
       try simp only [Act.put,sI]
       refine cf (i:=4) (v:= ?_) rfl (by kernel_rfl) (fun _ _ _ h=>h) (Or.inl ⟨by rfl,?_⟩) bO ?_
       rotate_left
       ·intro W hW
        have cj:=ax hW e3;have cE:=ax hW x1;have cF:=ax hW x2
        go_simp
        try with_reducible rfl
       try simp only [Act.put,sI]
       refine cf (i:=5) (v:= ?_) rfl (by kernel_rfl) (fun _ _ _ h=>h) (Or.inl ⟨by rfl,?_⟩) bO ?_
       rotate_left
       ·intro W hW
        have cj:=ax hW e3;have cE:=ax hW x1;have cF:=ax hW x2
        go_simp
        try with_reducible rfl
       try simp only [Act.put,sI]
       refine cf (i:=6) (v:= ?_) rfl (by kernel_rfl) (fun _ _ _ h=>h) (Or.inl ⟨by rfl,?_⟩) bO ?_
       rotate_left
       ·intro W hW
        have cj:=ax hW e3;have cE:=ax hW x1;have cF:=ax hW x2
        go_simp
        try with_reducible rfl
       try simp only [Act.put,sI]
       refine cf (i:=8) (v:= ?_) rfl (by kernel_rfl) (fun _ _ _ h=>h) (Or.inl ⟨by rfl,?_⟩) bO ?_
       rotate_left
       ·intro W hW
        have cj:=ax hW e3;have cE:=ax hW x1;have cF:=ax hW x2
        go_simp
        try with_reducible rfl
       try simp only [Act.put,sI]
       refine cf (i:=9) (v:= ?_) rfl (by kernel_rfl) (fun _ _ _ h=>h) (Or.inl ⟨by rfl,?_⟩) bO ?_
       rotate_left
       ·intro W hW
        have cj:=ax hW e3;have cE:=ax hW x1;have cF:=ax hW x2
        go_simp
        try with_reducible rfl
       try simp only [Act.put,sI]
       refine cf (i:=10) (v:= ?_) rfl (by kernel_rfl) (fun _ _ _ h=>h) (Or.inl ⟨by rfl,?_⟩) bO ?_
       rotate_left
       ·intro W hW
        have cj:=ax hW e3;have cE:=ax hW x1;have cF:=ax hW x2
        go_simp
        try with_reducible rfl
       try simp only [Act.put,sI]
       refine cf (i:=11) (v:= ?_) rfl (by kernel_rfl) (fun _ _ _ h=>h) (Or.inl ⟨by rfl,?_⟩) bO ?_
       rotate_left
       ·intro W hW
        have cj:=ax hW e3;have cE:=ax hW x1;have cF:=ax hW x2
        go_simp
        try with_reducible rfl
       try simp only [Act.put,sI]
       refine cf (i:=12) (v:= ?_) rfl (by kernel_rfl) (fun _ _ _ h=>h) (Or.inl ⟨by rfl,?_⟩) bO ?_
       rotate_left
       ·intro W hW
        have cj:=ax hW e3;have cE:=ax hW x1;have cF:=ax hW x2
        go_simp
        try with_reducible rfl
       try simp only [Act.put,sI]
       refine cf (i:=15) (v:= ?_) rfl (by kernel_rfl) (fun _ _ _ h=>h) (Or.inl ⟨by rfl,?_⟩) bO ?_
       rotate_left
       ·intro W hW
        have cj:=ax hW e3;have cE:=ax hW x1;have cF:=ax hW x2
        go_simp
        try with_reducible rfl
       try simp only [Act.put,sI]
       refine cf (i:=16) (v:= ?_) rfl (by kernel_rfl) (fun _ _ _ h=>h) (Or.inl ⟨by rfl,?_⟩) bO ?_
       rotate_left
       ·intro W hW
        have cj:=ax hW e3;have cE:=ax hW x1;have cF:=ax hW x2
        go_simp
        try with_reducible rfl
       try simp only [Act.put,sI]
       refine cf (i:=17) (v:= ?_) rfl (by kernel_rfl) (fun _ _ _ h=>h) (Or.inl ⟨by rfl,?_⟩) bO ?_
       rotate_left
       ·intro W hW
        have cj:=ax hW e3;have cE:=ax hW x1;have cF:=ax hW x2
        go_simp
        try with_reducible rfl
       try simp only [Act.put,sI]
       refine cf (i:=18) (v:= ?_) rfl (by kernel_rfl) (fun _ _ _ h=>h) (Or.inl ⟨by rfl,?_⟩) bO ?_
       rotate_left
       ·intro W hW
        have cj:=ax hW e3;have cE:=ax hW x1;have cF:=ax hW x2
        go_simp
        try with_reducible rfl
       try simp only [Act.put,sI]
       refine cf (i:=19) (v:= ?_) rfl (by kernel_rfl) (fun _ _ _ h=>h) (Or.inl ⟨by rfl,?_⟩) bO ?_
       rotate_left
       ·intro W hW
        have cj:=ax hW e3;have cE:=ax hW x1;have cF:=ax hW x2
        go_simp
        try with_reducible rfl
       try simp only [Act.put,sI]
       refine cf (i:=20) (v:= ?_) rfl (by kernel_rfl) (fun _ _ _ h=>h) (Or.inl ⟨by rfl,?_⟩) bO ?_
       rotate_left
       ·intro W hW
        have cj:=ax hW e3;have cE:=ax hW x1;have cF:=ax hW x2
        go_simp
        try with_reducible rfl
       try simp only [Act.put,sI]
       refine ER (i:=7) (k:=13) rfl rfl (by kernel_rfl) ?_ ?_
       ·intro K' hK
        refine mX (w0:=wc) rfl (.const (.slice none 0 0)) (.tmp 76) 32 rfl 118 ti _ 2 24 Tryz.underlying32 aM hz hsz hby rfl (by decide) (.slice none 0 0) 0 [] rfl (World.ownsRow_nil _ _ _ _) ad k cap (eM ((cS p.core.cells).take k)) rfl Ce.out (Cc.out _ (by go_grown)) (tI _) (by unfold maxLen;omega) (by omega) (by go_grown) ?_
        intro v1 W1 vG fq hK1
        refine hK _ _ (fun _=>fq) (fun hS=> ?_)
        clear hK K' hS
        try simp only [Act.put,sI]
        refine gD (i:=13) rfl (by kernel_rfl) ?_
        intro K' hK
        go_simp
        refine hK _ _ (fun _=>bt fq (by go_grown)) (fun hS=> ?_)
        clear hK K' hS
        try simp only [Act.put,sI]
        refine gD (i:=14) rfl (by kernel_rfl) ?_
        intro K' hK
        refine mX (w0:=wc) rfl (.tmp 77) (.tmp 83) 32 rfl 118 ti _ 2 24 Tryz.underlying32 aM hz hsz hby rfl (by decide) _ _ _ rfl (O3 vG (by go_grown)) _ 1 1 [.string x.key,.int .i64 x.val] rfl rfl (qd) (by intro u hu;simp at hu;rcases hu with rfl|rfl<;>rfl) (by unfold maxLen;omega) (by omega) (bt fq (by go_grown)) ?_
        intro v2 W2 lS eD oz
        refine hK _ _ (fun _=>eD) (fun hS=> ?_)
        clear hK K' hS
        try simp only [Act.put,sI]
        refine gD (i:=21) rfl (by kernel_rfl) ?_
        intro K' hK
        refine mX (w0:=wc) rfl (.tmp 84) (.tmp 90) 32 rfl 118 ti _ 2 24 Tryz.underlying32 aM hz hsz hby rfl (by decide) _ _ _ rfl lS (ad.add (k*2)) (n-k) (cap-k) (eM ((cS p.core.cells).drop k)) rfl zA.out (Ju.out _ eD) (tI _) (by unfold maxLen;omega) (by omega) eD ?_
        intro v3 W3 pE fG F9
        obtain ⟨a3,uV,rfl⟩:=y8 pE
        refine hK _ _ (fun _=>fG) (fun hS=> ?_)
        clear hK K' hS
        try simp only [Act.put,sI]
        have z8:=ax fG e3;have f33:=HF.out W3 (bt pV.out fG)
        refine cf (i:=22) (v:= ?_) rfl (by kernel_rfl) (fun _ _ _ h=>h) (Or.inl ⟨by rfl,?_⟩) fG ?_
        rotate_left
        ·intro W hW
         have cj:=ax hW e3
         go_simp
         try with_reducible rfl
        try simp only [Act.put,sI]
        refine cf (i:=23) (v:= ?_) rfl (by kernel_rfl) (fun _ _ _ h=>h) (Or.inl ⟨by rfl,?_⟩) fG ?_
        rotate_left
        ·intro W hW
         have cj:=ax hW e3
         go_simp
         try with_reducible rfl
        try simp only [Act.put,sI]
        refine gD (i:=24) rfl (by kernel_rfl) ?_
        intro K' hK
        go_simp
        refine hK _ _ (fun h=>absurd rfl h) (fun _=> ?_)
        clear hK K'
        refine uR (by kernel_rfl) ?_ _
        go_wp2_with fail
        go_meet
        case rel=>exact ⟨yX oP.out HX.out HN.out lC.out iq.out fG pE (by omega) (by simp) mh.out hkr,by unfold cC keepD;rw [if_neg nZ.out,if_neg HG.out,if_neg (fun h=>by have h1:=h.2;have h2:=HN.out;omega)]⟩
       ·intro K' hK
        go_simp
        refine hK _ _ (fun _=>by go_grown) (fun hS=> ?_)
        clear hK K' hS
        try simp only [Act.put,sI]
        refine gD (i:=7) rfl (by kernel_rfl) ?_
        intro K' hK
        refine mX (w0:=wc) rfl (.const (.slice none 0 0)) (.tmp 76) 32 rfl 118 ti _ 2 24 Tryz.underlying32 aM hz hsz hby rfl (by decide) (.slice none 0 0) 0 [] rfl (World.ownsRow_nil _ _ _ _) ad k cap (eM ((cS p.core.cells).take k)) rfl Ce.out (Cc.out _ (by go_grown)) (tI _) (by unfold maxLen;omega) (by omega) (by go_grown) ?_
        intro v1 W1 vG fq hK1
        refine hK _ _ (fun _=>fq) (fun hS=> ?_)
        clear hK K' hS
        try simp only [Act.put,sI]
        refine gD (i:=14) rfl (by kernel_rfl) ?_
        intro K' hK
        refine mX (w0:=wc) rfl (.tmp 77) (.tmp 83) 32 rfl 118 ti _ 2 24 Tryz.underlying32 aM hz hsz hby rfl (by decide) _ _ _ rfl (vG) _ 1 1 [.string x.key,.int .i64 x.val] rfl rfl (fun j u hj=>ax (hK1 rfl) (qd j u hj)) (by intro u hu;simp at hu;rcases hu with rfl|rfl<;>rfl) (by unfold maxLen;omega) (by omega) (fq) ?_
        intro v2 W2 lS eD oz
        refine hK _ _ (fun _=>eD) (fun hS=> ?_)
        clear hK K' hS
        try simp only [Act.put,sI]
        refine gD (i:=21) rfl (by kernel_rfl) ?_
        intro K' hK
        refine mX (w0:=wc) rfl (.tmp 84) (.tmp 90) 32 rfl 118 ti _ 2 24 Tryz.underlying32 aM hz hsz hby rfl (by decide) _ _ _ rfl lS (ad.add (k*2)) (n-k) (cap-k) (eM ((cS p.core.cells).drop k)) rfl zA.out (Ju.out _ eD) (tI _) (by unfold maxLen;omega) (by omega) eD ?_
        intro v3 W3 pE fG F9
        obtain ⟨a3,uV,rfl⟩:=y8 pE
        refine hK _ _ (fun _=>fG) (fun hS=> ?_)
        clear hK K' hS
        try simp only [Act.put,sI]
        have z8:=ax fG e3;have f33:=HF.out W3 (bt pV.out fG)
        refine cf (i:=22) (v:= ?_) rfl (by kernel_rfl) (fun _ _ _ h=>h) (Or.inl ⟨by rfl,?_⟩) fG ?_
        rotate_left
        ·intro W hW
         have cj:=ax hW e3
         go_simp
         try with_reducible rfl
        try simp only [Act.put,sI]
        refine cf (i:=23) (v:= ?_) rfl (by kernel_rfl) (fun _ _ _ h=>h) (Or.inl ⟨by rfl,?_⟩) fG ?_
        rotate_left
        ·intro W hW
         have cj:=ax hW e3
         go_simp
         try with_reducible rfl
        try simp only [Act.put,sI]
        refine gD (i:=24) rfl (by kernel_rfl) ?_
        intro K' hK
        go_simp
        refine hK _ _ (fun h=>absurd rfl h) (fun _=> ?_)
        clear hK K'
        refine uR (by kernel_rfl) ?_ _
        go_wp2_with fail
        go_meet
        case rel=>exact ⟨yX oP.out HX.out HN.out lC.out iq.out fG pE (by omega) (by simp) mh.out hkr,by unfold cC keepD;rw [if_neg nZ.out,if_neg HG.out,if_neg (fun h=>by have h1:=h.2;have h2:=HN.out;omega)]⟩
 case rest =>
 obtain ⟨⟨K',C8,rG,Ms⟩,hbad⟩:=hcut
 have HBAD:=Lib.hid hbad
 clear hbad
 have hct:=H.out.ct
 have Th:=Lib.hid (BW C8.pb p.core.count hct)
 obtain ⟨-, -, -, -, -, -, -, -, -, -, -, -,c4y, -, -, -, -⟩:=C8.pb.cells
 have Tp:=Lib.hid C8
 have Jy:=Lib.hid Ms
 clear C8 Ms hct e1 e3 e4 x0 x1 x2 d0 d1 d3 d4 c0 c1 c2 c3 c4 c5
 go_wp2_with fail
 refine Th.out.mono ?_
 rintro e w5 ⟨rfl,hb5,AQ⟩
 have zB:=Lib.hid (Tp.out.below hb5)
 have iR:=Lib.hid (Jy.out.below hb5 Jy.out.lt)
 have P6:=zB.out.pb.II (bR p.core.count) AQ
 have Tm:=Lib.hid (zB.out.put zB.out.pb.kg P6)
 obtain ⟨-, -, -, -, -, -, -, -, -, -, -, -,c4z, -,hfz, -, -⟩:=zB.out.pb.cells
 obtain ⟨EO,au,nu,cpu,rfl,GH, -, -, -, -, -,c3u,c4u, -, -, -, -⟩:=P6.cells
 simp only at GH
 have kQ:w.heap.size+1≠g:=fun e=>rG (by rw [e];exact zB.out.pb.kg)
 have pW:=Lib.hid (iR.out.far (p:=⟨g,4,none⟩) kQ (.int .i64 (bR p.core.count)))
 have Tj:=Lib.hid GH
 clear P6 GH hb5 kQ
 have fZ:=pW.out;obtain ⟨mR,mS,mT,mU,mV,mW⟩:=ma (w:=(w5.setCell ⟨g,4,none⟩ (.int .i64 (bR p.core.count)))) (b:=w.heap.size+1) fZ
 go_wp2
 obtain ⟨q1,q2⟩:=iL Tm.out H.out pW.out (by omega) rG (rep 0 (iD p.core.cells x.key x.val).length 0 0)
 rw [HBAD.out]
 rw [<-Tj.out] at q1 q2 ⊢
 refine bodyPost_ret (iF rfl _ _ _ rfl q1 Tryz.underlying39 rfl (by kernel_rfl)) rfl q2
end Go.Proofs.YtimickglpboilaaGreatDoor
