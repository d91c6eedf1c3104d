/- Walk: Get and Put of a core in a box (keepCall). -/
import Derived.Test.YtimickglpboilaaGreatDoorF20
import Derived.Test.YtimickglpboilaaGreatDoorF14
set_option linter.unusedVariables false
set_option linter.unusedSimpArgs false
set_option linter.unusedSectionVars false
set_option maxRecDepth 100000
namespace Go.Proofs.YtimickglpboilaaGreatDoor
open Go.RowKit Go
variable [GC]
set_option maxHeartbeats 60000000 in
theorem adn{K:Nat->Prop}{w:World}{g:Nat}{S2:Value}{p:Part}{x:Call}(h:PB K w g S2 p)(hx:mS x) :
  Calls Tryz.prog 94 #[.pointer (some ⟨g,0,none⟩),cm x] w (rX K w g S2 (cG p (keepD p.core x))):=by
 obtain ⟨S1,a,n,cap,Dl,hn,hnc,hcm,c0,c1,c2,c3,c4,c5,hf,Mp,hap⟩:=h.cells
 unfold maxLen at hcm
 have hlen:=vY p.core.cells
 have H:=Lib.hid h
 have HX:=Lib.hid hx
 have HK:=Lib.hid (fun w0 hb=>ahU h p.core.kind h.ks w0 hb)
 have hgl:=h.uY
 clear h hx
 unfold cm
 go_enter Tryz.func94,Tryz.ntmps94
 go_wp2_with fail
 refine (HK.out _ (by go_grown)).mono ?_
 rintro e w1 ⟨rfl,hb1⟩
 have gh:Below w.heap.size w w1:=bt (by go_grown) hb1
 obtain ⟨hc1,hf1⟩:=Fb hb1
 (try simp only [World.size_alloc] at hc1 hf1)
 have hz1:w.heap.size+1+1<=w1.heap.size:=by have:=hb1.size;(try simp only [World.size_alloc] at this);omega
 have d0:=ay gh c0
 have d1:=ay gh c1
 have d3:=ay gh c3
 have d4:=ay gh c4
 have Gs:=Uy (ek p.core.kind) (vP _)
 have HS:=Lib.hid ((St.start H.out).below gh)
 have HR:=Lib.hid (show ai w1 (w.heap.size+1) 39 aC by
  have:=(ai.new (w.alloc (.cells #[.string x.method,.string x.key,.int .i64 x.val,.string x.text] 43)) 39 aC).below hb1 (by simp)
  rwa [World.size_alloc] at this)
 have hkr: ¬K (w.heap.size+1):=fun hk=>by have:=(H.out.kb _ hk).2;omega
 have HXB:=Lib.hid (show ai w1 w.heap.size 43 #[.string x.method,.string x.key,.int .i64 x.val,.string x.text] from
  ((ai.new w 43 #[.string x.method,.string x.key,.int .i64 x.val,.string x.text]).alloc _).below hb1 (by simp only [World.size_alloc];omega))
 go_upto_region 2 with fail
 go_cut [26] (fun s26 wx=>s26= .bool ((ek p.core.kind).testBit 0&& !p.core.on)/\wx=w1)
 case first =>
  cases hq:(ek p.core.kind).testBit 0 with
  | true =>
   rw [hq,if_pos rfl] at Gs
   cases hon:p.core.on<;>(rw [hon] at d1;go_wp2_with fail;go_meet;case rel=>exact ⟨by rw [hq,hon];rfl,rfl⟩)
  | false =>
   rw [hq,if_neg (by simp)] at Gs
   go_wp2_with fail
   go_meet
   case rel=>exact ⟨by rw [hq];rfl,rfl⟩
 case rest =>
 obtain ⟨rfl,yI⟩:=hcut
 replace yI:=yI.symm
 subst yI
 clear Gs
 by_cases hoff:(ek p.core.kind).testBit 0=true/\p.core.on=false
 ·have hq:((ek p.core.kind).testBit 0&& !p.core.on)=true:=by simp [hoff.1,hoff.2]
  have nM:=Lib.hid hoff
  clear hoff
  rw [hq]
  go_wp2
  obtain ⟨q1,q2⟩:=iN HS.out H.out HR.out (by simp) (by simpa using hkr) (rep 2 0 0 0)
  have e:cG p (keepD p.core x)=(p,rep 2 0 0 0):=by unfold cG keepD;rw [if_pos nM.out]
  rw [e]
  refine bodyPost_ret (iJ rfl _ _ _ rfl q1 Tryz.underlying39 rfl (by kernel_rfl)) rfl q2
 have hq:((ek p.core.kind).testBit 0&& !p.core.on)=false:=by
  cases h1:(ek p.core.kind).testBit 0<;>cases h2:p.core.on<;>simp_all
 have nM:=Lib.hid hoff
 clear hoff
 rw [hq]
 clear hq
 go_upto_block 0 with fail
 have HN:=Lib.hid hn
 clear hn
 have hf': ∀W:World,Below w.heap.size w W-> ∀i,W.frozen? ⟨g,i,none⟩=false:=fun W hb i=>by rw [(Fb hb).2 g i hgl];exact hf i
 have HF:=Lib.hid hf'
 clear hf' hf
 have x0:w1.cell? ⟨w.heap.size,0,none⟩=some (.string x.method):=by rw [HXB.out.cell];rfl
 have x1:w1.cell? ⟨w.heap.size,1,none⟩=some (.string x.key):=by rw [HXB.out.cell];rfl
 have x2:w1.cell? ⟨w.heap.size,2,none⟩=some (.int .i64 x.val):=by rw [HXB.out.cell];rfl
 have qw:=Lib.hid Mp
 clear Mp
 have Ce:=Lib.hid (fun (k:Nat) (hk:k<n) (W:World) (hb:Below w.heap.size w W)=>show ∃b o,S1= .slice (some ⟨b,o,none⟩) n cap/\K b/\b≠g/\bM S1 b/\W.cell? ⟨b,o+k*2,none⟩=some (.string (nth p.core.cells k).key)/\W.cell? ⟨b,o+k*2+1,none⟩=some (.int .i64 (nth p.core.cells k).val)/\(∀i,W.frozen? ⟨b,i,none⟩=false) from by
  obtain ⟨b,o,cp,bS,hKb,hbg,eS,a0,a1,hfz,hbl⟩:=qw.out.at (i:=k) (by rw [vY, <-HN.out];exact hk)
  rw [Pc (by rw [<-HN.out];exact hk)] at a0 a1
  have e:S1= .slice (some ⟨b,o,none⟩) n cap:=by
   rw [Dl] at bS ⊢
   simp only [Value.slice.injEq] at bS ⊢
   exact ⟨bS.1,trivial,trivial⟩
  exact ⟨b,o,e,hKb,hbg,eS,ay hb a0,ay hb a1,fun i=>by rw [(Fb hb).2 b i hbl];exact hfz i none⟩)
 rw [Dl] at d3
 have uu:=Lib.hid Dl
 clear Dl hlen
 go_cut [7] (fun s7 wx=>s7= .int .i64 ((bZ p.core.cells x.key:Nat):Int)/\Below w1.heap.size w1 wx)
 case first =>
  go_wp2
  go_loopw [7] (fun at' wr=>Below w1.heap.size w1 wr/\ ∃k:Nat,k<=n/\at'= .int .i64 k/\ ∀i,i<k->gx (nth p.core.cells i).key x.key=true) (fun at' _=>n-(intOf at').toNat)
  case atStart=>exact ⟨Below.refl _ _,0,by omega,rfl,fun i h=>absurd h (by omega)⟩
  case round =>
   obtain ⟨hB,k,hk,rfl,hlow⟩:=hrel
   have e1:=ay hB d1
   have e3:=ay hB d3
   have e4:=ay hB d4
   replace x0:=ay hB x0
   replace x1:=ay hB x1
   replace x2:=ay hB x2
   have ET:=Lib.hid hlow
   clear hlow
   by_cases hlt:k<n
   ·obtain ⟨b,o,bS,hKb,hbg,eS,a0,a1,hfz⟩:=Ce.out k hlt wr (bt gh hB)
    rw [uu.out] at bS
    simp only [Value.slice.injEq] at bS
    obtain ⟨rfl, -, -⟩:=bS
    have hi0:(0:Int)<=(k:Int):=by omega
    have hi1:(k:Int)<(n:Int):=by omega
    have hdl:decide (k<n)=true:=by simp;omega
    by_cases hl:gx (nth p.core.cells k).key x.key=true
    ·have hl':Op.bytesLess (nth p.core.cells k).key.toList x.key.toList=true:=hl
     go_wp2
     (refine Pt mo (by kernel_rfl) fun wd hwd cD=> ?_);replace e1:=ay cD e1;replace e3:=ay cD e3;replace e4:=ay cD e4;replace x0:=ay cD x0;replace x1:=ay cD x1;replace x2:=ay cD x2;replace a0:=ay cD a0;replace a1:=ay cD a1;replace hB:=bt hB cD;clear hwd cD;(repeat still_step);refine wpStill_nil ?_
     go_wp2
     exact ⟨⟨hB,k+1,by omega,by go_num,fun i hi=>by
      rcases Nat.lt_or_ge i k with h|h
      ·exact ET.out i h
      ·obtain rfl:i=k:=by omega
       exact hl⟩,by simp [intOf];omega⟩
    ·have fG:gx (nth p.core.cells k).key x.key=false:=by simpa using hl
     have hl':Op.bytesLess (nth p.core.cells k).key.toList x.key.toList=false:=fG
     have hat:bZ p.core.cells x.key=k:=E9 (by rw [<-HN.out];omega) ET.out (fun _=>fG)
     have ES:=Lib.hid hat
     clear hat hl fG
     go_wp2
     (refine Pt mo (by kernel_rfl) fun wd hwd cD=> ?_);replace e1:=ay cD e1;replace e3:=ay cD e3;replace e4:=ay cD e4;replace x0:=ay cD x0;replace x1:=ay cD x1;replace x2:=ay cD x2;replace a0:=ay cD a0;replace a1:=ay cD a1;replace hB:=bt hB cD;clear hwd cD;(repeat still_step);refine wpStill_nil ?_
     go_wp2_with fail
     go_meet
     case rel=>exact ⟨by rw [ES.out],hB⟩
   ·have hat:bZ p.core.cells x.key=k:=E9 (by rw [<-HN.out];omega) ET.out (fun h=>by have:=HN.out;omega)
    have ES:=Lib.hid hat
    clear hat
    have hdl:decide (k<n)=false:=by simp;omega
    go_wp2
    refine Ed (C:=jS w1 [((⟨g,3,none⟩:Addr),.slice a n cap)]) (by kernel_rfl) (by kernel_rfl) (jS.start hB ⟨e3,trivial⟩) ?_;(repeat (first|go_big_quiet_skip|(go_big_quiet_want;first|(refine BigFrame.quiet_move _ rfl ?_;(try simp only [Act.put]);(try simp only [Act.eval]);(try simp only [Array.getD_eq_getD_getElem?]);(try simp only [List.getElem?_toArray]);(try simp only [List.getElem?_cons_succ]);(try simp only [List.getElem?_cons_zero]);(try simp only [Option.getD_some]);(try simp only [List.setIfInBounds_toArray]);(try simp only [List.set_cons_succ]);(try simp only [List.set_cons_zero]);go_big_quiet_on)|(refine BigFrame.quiet_assign _ rfl ?_;(try simp only [Act.put]);(try simp only [Act.eval]);(try simp only [Array.getD_eq_getD_getElem?]);(try simp only [List.getElem?_toArray]);(try simp only [List.getElem?_cons_succ]);(try simp only [List.getElem?_cons_zero]);(try simp only [Option.getD_some]);(try simp only [List.setIfInBounds_toArray]);(try simp only [List.set_cons_succ]);(try simp only [List.set_cons_zero]);go_big_quiet_on)|(apply Ea;(focus (intro w' hC;simp only [jS,jz] at hC;go_split_ands;go_simp;(try exact rfl);done));(try simp only [Act.put]);(try simp only [List.setIfInBounds_toArray]);(try simp only [List.set_cons_succ]);(try simp only [List.set_cons_zero]);go_big_quiet_on))));refine wpQuiet_nil ?_;intro w' hC;simp only [jS,jz] at hC;go_split_ands
    go_wp2_with fail
    go_meet
    case rel=>exact ⟨by rw [ES.out],by assumption⟩
 case rest =>
 obtain ⟨rfl,hB⟩:=hcut
 have hle:bZ p.core.cells x.key<=n:=by rw [HN.out];exact uL _ _
 obtain ⟨k,hk⟩: ∃k,bZ p.core.cells x.key=k:=⟨_,rfl⟩
 rw [hk] at hle ⊢
 have lJ:=Lib.hid hk
 clear hk
 have e1:=ay hB d1
 have e3:=ay hB d3
 have e4:=ay hB d4
 replace x0:=ay hB x0
 replace x1:=ay hB x1
 replace x2:=ay hB x2
 have Tc:=Lib.hid (HS.out.below hB)
 have Ta:=Lib.hid (HR.out.below hB (by omega))
 have Js:=Lib.hid (bt gh hB)
 go_upto_region 7 with fail
 go_cut [8] (fun s8 wx=>s8= .bool (eZ p.core.cells x.key)/\Below wc.heap.size wc wx)
 case first =>
  by_cases hlt:k<n
  ·obtain ⟨b,o,bS,hKb,hbg,eS,a0,a1,hfz⟩:=Ce.out k hlt wc Js.out
   rw [uu.out] at bS
   simp only [Value.slice.injEq] at bS
   obtain ⟨rfl, -, -⟩:=bS
   have hi0:(0:Int)<=(k:Int):=by omega
   have hi1:(k:Int)<(n:Int):=by omega
   have hdl:decide (k<n)=true:=by simp;omega
   cases rp:decide ((nth p.core.cells k).key=x.key) with
   | true =>
    have Yf:((nth p.core.cells k).key.toList==x.key.toList)=true:=by rw [wM];exact rp
    have jq:eZ p.core.cells x.key=true:=nE.2 ⟨by rw [lJ.out, <-HN.out];exact hlt,by rw [lJ.out];simpa using rp⟩
    have iq:=Lib.hid jq
    clear jq rp
    refine Ed (C:=jS wc [((⟨g,3,none⟩:Addr),.slice (some ⟨b,o,none⟩) n cap),(⟨b,o+k*2,none⟩,.string (nth p.core.cells k).key),(⟨w.heap.size,1,none⟩,.string x.key)]) (by kernel_rfl) (by kernel_rfl) (jS.start (Below.refl _ wc) ⟨e3,a0,x1,trivial⟩) ?_;(repeat (first|go_big_quiet_skip|(go_big_quiet_want;first|(refine BigFrame.quiet_move _ rfl ?_;(try simp only [Act.put]);(try simp only [Act.eval]);(try simp only [Array.getD_eq_getD_getElem?]);(try simp only [List.getElem?_toArray]);(try simp only [List.getElem?_cons_succ]);(try simp only [List.getElem?_cons_zero]);(try simp only [Option.getD_some]);(try simp only [List.setIfInBounds_toArray]);(try simp only [List.set_cons_succ]);(try simp only [List.set_cons_zero]);go_big_quiet_on)|(refine BigFrame.quiet_assign _ rfl ?_;(try simp only [Act.put]);(try simp only [Act.eval]);(try simp only [Array.getD_eq_getD_getElem?]);(try simp only [List.getElem?_toArray]);(try simp only [List.getElem?_cons_succ]);(try simp only [List.getElem?_cons_zero]);(try simp only [Option.getD_some]);(try simp only [List.setIfInBounds_toArray]);(try simp only [List.set_cons_succ]);(try simp only [List.set_cons_zero]);go_big_quiet_on)|(apply Ea;(focus (intro w' hC;simp only [jS,jz] at hC;go_split_ands;go_simp;(try exact rfl);done));(try simp only [Act.put]);(try simp only [List.setIfInBounds_toArray]);(try simp only [List.set_cons_succ]);(try simp only [List.set_cons_zero]);go_big_quiet_on))));refine wpQuiet_nil ?_;intro w' hC;simp only [jS,jz] at hC;go_split_ands
    go_wp2_with fail
    go_meet
    case rel=>exact ⟨by rw [iq.out],by assumption⟩
   | false =>
    have Yf:((nth p.core.cells k).key.toList==x.key.toList)=false:=by rw [wM];exact rp
    have jq:eZ p.core.cells x.key=false:=by
     unfold eZ;rw [lJ.out,rp];simp
    have iq:=Lib.hid jq
    clear jq rp
    refine Ed (C:=jS wc [((⟨g,3,none⟩:Addr),.slice (some ⟨b,o,none⟩) n cap),(⟨b,o+k*2,none⟩,.string (nth p.core.cells k).key),(⟨w.heap.size,1,none⟩,.string x.key)]) (by kernel_rfl) (by kernel_rfl) (jS.start (Below.refl _ wc) ⟨e3,a0,x1,trivial⟩) ?_;(repeat (first|go_big_quiet_skip|(go_big_quiet_want;first|(refine BigFrame.quiet_move _ rfl ?_;(try simp only [Act.put]);(try simp only [Act.eval]);(try simp only [Array.getD_eq_getD_getElem?]);(try simp only [List.getElem?_toArray]);(try simp only [List.getElem?_cons_succ]);(try simp only [List.getElem?_cons_zero]);(try simp only [Option.getD_some]);(try simp only [List.setIfInBounds_toArray]);(try simp only [List.set_cons_succ]);(try simp only [List.set_cons_zero]);go_big_quiet_on)|(refine BigFrame.quiet_assign _ rfl ?_;(try simp only [Act.put]);(try simp only [Act.eval]);(try simp only [Array.getD_eq_getD_getElem?]);(try simp only [List.getElem?_toArray]);(try simp only [List.getElem?_cons_succ]);(try simp only [List.getElem?_cons_zero]);(try simp only [Option.getD_some]);(try simp only [List.setIfInBounds_toArray]);(try simp only [List.set_cons_succ]);(try simp only [List.set_cons_zero]);go_big_quiet_on)|(apply Ea;(focus (intro w' hC;simp only [jS,jz] at hC;go_split_ands;go_simp;(try exact rfl);done));(try simp only [Act.put]);(try simp only [List.setIfInBounds_toArray]);(try simp only [List.set_cons_succ]);(try simp only [List.set_cons_zero]);go_big_quiet_on))));refine wpQuiet_nil ?_;intro w' hC;simp only [jS,jz] at hC;go_split_ands
    go_wp2_with fail
    go_meet
    case rel=>exact ⟨by rw [iq.out],by assumption⟩
  ·have hdl:decide (k<n)=false:=by simp;omega
   have jq:eZ p.core.cells x.key=false:=by
    unfold eZ;rw [lJ.out, <-HN.out,hdl];rfl
   have iq:=Lib.hid jq
   clear jq
   refine Ed (C:=jS wc [((⟨g,3,none⟩:Addr),.slice a n cap)]) (by kernel_rfl) (by kernel_rfl) (jS.start (Below.refl _ wc) ⟨e3,trivial⟩) ?_;(repeat (first|go_big_quiet_skip|(go_big_quiet_want;first|(refine BigFrame.quiet_move _ rfl ?_;(try simp only [Act.put]);(try simp only [Act.eval]);(try simp only [Array.getD_eq_getD_getElem?]);(try simp only [List.getElem?_toArray]);(try simp only [List.getElem?_cons_succ]);(try simp only [List.getElem?_cons_zero]);(try simp only [Option.getD_some]);(try simp only [List.setIfInBounds_toArray]);(try simp only [List.set_cons_succ]);(try simp only [List.set_cons_zero]);go_big_quiet_on)|(refine BigFrame.quiet_assign _ rfl ?_;(try simp only [Act.put]);(try simp only [Act.eval]);(try simp only [Array.getD_eq_getD_getElem?]);(try simp only [List.getElem?_toArray]);(try simp only [List.getElem?_cons_succ]);(try simp only [List.getElem?_cons_zero]);(try simp only [Option.getD_some]);(try simp only [List.setIfInBounds_toArray]);(try simp only [List.set_cons_succ]);(try simp only [List.set_cons_zero]);go_big_quiet_on)|(apply Ea;(focus (intro w' hC;simp only [jS,jz] at hC;go_split_ands;go_simp;(try exact rfl);done));(try simp only [Act.put]);(try simp only [List.setIfInBounds_toArray]);(try simp only [List.set_cons_succ]);(try simp only [List.set_cons_zero]);go_big_quiet_on))));refine wpQuiet_nil ?_;intro w' hC;simp only [jS,jz] at hC;go_split_ands
   go_wp2_with fail
   go_meet
   case rel=>exact ⟨by rw [iq.out],by assumption⟩
 case rest =>
 obtain ⟨rfl,qO⟩:=hcut
 replace e1:=ay qO e1
 replace e3:=ay qO e3
 replace e4:=ay qO e4
 replace x0:=ay qO x0
 replace x1:=ay qO x1
 replace x2:=ay qO x2
 have oG:=Lib.hid (Tc.out.below qO)
 have XF:=Ta.out.below qO (by have:=hB.size;omega)
 have mh:=Lib.hid XF
 have pL:=Lib.hid (bt Js.out qO)
 generalize jq:eZ p.core.cells x.key=bv
 go_upto_block 2 with fail
 go_cut [] (fun wy=>(∃K',St K w g S2 K' ⟨⟨p.core.kind,p.core.on,p.core.broken,iH p.core.cells x.key x.val,p.core.count⟩,p.af⟩ wy/\ ¬K' (w.heap.size+1)/\ai wy (w.heap.size+1) 39 aC)/\cG p (keepD p.core x)=(⟨⟨p.core.kind,p.core.on,p.core.broken,iH p.core.cells x.key x.val,bU p.core.count⟩,p.af⟩,rep 0 (iH p.core.cells x.key x.val).length 0 0))
 case first =>
  by_cases hg:x.method=gy
  ·have hg':x.method.toList=[71,101,116]:=by rw [hg,ByteArray.toList_eq];rfl
   have HG:=Lib.hid hg
   clear hg
   cases bv with
   | true =>
    have iq:=Lib.hid jq
    clear jq
    have hkn:k<n:=by have:=(nE.1 iq.out).1;rw [lJ.out] at this;have:=HN.out;omega
    obtain ⟨b,o,bS,hKb,hbg,eS,a0,a1,hfz⟩:=Ce.out k hkn wc pL.out
    rw [uu.out] at bS
    simp only [Value.slice.injEq] at bS
    obtain ⟨rfl, -, -⟩:=bS
    have hi0:(0:Int)<=(k:Int):=by omega
    have hi1:(k:Int)<(n:Int):=by omega
    have gm:=mh.out;obtain ⟨mJ,mK,mL,mM,mN,mO⟩:=lY (w:=wc) (b:=w.heap.size+1) gm
    go_wp2
    obtain ⟨q1,q2⟩:=iN oG.out H.out mh.out (by omega) hkr (rep 0 (nth p.core.cells k).val 0 0)
    have e:cG p (keepD p.core x)=(p,rep 0 (nth p.core.cells k).val 0 0):=by unfold cG keepD;rw [if_neg nM.out,if_pos HG.out,if_pos iq.out,lJ.out]
    rw [e]
    refine bodyPost_ret (iJ rfl _ _ _ rfl q1 Tryz.underlying39 rfl (by kernel_rfl)) rfl q2
   | false =>
    have iq:=Lib.hid jq
    clear jq
    have gm:=mh.out;obtain ⟨mJ,mK,mL,mM,mN,mO⟩:=lY (w:=wc) (b:=w.heap.size+1) gm
    go_wp2
    obtain ⟨q1,q2⟩:=iN oG.out H.out mh.out (by omega) hkr (rep 4 0 0 0)
    have e:cG p (keepD p.core x)=(p,rep 4 0 0 0):=by unfold cG keepD;rw [if_neg nM.out,if_pos HG.out,if_neg (by rw [iq.out];simp)]
    rw [e]
    refine bodyPost_ret (iJ rfl _ _ _ rfl q1 Tryz.underlying39 rfl (by kernel_rfl)) rfl q2
  ·have hg':(x.method.toList==[71,101,116])=false:=by
    have: ¬x.method.toList=[71,101,116]:=fun h=>hg (toList_inj (by rw [h,ByteArray.toList_eq];rfl))
    simpa using this
   have HG:=Lib.hid hg
   clear hg
   cases bv with
   | true =>
    have iq:=Lib.hid jq
    clear jq
    have hkn:k<n:=by have:=(nE.1 iq.out).1;rw [lJ.out] at this;have:=HN.out;omega
    obtain ⟨b,o,bS,hKb,hbg,eS,a0,a1,hfz⟩:=Ce.out k hkn wc pL.out
    rw [uu.out] at bS
    simp only [Value.slice.injEq] at bS
    obtain ⟨rfl, -, -⟩:=bS
    have hi0:(0:Int)<=(k:Int):=by omega
    have hi1:(k:Int)<(n:Int):=by omega
    go_wp2
    refine Pu 9 mo (by kernel_rfl) fun wd hwd cD=> ?_
    replace e3:=ay cD e3
    replace x2:=ay cD x2
    replace a1:=ay cD a1
    have hfz': ∀i,wd.frozen? ⟨b,i,none⟩=false:=fun i=>(Dh (w:=wc) (w':=wd) (p:=⟨b,i,none⟩) (by rw [hwd])).trans (hfz i)
    have Jx:=Lib.hid (oG.out.below cD)
    have S9:=Lib.hid (mh.out.below cD (by have:=oG.out.fr.size;have:=mh.out.lt;omega))
    simp only [List.take_succ_cons,List.take_zero,List.drop_succ_cons,List.drop_zero]
    (repeat still_step)
    refine wpStill_nil ?_
    go_wp2_with fail
    go_meet
    case rel =>
     have hkc:k<p.core.cells.length:=by rw [<-HN.out];exact hkn
     have P2:=Jx.out.pb.abv e3 hkc HX.out.val
     have e:p.core.cells.set k ⟨(nth p.core.cells k).key,x.val⟩=iH p.core.cells x.key x.val:=by
      unfold iH
      have:=(nE.1 iq.out).2
      rw [lJ.out] at this
      rw [if_pos iq.out,lJ.out,this]
     rw [e] at P2
     exact ⟨⟨K,Jx.out.put (a:=⟨b,o+k*2+1,none⟩) hKb P2,hkr,S9.out.far (by intro e2;exact hkr (by have e2:w.heap.size+1=b:=e2;rw [e2];exact hKb)) _⟩,by unfold cG keepD;rw [if_neg nM.out,if_neg HG.out,if_neg (fun h=>by have h1:=h.1;rw [iq.out] at h1;cases h1)]⟩
   | false =>
    have iq:=Lib.hid jq
    clear jq
    by_cases h4:4<=n
    ·have h4':(4:Int)<=(n:Int):=by omega
     have gm:=mh.out;obtain ⟨mJ,mK,mL,mM,mN,mO⟩:=lY (w:=wc) (b:=w.heap.size+1) gm
     go_wp2
     obtain ⟨q1,q2⟩:=iN oG.out H.out mh.out (by omega) hkr (rep 5 0 0 0)
     have e:cG p (keepD p.core x)=(p,rep 5 0 0 0):=by unfold cG keepD;rw [if_neg nM.out,if_neg HG.out,if_pos ⟨iq.out,by rw [<-HN.out];exact h4⟩]
     rw [e]
     refine bodyPost_ret (iJ rfl _ _ _ rfl q1 Tryz.underlying39 rfl (by kernel_rfl)) rfl q2
    ·have h4': ¬((4:Int)<=(n:Int)):=by omega
     go_wp2
     cases a with
     | none =>
      obtain ⟨ti,aQ,hz,hsz,hby⟩:=info_parts (P:=Tryz.prog) (e:=118) (z:= .agg #[.string ⟨#[]⟩,.int .i64 0]) (size:=2) (bytes:=24) (by kernel_rfl)
      have hc0:cap=0:=by
       obtain ⟨a',cap',e,_,_,h3,_⟩:=qw.out
       rw [uu.out] at e
       simp only [Value.slice.injEq] at e
       rw [e.2.2];exact h3 e.1.symm
      have hn0:n=0:=by omega
      have hk0:k=0:=by omega
      have hnil:p.core.cells=[]:=List.eq_nil_of_length_eq_zero (by rw [<-HN.out];exact hn0)
      have Jv:=Lib.hid hnil
      clear hnil
      subst hc0 hn0 hk0
      refine EL (fun W=>Below wc.heap.size wc W) 24 (by kernel_rfl) (by go_grown) (fun bS=> ?_)
      refine ck (i:=0) (v:= ?_) rfl (by kernel_rfl) (fun _ _ _ h=>h) (Or.inl ⟨by rfl,?_⟩) bS ?_
      rotate_left
      ·intro W hW
       have cq:=ay hW e3;have cM:=ay hW x1;have cN:=ay hW x2
       go_simp
       try with_reducible rfl
      try simp only [Act.put,sI]
      refine ck (i:=1) (v:= ?_) rfl (by kernel_rfl) (fun _ _ _ h=>h) (Or.inl ⟨by rfl,?_⟩) bS ?_
      rotate_left
      ·intro W hW
       have cq:=ay hW e3;have cM:=ay hW x1;have cN:=ay hW x2
       go_simp
       try with_reducible rfl
      try simp only [Act.put,sI]
      refine ck (i:=2) (v:= ?_) rfl (by kernel_rfl) (fun _ _ _ h=>h) (Or.inl ⟨by rfl,?_⟩) bS ?_
      rotate_left
      ·intro W hW
       have cq:=ay hW e3;have cM:=ay hW x1;have cN:=ay hW x2
       go_simp
       try with_reducible rfl
      try simp only [Act.put,sI]
      refine ck (i:=3) (v:= ?_) rfl (by kernel_rfl) (fun _ _ _ h=>h) (Or.inl ⟨by rfl,?_⟩) bS ?_
      rotate_left
      ·intro W hW
       have cq:=ay hW e3;have cM:=ay hW x1;have cN:=ay hW x2
       go_simp
       try with_reducible rfl
      try simp only [Act.put,sI]
      refine ck (i:=4) (v:= ?_) rfl (by kernel_rfl) (fun _ _ _ h=>h) (Or.inl ⟨by rfl,?_⟩) bS ?_
      rotate_left
      ·intro W hW
       have cq:=ay hW e3;have cM:=ay hW x1;have cN:=ay hW x2
       go_simp
       try with_reducible rfl
      try simp only [Act.put,sI]
      refine ck (i:=5) (v:= ?_) rfl (by kernel_rfl) (fun _ _ _ h=>h) (Or.inl ⟨by rfl,?_⟩) bS ?_
      rotate_left
      ·intro W hW
       have cq:=ay hW e3;have cM:=ay hW x1;have cN:=ay hW x2
       go_simp
       try with_reducible rfl
      try simp only [Act.put,sI]
      refine ck (i:=6) (v:= ?_) rfl (by kernel_rfl) (fun _ _ _ h=>h) (Or.inl ⟨by rfl,?_⟩) bS ?_
      rotate_left
      ·intro W hW
       have cq:=ay hW e3;have cM:=ay hW x1;have cN:=ay hW x2
       go_simp
       try with_reducible rfl
      try simp only [Act.put,sI]
      refine ck (i:=8) (v:= ?_) rfl (by kernel_rfl) (fun _ _ _ h=>h) (Or.inl ⟨by rfl,?_⟩) bS ?_
      rotate_left
      ·intro W hW
       have cq:=ay hW e3;have cM:=ay hW x1;have cN:=ay hW x2
       go_simp
       try with_reducible rfl
      try simp only [Act.put,sI]
      refine ck (i:=9) (v:= ?_) rfl (by kernel_rfl) (fun _ _ _ h=>h) (Or.inl ⟨by rfl,?_⟩) bS ?_
      rotate_left
      ·intro W hW
       have cq:=ay hW e3;have cM:=ay hW x1;have cN:=ay hW x2
       go_simp
       try with_reducible rfl
      try simp only [Act.put,sI]
      refine ck (i:=10) (v:= ?_) rfl (by kernel_rfl) (fun _ _ _ h=>h) (Or.inl ⟨by rfl,?_⟩) bS ?_
      rotate_left
      ·intro W hW
       have cq:=ay hW e3;have cM:=ay hW x1;have cN:=ay hW x2
       go_simp
       try with_reducible rfl
      try simp only [Act.put,sI]
      refine ck (i:=11) (v:= ?_) rfl (by kernel_rfl) (fun _ _ _ h=>h) (Or.inl ⟨by rfl,?_⟩) bS ?_
      rotate_left
      ·intro W hW
       have cq:=ay hW e3;have cM:=ay hW x1;have cN:=ay hW x2
       go_simp
       try with_reducible rfl
      try simp only [Act.put,sI]
      refine ck (i:=12) (v:= ?_) rfl (by kernel_rfl) (fun _ _ _ h=>h) (Or.inl ⟨by rfl,?_⟩) bS ?_
      rotate_left
      ·intro W hW
       have cq:=ay hW e3;have cM:=ay hW x1;have cN:=ay hW x2
       go_simp
       try with_reducible rfl
      try simp only [Act.put,sI]
      refine ck (i:=15) (v:= ?_) rfl (by kernel_rfl) (fun _ _ _ h=>h) (Or.inl ⟨by rfl,?_⟩) bS ?_
      rotate_left
      ·intro W hW
       have cq:=ay hW e3;have cM:=ay hW x1;have cN:=ay hW x2
       go_simp
       try with_reducible rfl
      try simp only [Act.put,sI]
      refine ck (i:=16) (v:= ?_) rfl (by kernel_rfl) (fun _ _ _ h=>h) (Or.inl ⟨by rfl,?_⟩) bS ?_
      rotate_left
      ·intro W hW
       have cq:=ay hW e3;have cM:=ay hW x1;have cN:=ay hW x2
       go_simp
       try with_reducible rfl
      try simp only [Act.put,sI]
      refine ck (i:=17) (v:= ?_) rfl (by kernel_rfl) (fun _ _ _ h=>h) (Or.inl ⟨by rfl,?_⟩) bS ?_
      rotate_left
      ·intro W hW
       have cq:=ay hW e3;have cM:=ay hW x1;have cN:=ay hW x2
       go_simp
       try with_reducible rfl
      try simp only [Act.put,sI]
      refine ck (i:=18) (v:= ?_) rfl (by kernel_rfl) (fun _ _ _ h=>h) (Or.inl ⟨by rfl,?_⟩) bS ?_
      rotate_left
      ·intro W hW
       have cq:=ay hW e3;have cM:=ay hW x1;have cN:=ay hW x2
       go_simp
       try with_reducible rfl
      try simp only [Act.put,sI]
      refine ck (i:=19) (v:= ?_) rfl (by kernel_rfl) (fun _ _ _ h=>h) (Or.inl ⟨by rfl,?_⟩) bS ?_
      rotate_left
      ·intro W hW
       have cq:=ay hW e3;have cM:=ay hW x1;have cN:=ay hW x2
       go_simp
       try with_reducible rfl
      try simp only [Act.put,sI]
      refine ck (i:=20) (v:= ?_) rfl (by kernel_rfl) (fun _ _ _ h=>h) (Or.inl ⟨by rfl,?_⟩) bS ?_
      rotate_left
      ·intro W hW
       have cq:=ay hW e3;have cM:=ay hW x1;have cN:=ay hW x2
       go_simp
       try with_reducible rfl
      try simp only [Act.put,sI]
      refine E7 (i:=7) (k:=13) rfl rfl (by kernel_rfl) ?_ ?_
      ·intro K' hK
       refine Et rfl (.const (.slice none 0 0)) (.tmp 76) 32 rfl 118 ti Tryz.underlying32 aQ none 0 0 rfl (Nat.le_refl _) rfl ?_
       refine hK _ _ (fun _=>by go_grown) (fun hS=> ?_)
       clear hK K' hS
       try simp only [Act.put,sI]
       refine gI (i:=13) rfl (by kernel_rfl) ?_
       intro K' hK
       go_simp
       refine hK _ _ (fun _=>by go_grown) (fun hS=> ?_)
       clear hK K' hS
       try simp only [Act.put,sI]
       refine gI (i:=14) rfl (by kernel_rfl) ?_
       intro K' hK
       refine mP (w0:=wc) rfl (.tmp 77) (.tmp 83) 32 rfl 118 ti _ 2 24 Tryz.underlying32 aQ hz hsz hby rfl (by decide) (.slice none 0 0) 0 [] rfl (World.ownsRow_nil _ _ _ _) _ 1 1 [.string x.key,.int .i64 x.val] rfl rfl (by first|exact pV|(intro j u hj;exact ay (by go_grown) (pV j u hj))|(intro j u hj;simpa using pV (w:=wc) j u hj)) (by intro u hu;simp at hu;rcases hu with rfl|rfl<;>rfl) (by unfold maxLen;omega) (by omega) (by go_grown) ?_
       intro v2 W2 lR gj nW
       obtain ⟨a3,uP,rfl⟩:=y6 lR
       refine hK _ _ (fun _=>gj) (fun hS=> ?_)
       clear hK K' hS
       try simp only [Act.put,sI]
       refine gI (i:=21) rfl (by kernel_rfl) ?_
       intro K' hK
       refine Et rfl (.tmp 84) (.tmp 90) 32 rfl 118 ti Tryz.underlying32 aQ a3 _ uP rfl (O0 lR) rfl ?_
       refine hK _ _ (fun _=>gj) (fun hS=> ?_)
       clear hK K' hS
       try simp only [Act.put,sI]
       have zY:=ay gj e3;have f33:=HF.out W2 (bt pL.out gj)
       refine ck (i:=22) (v:= ?_) rfl (by kernel_rfl) (fun _ _ _ h=>h) (Or.inl ⟨by rfl,?_⟩) gj ?_
       rotate_left
       ·intro W hW
        have cq:=ay hW e3;have cM:=ay hW x1;have cN:=ay hW x2
        go_simp
        try with_reducible rfl
       try simp only [Act.put,sI]
       refine ck (i:=23) (v:= ?_) rfl (by kernel_rfl) (fun _ _ _ h=>h) (Or.inl ⟨by rfl,?_⟩) gj ?_
       rotate_left
       ·intro W hW
        have cq:=ay hW e3;have cM:=ay hW x1;have cN:=ay hW x2
        go_simp
        try with_reducible rfl
       try simp only [Act.put,sI]
       refine gI (i:=24) rfl (by kernel_rfl) ?_
       intro K' hK
       go_simp
       refine hK _ _ (fun h=>absurd rfl h) (fun _=> ?_)
       clear hK K'
       refine uK (by kernel_rfl) ?_ _
       go_wp2_with fail
       go_meet
       case rel=>exact ⟨yU oG.out HX.out HN.out lJ.out iq.out gj lR (by omega) (by rw [Jv.out];simp [dc,eY]) mh.out hkr,by unfold cG keepD;rw [if_neg nM.out,if_neg HG.out,if_neg (fun h=>by have h1:=h.2;have h2:=HN.out;omega)]⟩
      ·intro K' hK
       go_simp
       refine hK _ _ (fun _=>by go_grown) (fun hS=> ?_)
       clear hK K' hS
       try simp only [Act.put,sI]
       refine gI (i:=7) rfl (by kernel_rfl) ?_
       intro K' hK
       refine Et rfl (.const (.slice none 0 0)) (.tmp 76) 32 rfl 118 ti Tryz.underlying32 aQ none 0 0 rfl (Nat.le_refl _) rfl ?_
       refine hK _ _ (fun _=>by go_grown) (fun hS=> ?_)
       clear hK K' hS
       try simp only [Act.put,sI]
       refine gI (i:=14) rfl (by kernel_rfl) ?_
       intro K' hK
       refine mP (w0:=wc) rfl (.tmp 77) (.tmp 83) 32 rfl 118 ti _ 2 24 Tryz.underlying32 aQ hz hsz hby rfl (by decide) (.slice none 0 0) 0 [] rfl (World.ownsRow_nil _ _ _ _) _ 1 1 [.string x.key,.int .i64 x.val] rfl rfl (by first|exact pV|(intro j u hj;exact ay (by go_grown) (pV j u hj))|(intro j u hj;simpa using pV (w:=wc) j u hj)) (by intro u hu;simp at hu;rcases hu with rfl|rfl<;>rfl) (by unfold maxLen;omega) (by omega) (by go_grown) ?_
       intro v2 W2 lR gj nW
       obtain ⟨a3,uP,rfl⟩:=y6 lR
       refine hK _ _ (fun _=>gj) (fun hS=> ?_)
       clear hK K' hS
       try simp only [Act.put,sI]
       refine gI (i:=21) rfl (by kernel_rfl) ?_
       intro K' hK
       refine Et rfl (.tmp 84) (.tmp 90) 32 rfl 118 ti Tryz.underlying32 aQ a3 _ uP rfl (O0 lR) rfl ?_
       refine hK _ _ (fun _=>gj) (fun hS=> ?_)
       clear hK K' hS
       try simp only [Act.put,sI]
       have zY:=ay gj e3;have f33:=HF.out W2 (bt pL.out gj)
       refine ck (i:=22) (v:= ?_) rfl (by kernel_rfl) (fun _ _ _ h=>h) (Or.inl ⟨by rfl,?_⟩) gj ?_
       rotate_left
       ·intro W hW
        have cq:=ay hW e3;have cM:=ay hW x1;have cN:=ay hW x2
        go_simp
        try with_reducible rfl
       try simp only [Act.put,sI]
       refine ck (i:=23) (v:= ?_) rfl (by kernel_rfl) (fun _ _ _ h=>h) (Or.inl ⟨by rfl,?_⟩) gj ?_
       rotate_left
       ·intro W hW
        have cq:=ay hW e3;have cM:=ay hW x1;have cN:=ay hW x2
        go_simp
        try with_reducible rfl
       try simp only [Act.put,sI]
       refine gI (i:=24) rfl (by kernel_rfl) ?_
       intro K' hK
       go_simp
       refine hK _ _ (fun h=>absurd rfl h) (fun _=> ?_)
       clear hK K'
       refine uK (by kernel_rfl) ?_ _
       go_wp2_with fail
       go_meet
       case rel=>exact ⟨yU oG.out HX.out HN.out lJ.out iq.out gj lR (by omega) (by rw [Jv.out];simp [dc,eY]) mh.out hkr,by unfold cG keepD;rw [if_neg nM.out,if_neg HG.out,if_neg (fun h=>by have h1:=h.2;have h2:=HN.out;omega)]⟩
     | some ad =>
      obtain ⟨ti,aQ,hz,hsz,hby⟩:=info_parts (P:=Tryz.prog) (e:=118) (z:= .agg #[.string ⟨#[]⟩,.int .i64 0]) (size:=2) (bytes:=24) (by kernel_rfl)
      have hi0:(0:Int)<=(k:Int):=by omega
      have hi1:(k:Int)<=(n:Int):=by omega
      have hi2:(k:Int)<=(cap:Int):=by omega
      have hi3:(n:Int)<=(cap:Int):=by omega
      have hnn:n=(dc p.core.cells).length:=by rw [vY];exact HN.out
      have Cf:=Lib.hid (fun (W:World) (hb:Below wc.heap.size wc W)=>show ∀j u,(eY ((dc p.core.cells).take k))[j]? =some u->W.cell? (ad.add j)=some u from fun j u hj=>by
       have hr:=qw.out
       rw [uu.out] at hr
       exact ay (bt pL.out hb) (hr.W6 k j u hj))
      have Jt:=Lib.hid (fun (W:World) (hb:Below wc.heap.size wc W)=>show ∀j u,(eY ((dc p.core.cells).drop k))[j]? =some u->W.cell? ((ad.add (k*2)).add j)=some u from fun j u hj=>by
       have hr:=qw.out
       rw [uu.out] at hr
       have:=ay (bt pL.out hb) (hr.flat k j u hj)
       rw [Uw]
       exact this)
      have Cg:=Lib.hid (show (eY ((dc p.core.cells).take k)).length=k*2 by rw [LS,List.length_take, <-hnn];omega)
      have zx:=Lib.hid (show (eY ((dc p.core.cells).drop k)).length=(n-k)*2 by rw [LS,List.length_drop, <-hnn])
      clear hnn
      have e3a:=(fun o=>ay ((Below.refl wc.heap.size wc).alloc (Nat.le_refl _) o) e3)
      have x1a:=(fun o=>ay ((Below.refl wc.heap.size wc).alloc (Nat.le_refl _) o) x1)
      have x2a:=(fun o=>ay ((Below.refl wc.heap.size wc).alloc (Nat.le_refl _) o) x2)
      by_cases tK:cap=k
      ·have Ju:=Lib.hid (fun (W:World)=>show ∀j u,(eY ((dc p.core.cells).drop k))[j]? =some u->W.cell? (ad.add j)=some u from fun j u hj=>by
        have:=(List.getElem?_eq_some_iff.1 hj).1
        rw [zx.out] at this
        omega)
       have aiT:(cap=k)=True:=eq_true tK
       have HCK:=Lib.hid tK
       clear tK
       refine EL (fun W=>Below wc.heap.size wc W) 24 (by kernel_rfl) (by go_grown) (fun bS=> ?_)
       refine ck (i:=0) (v:= ?_) rfl (by kernel_rfl) (fun _ _ _ h=>h) (Or.inl ⟨by rfl,?_⟩) bS ?_
       rotate_left
       ·intro W hW
        have cq:=ay hW e3;have cM:=ay hW x1;have cN:=ay hW x2
        go_simp
        try with_reducible rfl
       try simp only [Act.put,sI]
       refine ck (i:=1) (v:= ?_) rfl (by kernel_rfl) (fun _ _ _ h=>h) (Or.inl ⟨by rfl,?_⟩) bS ?_
       rotate_left
       ·intro W hW
        have cq:=ay hW e3;have cM:=ay hW x1;have cN:=ay hW x2
        go_simp
        try with_reducible rfl
       try simp only [Act.put,sI]
       refine ck (i:=2) (v:= ?_) rfl (by kernel_rfl) (fun _ _ _ h=>h) (Or.inl ⟨by rfl,?_⟩) bS ?_
       rotate_left
       ·intro W hW
        have cq:=ay hW e3;have cM:=ay hW x1;have cN:=ay hW x2
        go_simp
        try with_reducible rfl
       try simp only [Act.put,sI]
       refine ck (i:=3) (v:= ?_) rfl (by kernel_rfl) (fun _ _ _ h=>h) (Or.inl ⟨by rfl,?_⟩) bS ?_
       rotate_left
       ·intro W hW
        have cq:=ay hW e3;have cM:=ay hW x1;have cN:=ay hW x2
        go_simp
        try with_reducible rfl
       try simp only [Act.put,sI]
       refine ck (i:=4) (v:= ?_) rfl (by kernel_rfl) (fun _ _ _ h=>h) (Or.inl ⟨by rfl,?_⟩) bS ?_
       rotate_left
       ·intro W hW
        have cq:=ay hW e3;have cM:=ay hW x1;have cN:=ay hW x2
        go_simp
        try with_reducible rfl
       try simp only [Act.put,sI]
       refine ck (i:=5) (v:= ?_) rfl (by kernel_rfl) (fun _ _ _ h=>h) (Or.inl ⟨by rfl,?_⟩) bS ?_
       rotate_left
       ·intro W hW
        have cq:=ay hW e3;have cM:=ay hW x1;have cN:=ay hW x2
        go_simp
        try with_reducible rfl
       try simp only [Act.put,sI]
       refine ck (i:=6) (v:= ?_) rfl (by kernel_rfl) (fun _ _ _ h=>h) (Or.inl ⟨by rfl,?_⟩) bS ?_
       rotate_left
       ·intro W hW
        have cq:=ay hW e3;have cM:=ay hW x1;have cN:=ay hW x2
        go_simp
        try with_reducible rfl
       try simp only [Act.put,sI]
       refine ck (i:=8) (v:= ?_) rfl (by kernel_rfl) (fun _ _ _ h=>h) (Or.inl ⟨by rfl,?_⟩) bS ?_
       rotate_left
       ·intro W hW
        have cq:=ay hW e3;have cM:=ay hW x1;have cN:=ay hW x2
        go_simp
        try with_reducible rfl
       try simp only [Act.put,sI]
       refine ck (i:=9) (v:= ?_) rfl (by kernel_rfl) (fun _ _ _ h=>h) (Or.inl ⟨by rfl,?_⟩) bS ?_
       rotate_left
       ·intro W hW
        have cq:=ay hW e3;have cM:=ay hW x1;have cN:=ay hW x2
        go_simp
        try with_reducible rfl
       try simp only [Act.put,sI]
       refine ck (i:=10) (v:= ?_) rfl (by kernel_rfl) (fun _ _ _ h=>h) (Or.inl ⟨by rfl,?_⟩) bS ?_
       rotate_left
       ·intro W hW
        have cq:=ay hW e3;have cM:=ay hW x1;have cN:=ay hW x2
        go_simp
        try with_reducible rfl
       try simp only [Act.put,sI]
       refine ck (i:=11) (v:= ?_) rfl (by kernel_rfl) (fun _ _ _ h=>h) (Or.inl ⟨by rfl,?_⟩) bS ?_
       rotate_left
       ·intro W hW
        have cq:=ay hW e3;have cM:=ay hW x1;have cN:=ay hW x2
        go_simp
        try with_reducible rfl
       try simp only [Act.put,sI]
       refine ck (i:=12) (v:= ?_) rfl (by kernel_rfl) (fun _ _ _ h=>h) (Or.inl ⟨by rfl,?_⟩) bS ?_
       rotate_left
       ·intro W hW
        have cq:=ay hW e3;have cM:=ay hW x1;have cN:=ay hW x2
        go_simp
        try with_reducible rfl
       try simp only [Act.put,sI]
       refine ck (i:=15) (v:= ?_) rfl (by kernel_rfl) (fun _ _ _ h=>h) (Or.inl ⟨by rfl,?_⟩) bS ?_
       rotate_left
       ·intro W hW
        have cq:=ay hW e3;have cM:=ay hW x1;have cN:=ay hW x2
        go_simp
        try with_reducible rfl
       try simp only [Act.put,sI]
       refine ck (i:=16) (v:= ?_) rfl (by kernel_rfl) (fun _ _ _ h=>h) (Or.inl ⟨by rfl,?_⟩) bS ?_
       rotate_left
       ·intro W hW
        have cq:=ay hW e3;have cM:=ay hW x1;have cN:=ay hW x2
        go_simp
        try with_reducible rfl
       try simp only [Act.put,sI]
       refine ck (i:=17) (v:= ?_) rfl (by kernel_rfl) (fun _ _ _ h=>h) (Or.inl ⟨by rfl,?_⟩) bS ?_
       rotate_left
       ·intro W hW
        have cq:=ay hW e3;have cM:=ay hW x1;have cN:=ay hW x2
        go_simp
        try with_reducible rfl
       try simp only [Act.put,sI]
       refine ck (i:=18) (v:= ?_) rfl (by kernel_rfl) (fun _ _ _ h=>h) (Or.inl ⟨by rfl,?_⟩) bS ?_
       rotate_left
       ·intro W hW
        have cq:=ay hW e3;have cM:=ay hW x1;have cN:=ay hW x2
        go_simp
        try with_reducible rfl
       try simp only [Act.put,sI]
       refine ck (i:=19) (v:= ?_) rfl (by kernel_rfl) (fun _ _ _ h=>h) (Or.inl ⟨by rfl,?_⟩) bS ?_
       rotate_left
       ·intro W hW
        have cq:=ay hW e3;have cM:=ay hW x1;have cN:=ay hW x2
        go_simp
        try with_reducible rfl
       try simp only [Act.put,sI]
       refine ck (i:=20) (v:= ?_) rfl (by kernel_rfl) (fun _ _ _ h=>h) (Or.inl ⟨by rfl,?_⟩) bS ?_
       rotate_left
       ·intro W hW
        have cq:=ay hW e3;have cM:=ay hW x1;have cN:=ay hW x2
        go_simp
        try with_reducible rfl
       try simp only [Act.put,sI]
       refine E7 (i:=7) (k:=13) rfl rfl (by kernel_rfl) ?_ ?_
       ·intro K' hK
        refine mP (w0:=wc) rfl (.const (.slice none 0 0)) (.tmp 76) 32 rfl 118 ti _ 2 24 Tryz.underlying32 aQ hz hsz hby rfl (by decide) (.slice none 0 0) 0 [] rfl (World.ownsRow_nil _ _ _ _) ad k cap (eY ((dc p.core.cells).take k)) rfl Cg.out (Cf.out _ (by go_grown)) (tB _) (by unfold maxLen;omega) (by omega) (by go_grown) ?_
        intro v1 W1 vA gh hK1
        refine hK _ _ (fun _=>gh) (fun hS=> ?_)
        clear hK K' hS
        try simp only [Act.put,sI]
        refine gI (i:=13) rfl (by kernel_rfl) ?_
        intro K' hK
        go_simp
        refine hK _ _ (fun _=>bt gh (by go_grown)) (fun hS=> ?_)
        clear hK K' hS
        try simp only [Act.put,sI]
        refine gI (i:=14) rfl (by kernel_rfl) ?_
        intro K' hK
        refine mP (w0:=wc) rfl (.tmp 77) (.tmp 83) 32 rfl 118 ti _ 2 24 Tryz.underlying32 aQ hz hsz hby rfl (by decide) _ _ _ rfl (OY vA (by go_grown)) _ 1 1 [.string x.key,.int .i64 x.val] rfl rfl (pV) (by intro u hu;simp at hu;rcases hu with rfl|rfl<;>rfl) (by unfold maxLen;omega) (by omega) (bt gh (by go_grown)) ?_
        intro v2 W2 lR gj nW
        refine hK _ _ (fun _=>gj) (fun hS=> ?_)
        clear hK K' hS
        try simp only [Act.put,sI]
        refine gI (i:=21) rfl (by kernel_rfl) ?_
        intro K' hK
        refine mP (w0:=wc) rfl (.tmp 84) (.tmp 90) 32 rfl 118 ti _ 2 24 Tryz.underlying32 aQ hz hsz hby rfl (by decide) _ _ _ rfl lR ad (n-k) (cap-k) (eY ((dc p.core.cells).drop k)) rfl zx.out (Ju.out _) (tB _) (by unfold maxLen;omega) (by omega) gj ?_
        intro v3 W3 oV gL Gj
        obtain ⟨a3,uP,rfl⟩:=y6 oV
        refine hK _ _ (fun _=>gL) (fun hS=> ?_)
        clear hK K' hS
        try simp only [Act.put,sI]
        have zY:=ay gL e3;have f33:=HF.out W3 (bt pL.out gL)
        refine ck (i:=22) (v:= ?_) rfl (by kernel_rfl) (fun _ _ _ h=>h) (Or.inl ⟨by rfl,?_⟩) gL ?_
        rotate_left
        ·intro W hW
         have cq:=ay hW e3
         go_simp
         try with_reducible rfl
        try simp only [Act.put,sI]
        refine ck (i:=23) (v:= ?_) rfl (by kernel_rfl) (fun _ _ _ h=>h) (Or.inl ⟨by rfl,?_⟩) gL ?_
        rotate_left
        ·intro W hW
         have cq:=ay hW e3
         go_simp
         try with_reducible rfl
        try simp only [Act.put,sI]
        refine gI (i:=24) rfl (by kernel_rfl) ?_
        intro K' hK
        go_simp
        refine hK _ _ (fun h=>absurd rfl h) (fun _=> ?_)
        clear hK K'
        refine uK (by kernel_rfl) ?_ _
        go_wp2_with fail
        go_meet
        case rel=>exact ⟨yU oG.out HX.out HN.out lJ.out iq.out gL oV (by omega) (by simp) mh.out hkr,by unfold cG keepD;rw [if_neg nM.out,if_neg HG.out,if_neg (fun h=>by have h1:=h.2;have h2:=HN.out;omega)]⟩
       ·intro K' hK
        go_simp
        refine hK _ _ (fun _=>by go_grown) (fun hS=> ?_)
        clear hK K' hS
        try simp only [Act.put,sI]
        refine gI (i:=7) rfl (by kernel_rfl) ?_
        intro K' hK
        refine mP (w0:=wc) rfl (.const (.slice none 0 0)) (.tmp 76) 32 rfl 118 ti _ 2 24 Tryz.underlying32 aQ hz hsz hby rfl (by decide) (.slice none 0 0) 0 [] rfl (World.ownsRow_nil _ _ _ _) ad k cap (eY ((dc p.core.cells).take k)) rfl Cg.out (Cf.out _ (by go_grown)) (tB _) (by unfold maxLen;omega) (by omega) (by go_grown) ?_
        intro v1 W1 vA gh hK1
        refine hK _ _ (fun _=>gh) (fun hS=> ?_)
        clear hK K' hS
        try simp only [Act.put,sI]
        refine gI (i:=14) rfl (by kernel_rfl) ?_
        intro K' hK
        refine mP (w0:=wc) rfl (.tmp 77) (.tmp 83) 32 rfl 118 ti _ 2 24 Tryz.underlying32 aQ hz hsz hby rfl (by decide) _ _ _ rfl (vA) _ 1 1 [.string x.key,.int .i64 x.val] rfl rfl (fun j u hj=>ay (hK1 rfl) (pV j u hj)) (by intro u hu;simp at hu;rcases hu with rfl|rfl<;>rfl) (by unfold maxLen;omega) (by omega) (gh) ?_
        intro v2 W2 lR gj nW
        refine hK _ _ (fun _=>gj) (fun hS=> ?_)
        clear hK K' hS
        try simp only [Act.put,sI]
        refine gI (i:=21) rfl (by kernel_rfl) ?_
        intro K' hK
        refine mP (w0:=wc) rfl (.tmp 84) (.tmp 90) 32 rfl 118 ti _ 2 24 Tryz.underlying32 aQ hz hsz hby rfl (by decide) _ _ _ rfl lR ad (n-k) (cap-k) (eY ((dc p.core.cells).drop k)) rfl zx.out (Ju.out _) (tB _) (by unfold maxLen;omega) (by omega) gj ?_
        intro v3 W3 oV gL Gj
        obtain ⟨a3,uP,rfl⟩:=y6 oV
        refine hK _ _ (fun _=>gL) (fun hS=> ?_)
        clear hK K' hS
        try simp only [Act.put,sI]
        have zY:=ay gL e3;have f33:=HF.out W3 (bt pL.out gL)
        refine ck (i:=22) (v:= ?_) rfl (by kernel_rfl) (fun _ _ _ h=>h) (Or.inl ⟨by rfl,?_⟩) gL ?_
        rotate_left
        ·intro W hW
         have cq:=ay hW e3
         go_simp
         try with_reducible rfl
        try simp only [Act.put,sI]
        refine ck (i:=23) (v:= ?_) rfl (by kernel_rfl) (fun _ _ _ h=>h) (Or.inl ⟨by rfl,?_⟩) gL ?_
        rotate_left
        ·intro W hW
         have cq:=ay hW e3
         go_simp
         try with_reducible rfl
        try simp only [Act.put,sI]
        refine gI (i:=24) rfl (by kernel_rfl) ?_
        intro K' hK
        go_simp
        refine hK _ _ (fun h=>absurd rfl h) (fun _=> ?_)
        clear hK K'
        refine uK (by kernel_rfl) ?_ _
        go_wp2_with fail
        go_meet
        case rel=>exact ⟨yU oG.out HX.out HN.out lJ.out iq.out gL oV (by omega) (by simp) mh.out hkr,by unfold cG keepD;rw [if_neg nM.out,if_neg HG.out,if_neg (fun h=>by have h1:=h.2;have h2:=HN.out;omega)]⟩
      ·have aiS:(cap=k)=False:=eq_false tK
       refine EL (fun W=>Below wc.heap.size wc W) 24 (by kernel_rfl) (by go_grown) (fun bS=> ?_)
       refine ck (i:=0) (v:= ?_) rfl (by kernel_rfl) (fun _ _ _ h=>h) (Or.inl ⟨by rfl,?_⟩) bS ?_
       rotate_left
       ·intro W hW
        have cq:=ay hW e3;have cM:=ay hW x1;have cN:=ay hW x2
        go_simp
        try with_reducible rfl
       try simp only [Act.put,sI]
       refine ck (i:=1) (v:= ?_) rfl (by kernel_rfl) (fun _ _ _ h=>h) (Or.inl ⟨by rfl,?_⟩) bS ?_
       rotate_left
       ·intro W hW
        have cq:=ay hW e3;have cM:=ay hW x1;have cN:=ay hW x2
        go_simp
        try with_reducible rfl
       try simp only [Act.put,sI]
       refine ck (i:=2) (v:= ?_) rfl (by kernel_rfl) (fun _ _ _ h=>h) (Or.inl ⟨by rfl,?_⟩) bS ?_
       rotate_left
       ·intro W hW
        have cq:=ay hW e3;have cM:=ay hW x1;have cN:=ay hW x2
        go_simp
        try with_reducible rfl
       try simp only [Act.put,sI]
       refine ck (i:=3) (v:= ?_) rfl (by kernel_rfl) (fun _ _ _ h=>h) (Or.inl ⟨by rfl,?_⟩) bS ?_
       rotate_left
       ·intro W hW
        have cq:=ay hW e3;have cM:=ay hW x1;have cN:=ay hW x2
        go_simp
        try with_reducible rfl
       try simp only [Act.put,sI]
       refine ck (i:=4) (v:= ?_) rfl (by kernel_rfl) (fun _ _ _ h=>h) (Or.inl ⟨by rfl,?_⟩) bS ?_
       rotate_left
       ·intro W hW
        have cq:=ay hW e3;have cM:=ay hW x1;have cN:=ay hW x2
        go_simp
        try with_reducible rfl
       try simp only [Act.put,sI]
       refine ck (i:=5) (v:= ?_) rfl (by kernel_rfl) (fun _ _ _ h=>h) (Or.inl ⟨by rfl,?_⟩) bS ?_
       rotate_left
       ·intro W hW
        have cq:=ay hW e3;have cM:=ay hW x1;have cN:=ay hW x2
        go_simp
        try with_reducible rfl
       try simp only [Act.put,sI]
       refine ck (i:=6) (v:= ?_) rfl (by kernel_rfl) (fun _ _ _ h=>h) (Or.inl ⟨by rfl,?_⟩) bS ?_
       rotate_left
       ·intro W hW
        have cq:=ay hW e3;have cM:=ay hW x1;have cN:=ay hW x2
        go_simp
        try with_reducible rfl
       try simp only [Act.put,sI]
       refine ck (i:=8) (v:= ?_) rfl (by kernel_rfl) (fun _ _ _ h=>h) (Or.inl ⟨by rfl,?_⟩) bS ?_
       rotate_left
       ·intro W hW
        have cq:=ay hW e3;have cM:=ay hW x1;have cN:=ay hW x2
        go_simp
        try with_reducible rfl
       try simp only [Act.put,sI]
       refine ck (i:=9) (v:= ?_) rfl (by kernel_rfl) (fun _ _ _ h=>h) (Or.inl ⟨by rfl,?_⟩) bS ?_
       rotate_left
       ·intro W hW
        have cq:=ay hW e3;have cM:=ay hW x1;have cN:=ay hW x2
        go_simp
        try with_reducible rfl
       try simp only [Act.put,sI]
       refine ck (i:=10) (v:= ?_) rfl (by kernel_rfl) (fun _ _ _ h=>h) (Or.inl ⟨by rfl,?_⟩) bS ?_
       rotate_left
       ·intro W hW
        have cq:=ay hW e3;have cM:=ay hW x1;have cN:=ay hW x2
        go_simp
        try with_reducible rfl
       try simp only [Act.put,sI]
       refine ck (i:=11) (v:= ?_) rfl (by kernel_rfl) (fun _ _ _ h=>h) (Or.inl ⟨by rfl,?_⟩) bS ?_
       rotate_left
       ·intro W hW
        have cq:=ay hW e3;have cM:=ay hW x1;have cN:=ay hW x2
        go_simp
        try with_reducible rfl
       try simp only [Act.put,sI]
       refine ck (i:=12) (v:= ?_) rfl (by kernel_rfl) (fun _ _ _ h=>h) (Or.inl ⟨by rfl,?_⟩) bS ?_
       rotate_left
       ·intro W hW
        have cq:=ay hW e3;have cM:=ay hW x1;have cN:=ay hW x2
        go_simp
        try with_reducible rfl
       try simp only [Act.put,sI]
       refine ck (i:=15) (v:= ?_) rfl (by kernel_rfl) (fun _ _ _ h=>h) (Or.inl ⟨by rfl,?_⟩) bS ?_
       rotate_left
       ·intro W hW
        have cq:=ay hW e3;have cM:=ay hW x1;have cN:=ay hW x2
        go_simp
        try with_reducible rfl
       try simp only [Act.put,sI]
       refine ck (i:=16) (v:= ?_) rfl (by kernel_rfl) (fun _ _ _ h=>h) (Or.inl ⟨by rfl,?_⟩) bS ?_
       rotate_left
       ·intro W hW
        have cq:=ay hW e3;have cM:=ay hW x1;have cN:=ay hW x2
        go_simp
        try with_reducible rfl
       try simp only [Act.put,sI]
       refine ck (i:=17) (v:= ?_) rfl (by kernel_rfl) (fun _ _ _ h=>h) (Or.inl ⟨by rfl,?_⟩) bS ?_
       rotate_left
       ·intro W hW
        have cq:=ay hW e3;have cM:=ay hW x1;have cN:=ay hW x2
        go_simp
        try with_reducible rfl
       try simp only [Act.put,sI]
       refine ck (i:=18) (v:= ?_) rfl (by kernel_rfl) (fun _ _ _ h=>h) (Or.inl ⟨by rfl,?_⟩) bS ?_
       rotate_left
       ·intro W hW
        have cq:=ay hW e3;have cM:=ay hW x1;have cN:=ay hW x2
        go_simp
        try with_reducible rfl
       try simp only [Act.put,sI]
       refine ck (i:=19) (v:= ?_) rfl (by kernel_rfl) (fun _ _ _ h=>h) (Or.inl ⟨by rfl,?_⟩) bS ?_
       rotate_left
       ·intro W hW
        have cq:=ay hW e3;have cM:=ay hW x1;have cN:=ay hW x2
        go_simp
        try with_reducible rfl
       try simp only [Act.put,sI]
       refine ck (i:=20) (v:= ?_) rfl (by kernel_rfl) (fun _ _ _ h=>h) (Or.inl ⟨by rfl,?_⟩) bS ?_
       rotate_left
       ·intro W hW
        have cq:=ay hW e3;have cM:=ay hW x1;have cN:=ay hW x2
        go_simp
        try with_reducible rfl
       try simp only [Act.put,sI]
       refine E7 (i:=7) (k:=13) rfl rfl (by kernel_rfl) ?_ ?_
       ·intro K' hK
        refine mP (w0:=wc) rfl (.const (.slice none 0 0)) (.tmp 76) 32 rfl 118 ti _ 2 24 Tryz.underlying32 aQ hz hsz hby rfl (by decide) (.slice none 0 0) 0 [] rfl (World.ownsRow_nil _ _ _ _) ad k cap (eY ((dc p.core.cells).take k)) rfl Cg.out (Cf.out _ (by go_grown)) (tB _) (by unfold maxLen;omega) (by omega) (by go_grown) ?_
        intro v1 W1 vA gh hK1
        refine hK _ _ (fun _=>gh) (fun hS=> ?_)
        clear hK K' hS
        try simp only [Act.put,sI]
        refine gI (i:=13) rfl (by kernel_rfl) ?_
        intro K' hK
        go_simp
        refine hK _ _ (fun _=>bt gh (by go_grown)) (fun hS=> ?_)
        clear hK K' hS
        try simp only [Act.put,sI]
        refine gI (i:=14) rfl (by kernel_rfl) ?_
        intro K' hK
        refine mP (w0:=wc) rfl (.tmp 77) (.tmp 83) 32 rfl 118 ti _ 2 24 Tryz.underlying32 aQ hz hsz hby rfl (by decide) _ _ _ rfl (OY vA (by go_grown)) _ 1 1 [.string x.key,.int .i64 x.val] rfl rfl (pV) (by intro u hu;simp at hu;rcases hu with rfl|rfl<;>rfl) (by unfold maxLen;omega) (by omega) (bt gh (by go_grown)) ?_
        intro v2 W2 lR gj nW
        refine hK _ _ (fun _=>gj) (fun hS=> ?_)
        clear hK K' hS
        try simp only [Act.put,sI]
        refine gI (i:=21) rfl (by kernel_rfl) ?_
        intro K' hK
        refine mP (w0:=wc) rfl (.tmp 84) (.tmp 90) 32 rfl 118 ti _ 2 24 Tryz.underlying32 aQ hz hsz hby rfl (by decide) _ _ _ rfl lR (ad.add (k*2)) (n-k) (cap-k) (eY ((dc p.core.cells).drop k)) rfl zx.out (Jt.out _ gj) (tB _) (by unfold maxLen;omega) (by omega) gj ?_
        intro v3 W3 oV gL Gj
        obtain ⟨a3,uP,rfl⟩:=y6 oV
        refine hK _ _ (fun _=>gL) (fun hS=> ?_)
        clear hK K' hS
        try simp only [Act.put,sI]
        have zY:=ay gL e3;have f33:=HF.out W3 (bt pL.out gL)
        refine ck (i:=22) (v:= ?_) rfl (by kernel_rfl) (fun _ _ _ h=>h) (Or.inl ⟨by rfl,?_⟩) gL ?_
        rotate_left
        ·intro W hW
         have cq:=ay hW e3
         go_simp
         try with_reducible rfl
        try simp only [Act.put,sI]
        refine ck (i:=23) (v:= ?_) rfl (by kernel_rfl) (fun _ _ _ h=>h) (Or.inl ⟨by rfl,?_⟩) gL ?_
        rotate_left
        ·intro W hW
         have cq:=ay hW e3
         go_simp
         try with_reducible rfl
        try simp only [Act.put,sI]
        refine gI (i:=24) rfl (by kernel_rfl) ?_
        intro K' hK
        go_simp
        refine hK _ _ (fun h=>absurd rfl h) (fun _=> ?_)
        clear hK K'
        refine uK (by kernel_rfl) ?_ _
        go_wp2_with fail
        go_meet
        case rel=>exact ⟨yU oG.out HX.out HN.out lJ.out iq.out gL oV (by omega) (by simp) mh.out hkr,by unfold cG keepD;rw [if_neg nM.out,if_neg HG.out,if_neg (fun h=>by have h1:=h.2;have h2:=HN.out;omega)]⟩
       ·intro K' hK
        go_simp
        refine hK _ _ (fun _=>by go_grown) (fun hS=> ?_)
        clear hK K' hS
        try simp only [Act.put,sI]
        refine gI (i:=7) rfl (by kernel_rfl) ?_
        intro K' hK
        refine mP (w0:=wc) rfl (.const (.slice none 0 0)) (.tmp 76) 32 rfl 118 ti _ 2 24 Tryz.underlying32 aQ hz hsz hby rfl (by decide) (.slice none 0 0) 0 [] rfl (World.ownsRow_nil _ _ _ _) ad k cap (eY ((dc p.core.cells).take k)) rfl Cg.out (Cf.out _ (by go_grown)) (tB _) (by unfold maxLen;omega) (by omega) (by go_grown) ?_
        intro v1 W1 vA gh hK1
        refine hK _ _ (fun _=>gh) (fun hS=> ?_)
        clear hK K' hS
        try simp only [Act.put,sI]
        refine gI (i:=14) rfl (by kernel_rfl) ?_
        intro K' hK
        refine mP (w0:=wc) rfl (.tmp 77) (.tmp 83) 32 rfl 118 ti _ 2 24 Tryz.underlying32 aQ hz hsz hby rfl (by decide) _ _ _ rfl (vA) _ 1 1 [.string x.key,.int .i64 x.val] rfl rfl (fun j u hj=>ay (hK1 rfl) (pV j u hj)) (by intro u hu;simp at hu;rcases hu with rfl|rfl<;>rfl) (by unfold maxLen;omega) (by omega) (gh) ?_
        intro v2 W2 lR gj nW
        refine hK _ _ (fun _=>gj) (fun hS=> ?_)
        clear hK K' hS
        try simp only [Act.put,sI]
        refine gI (i:=21) rfl (by kernel_rfl) ?_
        intro K' hK
        refine mP (w0:=wc) rfl (.tmp 84) (.tmp 90) 32 rfl 118 ti _ 2 24 Tryz.underlying32 aQ hz hsz hby rfl (by decide) _ _ _ rfl lR (ad.add (k*2)) (n-k) (cap-k) (eY ((dc p.core.cells).drop k)) rfl zx.out (Jt.out _ gj) (tB _) (by unfold maxLen;omega) (by omega) gj ?_
        intro v3 W3 oV gL Gj
        obtain ⟨a3,uP,rfl⟩:=y6 oV
        refine hK _ _ (fun _=>gL) (fun hS=> ?_)
        clear hK K' hS
        try simp only [Act.put,sI]
        have zY:=ay gL e3;have f33:=HF.out W3 (bt pL.out gL)
        refine ck (i:=22) (v:= ?_) rfl (by kernel_rfl) (fun _ _ _ h=>h) (Or.inl ⟨by rfl,?_⟩) gL ?_
        rotate_left
        ·intro W hW
         have cq:=ay hW e3
         go_simp
         try with_reducible rfl
        try simp only [Act.put,sI]
        refine ck (i:=23) (v:= ?_) rfl (by kernel_rfl) (fun _ _ _ h=>h) (Or.inl ⟨by rfl,?_⟩) gL ?_
        rotate_left
        ·intro W hW
         have cq:=ay hW e3
         go_simp
         try with_reducible rfl
        try simp only [Act.put,sI]
        refine gI (i:=24) rfl (by kernel_rfl) ?_
        intro K' hK
        go_simp
        refine hK _ _ (fun h=>absurd rfl h) (fun _=> ?_)
        clear hK K'
        refine uK (by kernel_rfl) ?_ _
        go_wp2_with fail
        go_meet
        case rel=>exact ⟨yU oG.out HX.out HN.out lJ.out iq.out gL oV (by omega) (by simp) mh.out hkr,by unfold cG keepD;rw [if_neg nM.out,if_neg HG.out,if_neg (fun h=>by have h1:=h.2;have h2:=HN.out;omega)]⟩
 case rest =>
 obtain ⟨⟨K',Dm,rp,Mr⟩,hbad⟩:=hcut
 have HBAD:=Lib.hid hbad
 clear hbad
 have hct:=H.out.ct
 have S6:=Lib.hid (Cb Dm.pb p.core.count hct)
 obtain ⟨-, -, -, -, -, -, -, -, -, -, -, -,c4y, -, -, -, -⟩:=Dm.pb.cells
 have Td:=Lib.hid Dm
 have Jw:=Lib.hid Mr
 clear Dm Mr hct e1 e3 e4 x0 x1 x2 d0 d1 d3 d4 c0 c1 c2 c3 c4 c5
 go_wp2_with fail
 refine S6.out.mono ?_
 rintro e w5 ⟨rfl,hb5,AP⟩
 have zy:=Lib.hid (Td.out.below hb5)
 have iU:=Lib.hid (Jw.out.below hb5 Jw.out.lt)
 have P6:=zy.out.pb.IJ (bU p.core.count) AP
 have Tb:=Lib.hid (zy.out.put zy.out.pb.kg P6)
 obtain ⟨-, -, -, -, -, -, -, -, -, -, -, -,c4z, -,hfz, -, -⟩:=zy.out.pb.cells
 obtain ⟨E4,au,nu,cpu,rfl,GQ, -, -, -, -, -,c3u,c4u, -, -, -, -⟩:=P6.cells
 simp only at GQ
 have kW:w.heap.size+1≠g:=fun e=>rp (by rw [e];exact zy.out.pb.kg)
 have pM:=Lib.hid (iU.out.far (p:=⟨g,4,none⟩) kW (.int .i64 (bU p.core.count)))
 have S8:=Lib.hid GQ
 clear P6 GQ hb5 kW
 have gm:=pM.out;obtain ⟨mJ,mK,mL,mM,mN,mO⟩:=lY (w:=(w5.setCell ⟨g,4,none⟩ (.int .i64 (bU p.core.count)))) (b:=w.heap.size+1) gm
 go_wp2
 obtain ⟨q1,q2⟩:=iN Tb.out H.out pM.out (by omega) rp (rep 0 (iH p.core.cells x.key x.val).length 0 0)
 rw [HBAD.out]
 rw [<-S8.out] at q1 q2 ⊢
 refine bodyPost_ret (iJ rfl _ _ _ rfl q1 Tryz.underlying39 rfl (by kernel_rfl)) rfl q2
end Go.Proofs.YtimickglpboilaaGreatDoor
