/- Conditions of functions of this seat's program. Written by fun.py. -/
import Derived.Test.YtoomhbopolalnabGreatDoorT11
set_option linter.all false
set_option maxRecDepth 100000
namespace Go.Proofs.YtoomhbopolalnabGreatDoor
section
open Go
set_option maxRecDepth 1000000
def ap0:VC:=.rq (.new 13 ij bT) (.rq (.call [] 14 Ex [] (.one K1) bT) (.rq (.cF 15 (some Ey) [bL] (.one (.agg PK)) bT [(6,1)]) (.ret (.bp (.bp gB bL) fU) [])))
def aKz:rJ az aJ pT 5 none=ap0:=by kernel_rfl
def aIZ:List VT:=[(.one (.c (.sl 5)))]
def aI0:rH az aJ 5 none=aIZ:=by kernel_rfl
def aGi:pT.get 5=[(11,1)]:=by kernel_rfl
def apT:VC:=.loop gN ik (.ite uP (.rq uQ (.ite (.sc .eql Hu aV) nB wG)) eH)
def aIR:List VT:=[(.one (.c (.sl 9))),cr]
def ao9:VC:=.loop gN ik (.ite uP (.rq uQ (.ite (.sc .eql (.cell (.row rK aR bH) 0) aV) Cy wG)) Ev)
def aH9:List VT:=[(.one (.c (.sl 59))),cr]
def aqL:VC:=.loop [bh,fk,aG] [qJ,eV,ba] (.ite (.ic .lss bL iG) (.rq XA (.ite (.an sQ (.sc .geq XD aV)) (.ite (.sc .neq XD aV) (.rq atL (.rq (.cond [] (.few afo Qt)) (.again 0 [gF,(.app afo Qt),Hk]))) (.rq atM (.again 0 [gF,(.app bP Qt),Hk]))) (.rq atM (.again 0 [bH,(.app bP Qt),Hk])))) (.ite sQ (.rq atL (.ret afo [])) KU))
def aJH:List VT:=[(.one (.c (.sl 9))),cr]
def apM:VC:=.loop Cw Qa (.ite Et (.rq Eu (.rq (.lJ [] aV [bP] bh) (.ite bL (.rq (.cond [] (.few bH asM)) (.again 0 [(.app bH asM),Aw])) (.again 0 [bH,Aw])))) Cy)
def aIK:List VT:=[(.one (.c (.sl 59))),(.one (.c .fn))]
def WD:VC:=.rq atG (.rq XA (.ret (.cell (.row [pu] aR bL) 0) Ey))
def aoV:List VT:=[(.one (.c (.sl 3))),(.one (.c (.sl 5))),aG,aG]
def ap2:VC:=.loop gN ik (.ite uP (.rq uQ (.ite (.sc .eql (.cell (.row rK aR bH) 0) aV) Cy wG)) Ev)
def aI2:List VT:=[(.one (.c (.sl 59))),cr]
def aqC:VC:=.rq (.call [] 79 none ij aG []) asu
def aJy:List VT:=[cr]
def aqw:VC:=.rq (.cF 69 none ij KP [] [(3,2),(5,2)]) asl
def aJt:List VT:=[(.one (.c (.sl 9)))]
def apF:VC:=.rq (.cF 50 none WM fk [] [(0,1)]) asD
def aIC:List VT:=[(.one (.agg [(.int .i64),.str,.str,.str,(.int .i64),.str,(.sl 9)]))]
def aqb:VC:=.rq (.call [] 64 none [cW] bh []) (.rq (.call [(xS,false)] 68 none [cW] fk []) (.rq (.call [((.or ae6 aei),false)] 98 none [cW,lA] bh []) (.ite (.or (.or (.or ae6 aei) rL) arB) eH (.loop gN ik (.ite (.ic .lss bL (.len jh)) (.rq (.cond [] (.bI jh bL)) (.rq (.call [] 99 none [(.row wE jh bL)] bh []) (.rq (.call ae8 101 none [(.row wE jh bL)] fk []) (.rq (.cond ae8 (.bI cW bL)) (.rq (.call ae8 100 none [cZ,(.cell (.row rK cW bL) 1)] bh []) (.ite (.or KG Ew) eH aee)))))) (.loop gN ik (.ite (.ic .lss cI LJ) (.rq (.cond [] (.bI kI cI)) (.rq (.call [] 40 none [cW,ae9] aG []) (.rq (.call [((.ic .lss cZ ba),false)] 25 none [lA,ae9] bh []) (.rq (.cond [(atb,false),((.ic .gtr cI ba),true)] (.bI kI atc)) (.ite (.or atb (.an (.ic .gtr cI ba) (.sc .geq (.cell (.row kB kI atc) 0) ae9))) eH aek))))) (.loop gN ik (.ite (.ic .lss cZ Hj) (.rq (.cond [] (.bI rM cZ)) (.rq (.call [] 102 none [(.row PK rM cZ)] bh []) (.ite Ew eH (.again 0 [WT])))) nB)))))))))
def aI9:List VT:=[(.one (.agg [(.sl 59),(.sl 87),(.sl 9),(.sl 9),(.sl 33)]))]
def aqf:VC:=.loop gN ik (.ite CH (.rq CI (.rq (.call [] 104 none [PO] bh []) arP)) (.ret (.ic .leq iG CA) []))
def aJd:List VT:=[(.one (.c (.sl 59)))]
def aqB:VC:=.rq Qm (.ite xS PX (.rq Qn (.rq atu (.loop Cw [bP,ba] (.ite aeO (.rq aeB (.rq (.cF 61 none [bH,Xe,qJ] fk [] [(0,1)]) (.rq (.call [] 25 none [cZ,Xe] bh []) (.ite eK (.rq (.cF 26 none [bL,Xe] fk [] [(0,1)]) (.again 0 [fU,xT])) afe)))) (.loop Cw Qa (.ite atz (.rq atA (.rq (.call [] 25 none [bL,afj] bh []) (.rq (.cF 61 none [bH,afj,qJ] fk [] [(0,1)]) (.loop [bh,aG] [fU,ba] (.ite (.ic .lss og (.len jJ)) (.rq (.cond [] (.bI jJ og)) (.rq (.call [(sO,false)] 25 none [bL,(.cell (.row kB jJ og) 0)] bh []) (.again 0 [(.or sO p7),(.ar .add .i64 og eM)]))) (.ite sO (.rq (.cond [] (.few cZ atB)) (.again 1 [(.app cZ atB),KJ])) (.again 1 [cZ,KJ]))))))) (.ret cZ []))))))))
def aJx:List VT:=[(.one (.c (.sl 59)))]
def arf:VC:=.rq (.call [] 47 sP [afD] cr bT) XC
def aKa:List VT:=[(.one (.c (.sl 5))),aG,aG]
def aqa:VC:=.ret (.an (.ic .geq aR ba) (.ic .leq aR PJ)) []
def aoR:List VT:=[aG]
def aq8:VC:=.rq (.call [] 122 sP [] cr bT) (.rq afr (.loop [fk,aG,EA,aG,aG] [(.put eV Cv),eK,fU,jJ,sO] (.ite (.ic .gtr p7 ba) (.rq (.call [] 48 none [og] sR []) (.rq (.call [] 123 (some K5) [(.proj p8 0)] cr bT) (.rq (.cond [] (.few og at1)) (.again 0 [(.app og at1),(.ar .sub .i64 p7 eM),CD,zn,p9])))) (.ret og K5))))
def aJ3:List VT:=[(.one (.c (.sl 5))),aG,aG]
def ao5:VC:=.rq vp5 (.loop [aG,LF] [ba,(.rep 4 om K0)] (.ite (.ic .lss aV (.len LI)) (.rq (.cond [] (.bI cW aV)) (.rq (.cond [(aec,false)] (.bI lA aV)) (.rq (.cond [(aec,false)] (.bI WO aV)) (.rq ael (.loop [aG,LF] [ba,(.aW bH aV (.aq (.or aec (.cell (.row om WO aV) 0))) 0)] (.ite (.ic .lss bP (.len LI)) (.rq ael (.rq (.cond [(PS,false)] (.bI lA aV)) (.rq (.cond [(PS,false)] (.bI WO bP)) (.rq (.cond [(PS,false),(aet,true)] (.bI cW bP)) (.rq (.cond ar7 (.bI lA bP)) (.rq (.cond ar7 (.bI ar9 bP)) (.rq ael (.again 0 [Aw,(.aW bL aV (.aq (.or PS (.an aet (.or arZ (.cell (.row om ar9 bP) 0))))) 0)])))))))) (.again 1 [PZ,bL]))))))) Cy))
def aH6:List VT:=[(.one (.agg [(.sl 4),(.sl 50),(.sl 50)]))]
def ape:VC:=.rq (.call [(WK,false)] 107 none AE bh []) (.ite (.or WK xS) eH (.rq (.call [((.ic .eql cW pZ),true)] 92 none aef bh []) (.rq (.call [(aeg,false),(aeh,true)] 127 none aef bh []) (.ite (.or aeg (.an aeh rL)) eH (.ite (.ic .eql cW En) (.rq (.call [] 106 none WM sR []) (.ret (.proj bL 1) [])) (.ret arA []))))))
def aIe:List VT:=[(.one (.agg [(.int .i64),.str,.str,.str,(.int .i64),.str,(.sl 9)]))]
def apa:VC:=.rq (.call [] 130 none [cW] aG []) (.ite (.or afq at4) eH (.ite XQ (.rq aup (.ret (.an bH XY) [])) (.ite X4 (.rq aup (.rq (.call afR 126 none [lA] bh []) (.ret (.an bH bP) []))) (.ite afY (.rq (.call [(QM,true)] 126 none [lA] bh []) (.ret (.an QM bH) [])) (.ret (.an QM XY) [])))))
def aIa:List VT:=[(.one Cp)]
def aqV:VC:=.rq (.cond [] (.few uL kI)) (.ret (.cat wF (.cat P5 (.cat Cz (.cat (.aq (.app uL kI)) Xi)))) [])
def aJQ:List VT:=[(.one (.agg [.str,.bool,.bool,(.sl 168),(.int .i64)]))]
def aqx:VC:=.loop Cw [(.put eV wF),ba] (.ite WX (.rq WY (.rq (.cond [] (.few aV Xa)) (.again 0 [(.app aV Xa),HK]))) CB)
def aJu:List VT:=[(.one (.agg [.str,.bool,.bool,(.sl 168),(.int .i64),(.sl 151)]))]
def api:VC:=.rq (.call [] 131 none [cW] bh []) (.rq (.call arL 107 none AE bh []) (.rq (.call [(aep,true)] 108 none Yg bh []) arM))
def aIh:List VT:=[(.one (.agg [(.int .i64),.str,(.int .i64),(.int .i64)]))]
def ap3:VC:=.rq (.call [] 148 none ij bh []) (.ite xS (.ret zo []) (.loop Cw Qa (.ite Et (.rq Eu (.rq (.cond [] (.uK ae0 Qj)) (.rq (.call [] 149 none [(.cell (.row AG aR bP) 1)] cr []) (.rq (.cond [] (.uK (.tF ae0 Qj) bL)) (.rq (.cond [] (.few bH as7)) (.again 0 [(.app bH as7),Aw])))))) (.ite (.ic .eql (.len bH) ba) (.ret Qk []) (.rq (.call [] 150 none [bH,ae1] cr []) ae2)))))
def aI3:List VT:=[(.one (.c (.sl 168)))]
def aqR:VC:=.ite (.ic .eql aR ba) (.ret (.put (.put eV XE) (.aq Qh)) []) (.ite (.ic .eql aR eM) (.ret (.put (.put eV (.aq LA)) (.aq LG)) []) (.ite (.ic .eql aR wH) (.ret (.put eV (.aq K3)) []) (.ite (.ic .eql aR pZ) (.ret (.put eV (.aq QJ)) []) (.ite (.ic .eql aR tM) (.ret (.put (.put eV (.aq K8)) (.aq Xw)) []) (.ite (.ic .eql aR En) (.ret (.put eV (.aq K2)) []) PX)))))
def aJM:List VT:=[aG]
def apL:VC:=.ite (.sc .eql aR aeE) (.ret (.bp (.bp W4 ba) gF) []) (.ite (.sc .eql aR aeF) (.ret (.bp (.bp W5 eM) gF) []) (.ite (.sc .eql aR Xj) (.ite (.sc .eql aR Xj) asH asL) (.ite (.sc .eql aR aeH) asH asL)))
def aIJ:List VT:=[cr]
def apm:VC:=.ite (.sc .eql aR arQ) (.ret (.bp W4 gF) []) (.ite (.sc .eql aR aeq) (.ret (.bp W5 gF) []) (.ite (.sc .eql aR arR) (.ret (.bp aer gF) []) (.ite (.sc .eql aR arS) (.ret (.bp (.bp gB En) gF) []) (.ite (.sc .eql aR arT) (.ret (.bp (.bp gB pZ) gF) []) (.ite (.sc .eql aR aes) (.ret (.bp (.bp gB Eo) gF) []) (.ite (.sc .eql aR arU) (.ret (.bp (.bp gB (.li .i64 19)) gF) []) (.ite (.sc .eql aR arV) (.ret (.bp (.bp gB PJ) gF) []) PT)))))))
def aIk:List VT:=[cr]
def ap7:VC:=.rq aeX (.rq (.call [] 77 none [sS,ba] bh []) (.rq (.call af5 148 none [kI] bh []) (.rq (.call [((.or CJ rL),false),(Yf,true)] 77 none [sS,eM] bh []) (.ite (.or (.or (.or (.or CJ rL) (.an Yf Hq)) (.ic .lss rM ba)) (.ic .gtr rM Es)) eH (.ret (.an (.or bH auW) auV) [])))))
def aI6:List VT:=[(.one (.agg [.str,.bool,.bool,(.sl 168),(.int .i64)]))]
def aqy:VC:=.rq ata (.rq (.call [] 104 none ij bh []) (.rq (.call [(bP,true)] 141 none [aV] bh []) (.rq (.call [(afi,true)] 42 none [Ax,pq] bh []) (.rq (.call [((.an afi cI),true)] 161 none asn bh []) (.ret (.an (.an afi cI) cZ) [])))))
def aJv:List VT:=[(.one (.agg [.str,(.sl 9),(.int .i64),(.int .i64),(.sl 98)])),(.one (.agg [(.int .i64),.str,(.int .i64),(.int .i64)]))]
def apn:VC:=.ite KN W7 (.rq (.cond [] WV) (.rq (.cF 164 none ar0 ar1 [] [(3,2),(5,2)]) (.ite CJ W7 (.rq ar2 (.loop ar3 ar4 (.ite ar5 (.rq ar6 (.rq (.cF 165 none ar8 KP [] [(3,2),(5,2)]) asa)) (.rq (.call [] 55 none [W9] aG []) asb)))))))
def aIl:List VT:=[(.one (.c (.sl 9)))]
def ap6:VC:=.loop gN ik (.ite CH (.rq CI (.rq (.call [] 138 none [af2] bh []) (.rq (.cond [(as9,false),(QN,true)] Ye) (.ite (.or as9 auS) eH Ay)))) (.ret (.ic .leq iG tM) []))
def aI5:List VT:=[(.one (.c (.sl 168)))]
def aq0:VC:=.loop [bh,Hm,aG] [qJ,uL,ba] (.ite aeO (.rq aeB (.ite (.an rL (.sc .geq (.cell afv 0) aV)) (.rq atY (.ite atZ (.rq (.cond [] (.few XI XJ)) (.again 0 [gF,(.app XI XJ),xT])) (.again 0 [gF,XI,xT]))) (.ite atZ (.rq (.cond [] (.few bL XJ)) (.again 0 [bP,(.app bL XJ),xT])) (.again 0 [bP,bL,xT])))) (.ite rL (.rq atY (.ret XI [])) ae2))
def aJV:List VT:=[(.one (.c (.sl 168))),cr,aG]
def apZ:VC:=.rq (.cF 97 none ij (.one KQ) [] [(3,2)]) (.rq (.call [] 135 none ij bh []) (.rq (.call [(rL,false)] 137 none [aV] bh []) (.ite (.or rL Hq) Xf (.rq aeX (.rq as5 (.rq (.call [] 42 none [aeY,cZ] bh []) (.ite Ew (.rq as5 (.ret (.bp KX (.cat uM (.cat lB (.cat tI (.cat KO as6))))) [])) (.rq (.call [] 77 none [aeY,ba] bh []) (.rq (.call [] 174 none [bH,aV,fU] aeZ []) (.ret (.bp (.bp gB Ho) aex) []))))))))))
def aIY:List VT:=[(.one (.agg [.str,.bool,.bool,(.sl 168),(.int .i64)])),(.one Cp)]
def aq9:VC:=.rq (.call [] 179 sP [] XL bT) (.rq (.call [] 38 tJ [(.li .i64 7)] bh bT) (.ite eK (.rq (.call [] 180 (some Az) [] aG bT) (.rq (.call [] 38 (some K7) [Eo] bh bT) (.ite xU (.rq (.call [] 180 (some Qy) [] aG bT) (.ret (.cat afB (.cat Xu fV)) Qz)) (.ret (.cat (.aq (.cell bP 0)) (.cat Xu fV)) Qy)))) (.rq (.call [] 38 (some Az) [Eo] bh bT) (.ite og (.rq (.call [] 180 (some K7) [] aG bT) (.ret (.cat K9 (.cat (.aq (.cell bP 1)) fV)) Qy)) (.ret bP K7)))))
def aJ5:List VT:=[(.one (.c (.sl 5))),aG,aG]
def apq:VC:=.rq (.call [] 129 none ij sR []) ase
def aIn:List VT:=[cr]
def aq1:VC:=.ite (.sc .eql aV K2) (.ret (.bp (.bp gB (.cat wF (.cat Ep (.cat Ep afw)))) Hz) []) (.ite (.an (.sc .eql aV Qh) (.no jh)) atU (.ite (.sc .eql aV Qh) (.ret (.bp (.bp gB (.cat wF (.cat Ep (.cat Cz afw)))) Hz) []) (.ite jh (.ret (.bp (.bp gB (.cat wF (.cat Ep (.cat KW afw)))) Xv) []) (.rq aft (.ret (.bp (.bp gB (.cat wF (.cat KW (.cat Cz (.cat P7 aez))))) Hz) [])))))
def aJW:List VT:=[(.one (.agg [.str,.bool,.bool,(.sl 168),(.int .i64)])),cr]
end
variable {f:FuncId}{Γ:List VT}{bx:Option (List CT)}{V:VC}
section
open Go.RowKit
variable [GC]
section
open Classical
variable {P:Program}{tab:Nat->List CT}{T:D->List D->Prop}
abbrev Out:=List D->D×List D
def zA{r0:D×List D}(m:T r0.1 r0.2):∀(V:VC) (env:List D) (L:List ((List D->Prop)×Out)),(∀x∈L,∀y,T (x.2 y).1 (x.2 y).2)->V.den P tab env T (L.map (·.1)) ->
  ∃r:D×List D,T r.1 r.2/\V.den P tab env (fun d bs=>d=r.1/\bs=r.2) (L.map fun x=>fun y=>x.1 y/\x.2 y=r)
 |.fail _,_,_,_,h=>h.elim
 |.ret e bs,env,L,_,h=>by simp only[VC.den]at h;exact⟨(e.den env,bs.map (fun x=>x.den env)),h,⟨rfl,rfl⟩⟩
 |.rq (.cond gs c) k,env,L,j,⟨h1,h2⟩=>by obtain⟨r,q1,q2⟩:=zA m k env L j h2;exact⟨r,q1,h1,q2⟩
 |.rq (.call gs f Z args H X) k,env,L,j,⟨d,z,h1,h2,l,p⟩=>by obtain⟨r,q1,q2⟩:=zA m k _ L j p;exact⟨r,q1,d,z,h1,h2,l,q2⟩
 |.rq (.cF f Z args H X i) k,env,L,j,⟨d,z,h1,h2,l,p⟩=>by obtain⟨r,q1,q2⟩:=zA m k _ L j p;exact⟨r,q1,d,z,h1,h2,l,q2⟩
 |.rq (.lJ gs e args H) k,env,L,j,⟨d,h1,l,p⟩=>by obtain⟨r,q1,q2⟩:=zA m k _ L j p;exact⟨r,q1,d,h1,l,q2⟩
 |.rq (.xg g H ix) k,env,L,j,⟨d,h1,h2,l,p⟩=>by obtain⟨r,q1,q2⟩:=zA m k _ L j p;exact⟨r,q1,d,h1,h2,l,q2⟩
 |.rq (.new f args X) k,env,L,j,⟨z,h2,l,p⟩=>by obtain⟨r,q1,q2⟩:=zA m k _ L j p;exact⟨r,q1,z,h2,l,q2⟩
 |.ite c a b,env,L,j,⟨h1,h2⟩=>by
  cases C:(c.den env).kG with
  |true=> obtain⟨r,q1,q2⟩:=zA m a env L j (h1 C);exact⟨r,q1,⟨fun _=>q2,fun h=>absurd (C.symm.trans h) (by simp)⟩⟩
  |false=> obtain⟨r,q1,q2⟩:=zA m b env L j (h2 C);exact⟨r,q1,⟨fun h=>absurd (C.symm.trans h) (by simp),fun _=>q2⟩⟩
 |.again d i,env,L,j,h=>by
  simp only[VC.den,iw]at h;cases F:L[d]? with
  |none=>rw[F]at h;exact h.elim
  |some x=> rw[F]at h;refine⟨x.2 (i.map (·.den env)),j x (jB F) _,?_⟩;simp only[VC.den,iw,F];exact⟨h,rfl⟩
 |.loop J t q,env,L,j,⟨I,i,z,C⟩=>by
  let N (s:List D) (o:Out) (r:D×List D):Prop:=T r.1 r.2/\q.den P tab (env++s) (fun d bs=>d=r.1/\bs=r.2) ((fun y=>(I y/\i y<i s)/\o y=r)::L.map fun x=>fun y=>x.1 y/\x.2 y=r)
  let G:(s:List D)->((y:List D)->i y<i s->D×List D)->D×List D:=fun s O=>
   if h:∃r,N s (fun y=>if Q:i y<i s then O y Q else r0) r then h.choose else r0
  let o:Out:=(measure i).wf.fix G
  have Y:∀s,o s=if h:∃r,N s (fun y=>if i y<i s then o y else r0) r then h.choose else r0:=fun s=>by show(measure i).wf.fix G s=_;rw[WellFounded.fix_eq];rfl
  have B:∀s,T (o s).1 (o s).2:=fun s=>by
   rw[Y];split
   ·rename_i h;exact h.choose_spec.1
   ·exact m
  have u:∀s,fO tab J s->dI s->I s->q.den P tab (env++s) (fun d bs=>d=(o s).1/\bs=(o s).2) ((fun y=>(I y/\o y=o s)/\i y<i s)::L.map fun x=>fun y=>x.1 y/\x.2 y=o s):=by
   intro s h1 h2 l;have v:∃r,N s (fun y=>if i y<i s then o y else r0) r:=by
    refine zA m q (env++s) ((fun y=>I y/\i y<i s,fun y=>if i y<i s then o y else r0)::L) ?_ (C s h1 h2 l);intro x S y;rcases fI.1 S with rfl|S
    ·simp only;split
     ·exact B y
     ·exact m
    ·exact j x S y
   have U:o s=v.choose:=by rw[Y,dif_pos v]
   have W:=v.choose_spec.2;rw[<-U]at W;have j:(fun y=>(I y/\i y<i s)/\(if i y<i s then o y else r0)=o s)=(fun y=>(I y/\o y=o s)/\i y<i s):=by funext y;apply propext;by_cases Q:i y<i s<;>simp[Q]
   rw[j]at W;exact W
  refine⟨o (t.map (·.den env)),B _,fun s=>I s/\o s=o (t.map (·.den env)),i,⟨z,rfl⟩,?_⟩;rintro s h1 h2 ⟨l,p⟩;have:=u s h1 h2 l;rw[p]at this;exact this
def Yt{t:TB}{m:RB}(p:rJ P t m f bx=V)(o:V.ok=true)(a:rH P t f bx=Γ)(c:cX P t t=true)(q:P.follows .mixedOrders=true)
  {bc:Option (List D)} {ds:List D} {r0:D×List D} (j:T r0.1 r0.2) (e:bc.map List.length=bx.map List.length) (hty:fO t.tab Γ (ds++bc.getD [])) (b:bx=none->∀d bs,T d bs->bs=[])
  (i:dI ds->dI (bc.getD [])->V.den P t.tab (ds++bc.getD []) T []):∃r:D×List D,T r.1 r.2/\dJ P f bc ds r.1 r.2 (m.get f):=by
 by_cases l:dI ds/\dI (bc.getD [])
 ·obtain⟨r,q1,q2⟩:=zA j V _ [] (by simp) (i l.1 l.2);exact⟨r,q1,QV p o a c q e hty (fun h=>b h _ _ q1) fun _ _=>q2⟩
 ·exact⟨r0,j,QV p o a c q e hty (fun h=>b h _ _ j) fun s u=>absurd ⟨s,u⟩ l⟩
def avB{t:TB}{i:RB}(j:rJ P t i f bx=V)(o:V.ok=true)(a:rH P t f bx=Γ)(b:cX P t t=true)(m:P.follows .mixedOrders=true)
  {bc:Option (List D)} {ds:List D} {r0:D×List D} (l:T r0.1 r0.2) (c:bc.map List.length=bx.map List.length) (hty:fO t.tab Γ (ds++bc.getD [])) (h:bx=none->∀d bs,T d bs->bs=[])
  (e:dI ds->dI (bc.getD [])->V.den P t.tab (ds++bc.getD []) T []):∃r:D×List D,T r.1 r.2/\aH P f bc ds r.1 r.2:=by
 obtain⟨r,p,q⟩:=Yt j o a b m l c hty h e;exact⟨r,p,.eB q⟩
end
end
variable {r:D}{Q:D->List D->Prop}{T:D->Prop}{gs:Gd}{L:List (List D->Prop)}{t:List (Nat×Nat)}{ds env env' xs:List D}{args es inits:List E}{eJ:List VT}{n:Nat}{P:Program}{α:Type}{vt:VT}
section
open Go.RowKit Go
variable [GC]
def cA:(∀{α:Type} {a:α} {r s:List α},(a::r)++s=a::(r++s))/\(∀{α:Type} (r:List α),[]++r=r):=⟨by simp,by simp⟩
def gE:(∀{α:Type} {a b:α} {l:List α},a∈b::l↔a=b\/a∈l)/\(∀{α:Type} {a:α},¬a∈([]:List α))/\(∀(p:Prop),(p\/False)=p)/\(∀{α:Type} {p:α->Prop} {q:α->Prop} {a:α},(∀x,x=a\/q x->p x)↔p a/\∀x,q x->p x)/\(∀{α:Type} {p:α->Prop} {a:α},(∀x,x=a->p x)↔p a):=⟨fI,tZ,wU,Dg,A8⟩
def mo:az.follows .mixedOrders=true:=by kernel_rfl
def avz(c:rJ az aJ pT f none=V)(a:rH az aJ f none=Γ){b:List (Nat×Nat)}(t:pT.get f=b)(o:V.ok=true){ds:List D}{r:D}
  (hty:fO aJ.tab Γ ds) (e:dI ds->V.den az aJ.tab ds (fun d bs=>d=r/\bs=[]) []):dJ az f none ds r [] b :=
 t▸QV c o a Cm mo rfl (by simpa using hty) (fun _=>rfl) (fun h _=>by simpa using e h)
def avC(b:rJ az aJ pT f none=V)(a:rH az aJ f none=Γ)(o:V.ok=true){ds:List D}{r:D}
  (hty:fO aJ.tab Γ ds) (e:dI ds->V.den az aJ.tab ds (fun d bs=>d=r/\bs=[]) []):aH az f none ds r [] :=
 Yu b o a Cm mo rfl (by simpa using hty) (fun _=>rfl) (fun h _=>by simpa using e h)
def cu(V:VC)(Γ:List VT){ds:List D}{r:D}(hty:fO aJ.tab Γ ds)(h:dI ds->V.den az aJ.tab ds (fun d bs=>d=r/\bs=[]) [])(b:rJ az aJ pT f none=V:=by kernel_rfl)(a:rH az aJ f none=Γ:=by kernel_rfl)(o:V.ok=true:=by rfl):aH az f none ds r []:=avC b a o hty h
def gh(V:VC)(Γ:List VT){b:List (Nat×Nat)}{ds:List D}{r:D}(hty:fO aJ.tab Γ ds)(h:dI ds->V.den az aJ.tab ds (fun d bs=>d=r/\bs=[]) [])(c:rJ az aJ pT f none=V:=by kernel_rfl)(a:rH az aJ f none=Γ:=by kernel_rfl)(t:pT.get f=b:=by kernel_rfl)(o:V.ok=true:=by rfl):dJ az f none ds r [] b:=avz c a t o hty h
def avw{ct:List (List CT)}(b:WC az aJ pT f ct=V)(a:Wu az aJ f ct=Γ)(o:V.ok=true){c:List (List D)}{ds:List D}{r:D}(l:c.length=ct.length)
  (hty:fO aJ.tab Γ (ds++c.map .agg)) (h:dI ds->dI (c.map .agg)->V.den az aJ.tab (ds++c.map .agg) (fun d bs=>d=r/\bs=[]) []):LQ az f ds c r :=
 avv b o a Cm mo l hty h
def azs{tab:Nat->List CT}{e:E}{k:VC}{x:D}
  (h:e.den env=x) (ha:args.map (·.den env)=xs) (c:QW P x xs r) (hty:bG tab vt r) (a:k.den P tab (env++[r]) Q L):(VC.rq (.lJ gs e args vt) k).den P tab env Q L :=
 ⟨r,hty,fun _=>by rw[h,ha];exact c,a⟩
def avD(a:rW P f=true)
  (h:∀(w:World) (M:Addr->Prop) (vs:List Value),(∀p,M p->p.block<w.heap.size)->Rs w M ds vs->Calls P f vs.toArray w fun e w'=>∃v,e=.returned v/\R w' M r v/\Below w.heap.size w w'):aH P f none ds r [] :=
 ⟨a,fun w M g vs b c _=>(h w M vs b.1 c).mono fun e w' ⟨v,d,i,j⟩=>⟨v,d,i,zt j (bM _),fun h=>by cases h⟩⟩
def CO(a:rW P f=true)
  (h:∀(w:World) (M:Addr->Prop) (vs:List Value),ek w M->Rs w M ds vs->Calls P f vs.toArray w fun e w'=>∃v,e=.returned v/\R w' M r v/\Below w.heap.size w w'):aH P f none ds r [] :=
 ⟨a,fun w M g vs b c _=>(h w M vs b c).mono fun e w' ⟨v,d,i,j⟩=>⟨v,d,i,zt j (bM _),fun h=>by cases h⟩⟩
inductive AK:List (List D->Prop)->List (List D->Prop)->Prop
 |nil:AK [] []
 |cons {p q:List D->Prop} {L L':List (List D->Prop)} (h:∀ys,p ys->q ys) (t:AK L L'):AK (p::L) (q::L')
def AK.refl:∀L,AK L L
 |[]=>.nil
 |_::L=>.cons (fun _ h=>h) (AK.refl L)
def AK.get{b:List (List D->Prop)}(h:AK L b):∀{d:Nat} {p:List D->Prop},L[d]? =some p->∃q,b[d]? =some q/\∀y,p y->q y:=by
 induction h with
 |nil=>intro d p a;simp at a
 |cons h t ih=>
  intro d p a;cases d with
  |zero=>simp at a;subst a;exact⟨_,rfl,h⟩
  |succ d=>simp at a;simpa using ih a
def zz{P:Program}{tab:Nat->List CT}{Q s:D->List D->Prop}(j:∀d bs,Q d bs->s d bs):∀(V:VC) (env:List D) {L r:List (List D->Prop)},AK L r->V.den P tab env Q L->V.den P tab env s r
 |.fail _,_,_,_,_,h=>h.elim
 |.ret e bs,env,_,_,_,h=>j _ _ h
 |.rq (.cond gs c) k,env,_,_,i,⟨h1,h2⟩=>⟨h1,zz j k env i h2⟩
 |.rq (.call gs f bx args vt nb) k,env,_,_,i,⟨d,cs,h1,h2,l,m⟩=>⟨d,cs,h1,h2,l,zz j k _ i m⟩
 |.rq (.cF f bx args vt nb v) k,env,_,_,i,⟨d,cs,h1,h2,l,m⟩=>⟨d,cs,h1,h2,l,zz j k _ i m⟩
 |.rq (.lJ gs e args vt) k,env,_,_,i,⟨d,h1,l,m⟩=>⟨d,h1,l,zz j k _ i m⟩
 |.rq (.xg g vt ix) k,env,_,_,i,⟨d,h1,h2,l,m⟩=>⟨d,h1,h2,l,zz j k _ i m⟩
 |.rq (.new f args nb) k,env,_,_,i,⟨cs,h2,l,m⟩=>⟨cs,h2,l,zz j k _ i m⟩
 |.ite c a b,env,_,_,i,⟨h1,h2⟩=>⟨fun h=>zz j a env i (h1 h),fun h=>zz j b env i (h2 h)⟩
 |.loop y t o,env,_,_,i,⟨I,u,h1,h2⟩=>⟨I,u,h1,fun xs q1 q2 q3=>zz j o _ (.cons (fun _ h=>h) i) (h2 xs q1 q2 q3)⟩
 |.again d es,env,L,r,i,h=>by
  simp only[VC.den]at h ⊢;cases hd:L[d]? with
  |none=>rw[hd]at h;exact h.elim
  |some p=> rw[hd]at h;obtain⟨q,h1,h2⟩:=i.get hd;rw[h1];exact h2 _ h
class aB(α:Type) extends Inhabited α where
 cells:α->List D
def nth[Inhabited α](l:List α)(k:Nat):α:=l.getD k default
def enc[aB α](x:α):D:=.agg (aB.cells x)
def aj[aB α](l:List α):D:=.sl (l.map aB.cells)
def Ck[aB α](l:List α)(k:Nat){z:List D}(h:aB.cells (default:α)=z):D.agg (((l.map aB.cells)[k]?).getD z)=enc (nth l k):=by unfold enc nth;rw[jZ,iw];cases l[k]? <;>simp[h]
@[simp] def azR[aB α] (l:List α):(aj l).lP=l.map aB.cells:=rfl
@[simp] def th[aB α] (l:List α):cG (aj l)=l.length:=by simp[aj,cG]
@[simp] def azS[aB α] (x:α):(enc x).kZ=aB.cells x:=rfl
def BU(r:List (List D)):cG (.sl r)=r.length:=rfl
def oU(n:Nat):cG (.mem n)=n:=rfl
def qo{tab:Nat->List CT}{body:VC}
  (St:Type) (e:St->List D) (I:St->Prop) (μ:St->Nat) (s0:St) (hμ:∀s s',e s=e s'->μ s=μ s') (h0:inits.map (·.den env)=e s0) (hI:I s0)
  (hs:∀s,I s->dI (e s)->body.den P tab (env++e s) Q ((fun ys=>∃s',ys=e s'/\I s'/\μ s'<μ s)::L)):(VC.loop eJ inits body).den P tab env Q L:=by
 classical
 let m:List D->Nat:=fun xs=>if h:∃s,xs=e s then μ h.choose else 0
 have hm:∀s,m (e s)=μ s:=by intro s;have hx:∃s',e s=e s':=⟨s,rfl⟩;show(if h:∃s',e s=e s' then μ h.choose else 0)=μ s;rw[dif_pos hx];exact(hμ _ _ hx.choose_spec).symm
 refine⟨fun xs=>∃s,xs=e s/\I s,m,⟨s0,h0,hI⟩,?_⟩;rintro xs _ hf ⟨s,rfl,hIs⟩;have:=hs s hIs hf;have he:(fun ys=>(∃s,ys=e s/\I s)/\m ys<m (e s))=(fun ys=>∃s',ys=e s'/\I s'/\μ s'<μ s):=by
  funext ys;apply propext;constructor
  ·rintro⟨⟨s',rfl,h⟩,h2⟩;exact⟨s',rfl,h,by rwa[hm,hm]at h2⟩
  ·rintro⟨s',rfl,h,h2⟩;exact⟨⟨s',rfl,h⟩,by rwa[hm,hm]⟩
 rw[he];exact this
def wrap_i64{n:Int}(h1: -9223372036854775808<=n)(h2:n<=9223372036854775807):IntKind.i64.wrap n=n:=by simp only[IntKind.wrap,IntKind.bits,IntKind.signed];simp;omega
def FF{tab:Nat->List CT}{k:VC}
  (ha:args.map (·.den env)=xs) (h:aH P f none xs r []) (hty:bG tab vt r) (a:k.den P tab (env++[r]) Q L):(VC.rq (.call gs f none args vt []) k).den P tab env Q L :=
 ⟨r,[],hty,trivial,fun _=>ha▸h,a⟩
def aag{tab:Nat->List CT}{k:VC}
  (ha:args.map (·.den env)=xs) (h:dJ P f none xs r [] t) (hty:bG tab vt r) (a:k.den P tab (env++[r]) Q L):(VC.rq (.cF f none args vt [] t) k).den P tab env Q L :=
 ⟨r,[],hty,trivial,ha▸h,a⟩
def wZ{tab:Nat->List CT}{k:VC}
  (ha:args.map (·.den env)=xs) (c:cP env gs->aH P f none xs r []) (hty:bG tab vt r) (a:k.den P tab (env++[r]) Q L):(VC.rq (.call gs f none args vt []) k).den P tab env Q L :=
 ⟨r,[],hty,trivial,fun h=>ha▸c h,a⟩
def aF{tab:Nat->List CT}{k:VC}(h:aH P f none xs r [])(a:k.den P tab env' Q L)(ha:args.map (·.den env)=xs:=by(first|(simp only[gS];done)|(simp only[gS];exact rfl)|(simp only[gS,cS];try exact rfl)))(e:env++[r]=env':=by(simp only[ia,iy];try exact rfl))(hty:bG tab vt r:=by first|trivial|exact jW _|exact⟨rfl,trivial,trivial⟩|exact⟨rfl,rfl,trivial,trivial⟩):(VC.rq (.call gs f none args vt []) k).den P tab env Q L:=FF ha h hty (by rw[e];exact a)
def dU{tab:Nat->List CT}{k:VC}(h:dJ P f none xs r [] t)(a:k.den P tab env' Q L)(ha:args.map (·.den env)=xs:=by(first|(simp only[gS];done)|(simp only[gS];exact rfl)|(simp only[gS,cS];try exact rfl)))(e:env++[r]=env':=by(simp only[ia,iy];try exact rfl))(hty:bG tab vt r:=by first|trivial|exact jW _|exact⟨rfl,trivial,trivial⟩|exact⟨rfl,rfl,trivial,trivial⟩):(VC.rq (.cF f none args vt [] t) k).den P tab env Q L:=aag ha h hty (by rw[e];exact a)
def aM{tab:Nat->List CT}{c:E}{k:VC}
  (h:cP env gs->c.den env=.bool true) (a:k.den P tab env Q L):(VC.rq (.cond gs c) k).den P tab env Q L:=⟨h,a⟩
def ai{tab:Nat->List CT}{c:E}{a b:VC}
  (h1:(c.den env).kG=true->a.den P tab env Q L) (h2:(c.den env).kG=false->b.den P tab env Q L):(VC.ite c a b).den P tab env Q L:=⟨h1,h2⟩
def ay{tab:Nat->List CT}{e:E}(h:e.den env=r):(VC.ret e []).den P tab env (fun d bs=>d=r/\bs=[]) L:=⟨h,rfl⟩
def Jb{tab:Nat->List CT}{St:Type}{e:St->List D}{I:St->Prop}{a:St->Nat}{m:Nat}(s:St)
  (h:es.map (·.den env)=e s) (b:I s) (c:a s<m):(VC.again 0 es).den P tab env Q ((fun y=>∃s,y=e s/\I s/\a s<m)::L):=⟨s,h,b,c⟩
def aih{tab:Nat->List CT}{k:VC}
  (ha:args.map (·.den env)=xs) (c:∃r,T r/\aH P f none xs r []) (hty:∀r,T r->bG tab vt r) (a:∀r,T r->k.den P tab (env++[r]) Q L):(VC.rq (.call gs f none args vt []) k).den P tab env Q L:=by
 obtain⟨r,h,b⟩:=c;exact⟨r,[],hty r h,trivial,fun _=>ha▸b,a r h⟩
def avy{b:List (Nat×Nat)}(c:rJ az aJ pT f none=V)(t:pT.get f=b)(o:V.ok=true)(a:rH az aJ f none=Γ)(hty:fO aJ.tab Γ ds)(r0:D)(i:T r0)
  (e:dI ds->V.den az aJ.tab ds (fun d bs=>T d/\bs=[]) []):∃r,T r/\dJ az f none ds r [] b:=by
 obtain⟨⟨r,bs⟩,⟨q1,q2⟩,q3⟩:=Yt (T:=fun d bs=>T d/\bs=[]) (r0:=(r0,[])) c o a Cm mo ⟨i,rfl⟩ (bc:=none) rfl (by simpa using hty) (fun _ d bs h=>h.2) (fun h _=>by simpa using e h);simp only at q2;subst q2;exact⟨r,q1,t▸q3⟩
def exR(h:∃r,T r/\dJ az f none xs r [] t):∃r,T r/\aH az f none xs r []:=by obtain⟨r,a,b⟩:=h;exact⟨r,a,.eB b⟩
def azr{tab:Nat->List CT}{k:VC}
  (ha:args.map (·.den env)=xs) (c:∃r,T r/\dJ P f none xs r [] t) (hty:∀r,T r->bG tab vt r) (a:∀r,T r->k.den P tab (env++[r]) Q L):(VC.rq (.cF f none args vt [] t) k).den P tab env Q L:=by
 obtain⟨r,h,b⟩:=c;exact⟨r,[],hty r h,trivial,ha▸b,a r h⟩
def cQ{tab:Nat->List CT}{body:VC}
  (n:Nat) (st:Nat->List D) (I:Nat->Prop) (h0:inits.map (·.den env)=st 0) (hI:I 0)
  (hs:∀k,k<=n->I k->dI (st k)->body.den P tab (env++st k) Q ((fun ys=>k<n/\ys=st (k+1)/\I (k+1))::L)):(VC.loop eJ inits body).den P tab env Q L:=by
 classical
 let last:List D->Nat->Nat:=fun xs m=>Nat.rec 0 (fun j r=>if xs=st (j+1)/\I (j+1)then j+1 else r) m
 have aDA:∀xs m,last xs m<=m:=by
  intro xs m;induction m with
  |zero=>exact bM _
  |succ m ih=> show(if xs=st (m+1)/\I (m+1)then m+1 else last xs m)<=m+1;split<;>omega
 have aDy:∀xs m k,k<=m->xs=st k->I k->k<=last xs m:=by
  intro xs m;induction m with
  |zero=>intro k hk _ _;omega
  |succ m ih=>
   intro k hk hx hi;show k<=(if xs=st (m+1)/\I (m+1)then m+1 else last xs m);by_cases h:k=m+1
   ·subst h;rw[aC ⟨hx,hi⟩];exact bM _
   ·have:=ih k (by omega) hx hi;split<;>omega
 have aDz:∀xs m k,k<=m->xs=st k->I k->xs=st (last xs m)/\I (last xs m):=by
  intro xs m;induction m with
  |zero=>
   intro k hk hx hi;have:k=0:=by omega
   subst this;exact⟨hx,hi⟩
  |succ m ih=>
   intro k hk hx hi;show xs=st (if xs=st (m+1)/\I (m+1)then m+1 else last xs m)/\I (if xs=st (m+1)/\I (m+1)then m+1 else last xs m);by_cases h:xs=st (m+1)/\I (m+1)
   ·rw[aC h];exact h
   ·rw[aw h];refine ih k ?_ hx hi;rcases dP k (m+1)with hlt|hge
    ·omega
    ·have:k=m+1:=by omega
     subst this;exact absurd ⟨hx,hi⟩ h
 refine⟨fun xs=>∃k,k<=n/\xs=st k/\I k,fun xs=>n-last xs n,⟨0,fW _,h0,hI⟩,?_⟩;rintro xs _ hf ⟨k,hk,hx,hi⟩;obtain⟨h1,h2⟩:=aDz xs n k hk hx hi;have h3:=aDA xs n;generalize hj:last xs n=j at *;subst h1;have:=hs j h3 h2 hf;refine zz (fun _ _ h=>h) _ _ ?_ this;refine .cons (fun ys hys=> ?_) (.refl _);obtain⟨q1,q2,q3⟩:=hys;refine⟨⟨j+1,by omega,q2,q3⟩,?_⟩;have:=aDy ys n (j+1) (by omega) q2 q3;show n-last ys n<n-last (st j) n;rw[hj];omega
def cK{tab:Nat->List CT}{p q:Prop}
  (a:p) (h:es.map (·.den env)=xs) (b:q):(VC.again 0 es).den P tab env Q ((fun y=>p/\y=xs/\q)::L):=⟨a,h,b⟩
def ix(k:Nat):List D:=[.int .i64 k]
def bC{x y:Int}(h1: -9223372036854775808<=x+y:=by omega)(h2:x+y<=9223372036854775807:=by omega):dL .add .i64 x y=x+y:=wrap_i64 h1 h2
def mz{x y:Int}(h1: -9223372036854775808<=x-y:=by omega)(h2:x-y<=9223372036854775807:=by omega):dL .sub .i64 x y=x-y:=wrap_i64 h1 h2
def D0[aB α]{tab:Nat->List CT}{t:List CT}(h:∀x:α,bD tab t (aB.cells x))(l:List α):dc tab t (l.map aB.cells) :=
 sW (by intro r a;obtain⟨x,_,rfl⟩:=fJ.1 a;exact h x)
def kS[aB α]{l:List α}(h:Fits (aj l)):l.length<=maxLen:=by unfold aj Fits at h;simpa using h.1
def ah1(x y:Int):bg .lss x y=decide (x<y):=rfl
def Z6(x y:Int):bg .leq x y=decide (x<=y):=rfl
def ay1(x y:Int):bg .gtr x y=decide (x>y):=rfl
def ay0(x y:Int):bg .geq x y=decide (x>=y):=rfl
def Z5(x y:Int):bg .eql x y=(x==y):=rfl
def ay2(x y:Int):bg .neq x y=(x != y):=rfl
def Z8:(∀{α c:Type} {f:α->c} {a:α} {l:List α},List.map f (a::l)=f a::List.map f l)/\(∀{α c:Type} {f:α->c},List.map f []=[])/\(∀{α c:Type} (f:α->c),Option.map f none=none)/\(∀{α c:Type} (a:α) (f:α->c),Option.map f (some a)=some (f a)) /\
  (∀{α:Type} {x:α} {xs:List α} {d:α},(x::xs).getD 0 d=x)/\(∀{α:Type} {x:α} {xs:List α} {n:Nat} {d:α},(x::xs).getD (n+1) d=xs.getD n d)/\(∀{α:Type} {a:α} {r s:List α},(a::r)++s=a::(r++s))/\(∀{α:Type} (r:List α),[]++r=r)/\(∀{α:Type} (r:List α),r++[]=r) /\
  (∀{α:Type} {a:α} {l:List α} {i:Nat},(a::l).drop (i+1)=l.drop i)/\(∀{α:Type} {l:List α},l.drop 0=l)/\(∀{α:Type} {a:α} {l:List α} {i:Nat},(a::l).take (i+1)=a::l.take i)/\(∀{α:Type} {l:List α},l.take 0=[]) /\
  (∀(k:IntKind) (n:Int),(D.int k n).cq=n)/\(∀b:Bool,(D.bool b).kG=b)/\(∀s:ByteArray,(D.str s).Cn=s)/\(∀l:List D,(D.agg l).kZ=l)/\(∀l:List D,(D.aU l).Wr=l)/\(∀l:List (List D),(D.sl l).lP=l) /\
  (∀{α:Type} [aB α] (x:α),(enc x).kZ=aB.cells x)/\(∀{α:Type} [aB α] (l:List α),(aj l).lP=l.map aB.cells)/\(∀{α:Type} [aB α] (l:List α),cG (aj l)=l.length) :=
 ⟨by simp,by simp,by simp,by simp,by simp,by simp,by simp,by simp,by simp,by simp,by simp,by simp,by simp,by simp,by simp,by simp,by simp,by simp,by simp,by simp,by simp,by simp⟩
def iEq:(∀x y:Int,bg .lss x y=decide (x<y))/\(∀x y:Int,bg .leq x y=decide (x<=y))/\(∀x y:Int,bg .gtr x y=decide (x>y))/\(∀x y:Int,bg .geq x y=decide (x>=y))/\(∀x y:Int,bg .eql x y=(x==y))/\(∀x y:Int,bg .neq x y=(x != y))/\(∀n:Nat,(n:Int).toNat=n)/\(0:Int).toNat=0 :=
 ⟨ah1,Z6,ay1,ay0,Z5,ay2,gR,rfl⟩
def eE:=And.intro (And.intro (And.intro (And.intro (And.intro @E.den.eq_1 @E.den.eq_2) (And.intro @E.den.eq_3 (And.intro @E.den.eq_4 @E.den.eq_5))) (And.intro (And.intro @E.den.eq_6 @E.den.eq_7) (And.intro @E.den.eq_8 (And.intro @E.den.eq_9 @E.den.eq_10)))) (And.intro (And.intro (And.intro @E.den.eq_11 @E.den.eq_12) (And.intro @E.den.eq_13 (And.intro @E.den.eq_14 @E.den.eq_15))) (And.intro (And.intro @E.den.eq_16 @E.den.eq_17) (And.intro @E.den.eq_18 (And.intro @E.den.eq_19 @E.den.eq_20))))) (And.intro (And.intro (And.intro (And.intro @E.den.eq_21 @E.den.eq_22) (And.intro @E.den.eq_23 (And.intro @E.den.eq_24 @E.den.eq_25))) (And.intro (And.intro @E.den.eq_26 @E.den.eq_27) (And.intro @E.den.eq_28 (And.intro @E.den.eq_29 @E.den.eq_30)))) (And.intro (And.intro (And.intro @E.den.eq_31 @E.den.eq_32) (And.intro @E.den.eq_33 (And.intro @E.den.eq_34 @E.den.eq_35))) (And.intro (And.intro @E.den.eq_36 (And.intro @E.den.eq_37 @E.den.eq_38)) (And.intro @E.den.eq_39 (And.intro @E.den.eq_40 @E.den.eq_41)))))
def vE:=And.intro (And.intro (And.intro @VC.den.eq_1 @VC.den.eq_2) (And.intro @VC.den.eq_3 (And.intro @VC.den.eq_4 @VC.den.eq_5))) (And.intro (And.intro @VC.den.eq_6 (And.intro @VC.den.eq_7 @VC.den.eq_8)) (And.intro @VC.den.eq_9 (And.intro @VC.den.eq_10 @VC.den.eq_11)))
def gS:=And.intro vE (And.intro eE (And.intro Z8 (And.intro @cR yf)))
def bS:=And.intro (And.intro (And.intro @Bool.true_and (And.intro @Bool.and_true @Bool.false_and)) (And.intro (And.intro @Bool.and_false @Bool.and_self) (And.intro @Bool.not_true @Bool.not_false))) (And.intro (And.intro (@cond_true.{1}) (And.intro (@cond_false.{1}) @beq_self_eq_true)) (And.intro (And.intro (@ite_true.{1}) (@ite_false.{1})) (And.intro (@if_true.{1}) (@if_false.{1}))))
instance :aB ByteArray:={cells:=fun s=>[.str s]}
instance :aB Int:={cells:=fun n=>[.int .i64 n]}
def eO(s:ByteArray):aB.cells s=[.str s]:=rfl
def ahZ(n:Int):aB.cells n=[.int .i64 n]:=rfl
def gZ(l:List ByteArray)(k:Nat):D.agg (((l.map aB.cells)[k]?).getD [eF CT.str])=enc (nth l k):=Ck l k rfl
def anv(l:List Int)(k:Nat):D.agg (((l.map aB.cells)[k]?).getD [eF (CT.int .i64)])=enc (nth l k):=Ck l k rfl
def Di(s:ByteArray)(k:Nat):Int:=((s[k]?).map fun (c:UInt8)=>(c.toNat:Int)).getD 0
def aha(s:ByteArray)(k:Nat):((s[k]?).map fun (c:UInt8)=>(c.toNat:Int)).getD 0=Di s k:=rfl
def aiX{s:ByteArray}(h:Fits (.str s)):s.size<=9223372036854775807:=by simpa[Fits,maxLen]using h
def DQ(s:ByteArray):cG (.str s)=s.size:=rfl
def aKo(s:ByteArray):bD aJ.tab [.str] (aB.cells s):=by simp[eO,bD,cJ]
def Pq:aJ.tab 9=[.str]:=by kernel_rfl
def jW(l:List ByteArray):cJ aJ.tab (.sl 9) (aj l):=by show dc _ (aJ.tab _) _;rw[Pq];exact D0 aKo l
def Kw(a b:ByteArray):(a.toList==b.toList)=decide (a=b):=by rw[wQ];simp only[vf,du];refine⟨fun h=> ?_,fun h=>by rw[h]⟩;rw[ByteArray.toList_eq,ByteArray.toList_eq]at h;cases a;cases b;simp_all[iX]
def oJ(a b:ByteArray):gx .eql a b=decide (a=b):=Kw a b
def Z7(a b:ByteArray):gx .neq a b= !decide (a=b):=by rw[<-Kw];rfl
def dz(a b:ByteArray):Bool:=Op.bytesLess a.toList b.toList
def ay4(a b:ByteArray):gx .lss a b=dz a b:=rfl
def ay3(a b:ByteArray):gx .geq a b= !dz a b:=rfl
def sEq:(∀s:ByteArray,cG (.str s)=s.size)/\(∀(s:ByteArray) (k:Nat),((s[k]?).map fun (c:UInt8)=>(c.toNat:Int)).getD 0=Di s k)/\(∀a b:ByteArray,gx .eql a b=decide (a=b))/\(∀a b:ByteArray,gx .neq a b= !decide (a=b))/\(∀a b:ByteArray,gx .lss a b=dz a b)/\(∀a b:ByteArray,gx .geq a b= !dz a b):=⟨DQ,aha,oJ,Z7,ay4,ay3⟩
def eS:=And.intro eE (And.intro Z8 (And.intro iEq sEq))
structure wK where
 name:ByteArray
 count:Int
 deriving DecidableEq,Inhabited
instance :aB wK:={cells:=fun v=>[.str v.name,.int .i64 v.count]}
def zI(v:wK):aB.cells v=[.str v.name,.int .i64 v.count]:=rfl
def G4(l:List wK)(k:Nat):D.agg (((l.map aB.cells)[k]?).getD [eF (CT.str),eF (CT.int .i64)])=enc (nth l k):=Ck l k rfl
def aH2(v:wK):bD aJ.tab [.str,.int .i64] (aB.cells v):=⟨trivial,rfl,trivial⟩
def aHJ:aJ.tab 151=[.str,.int .i64]:=by kernel_rfl
def aoH(l:List wK):cJ aJ.tab (.sl 151) (aj l):=by show dc _ (aJ.tab _) _;rw[aHJ];exact D0 aH2 l
structure Cell where
 key:ByteArray
 val:Int
 deriving DecidableEq,Inhabited
instance :aB Cell:={cells:=fun v=>[.str v.key,.int .i64 v.val]}
def mS(v:Cell):aB.cells v=[.str v.key,.int .i64 v.val]:=rfl
def sJ(l:List Cell)(k:Nat):D.agg (((l.map aB.cells)[k]?).getD [eF (CT.str),eF (CT.int .i64)])=enc (nth l k):=Ck l k rfl
def aH0(v:Cell):bD aJ.tab [.str,.int .i64] (aB.cells v):=⟨trivial,rfl,trivial⟩
def aHG:aJ.tab 168=[.str,.int .i64]:=by kernel_rfl
def xR(l:List Cell):cJ aJ.tab (.sl 168) (aj l):=by show dc _ (aJ.tab _) _;rw[aHG];exact D0 aH0 l
structure Core where
 kind:ByteArray
 on:Bool
 broken:Bool
 cells:List Cell
 count:Int
 deriving DecidableEq,Inhabited
instance :aB Core:={cells:=fun v=>[.str v.kind,.bool v.on,.bool v.broken,aj v.cells,.int .i64 v.count]}
def fK(v:Core):aB.cells v=[.str v.kind,.bool v.on,.bool v.broken,aj v.cells,.int .i64 v.count]:=rfl
def rI(v:Core):bD aJ.tab [.str,.bool,.bool,.sl 168,.int .i64] (aB.cells v):=⟨trivial,trivial,trivial,xR _,rfl,trivial⟩
structure Call where
 method:ByteArray
 key:ByteArray
 val:Int
 text:ByteArray
 deriving DecidableEq,Inhabited
instance :aB Call:={cells:=fun v=>[.str v.method,.str v.key,.int .i64 v.val,.str v.text]}
def fF(v:Call):aB.cells v=[.str v.method,.str v.key,.int .i64 v.val,.str v.text]:=rfl
def azU(v u:Call):v=u↔v.method=u.method/\v.key=u.key/\v.val=u.val/\v.text=u.text:=⟨fun h=>by subst h;simp,fun h=>by cases v;cases u;simp_all⟩
def azW(v u:Call):mU (aB.cells v) (aB.cells u)=decide (v=u):=by rw[wQ];simp[fF,mU,Js,Kw,azU,and_assoc]
def Cq(v:Call):bD aJ.tab [.str,.str,.int .i64,.str] (aB.cells v):=⟨trivial,trivial,rfl,trivial,trivial⟩
structure gH where
 code:Int
 val:Int
 text:ByteArray
 want:Int
 had:Int
 deriving DecidableEq,Inhabited
instance :aB gH:={cells:=fun v=>[.int .i64 v.code,.int .i64 v.val,.str v.text,.int .i64 v.want,.int .i64 v.had]}
def Bc(v:gH):aB.cells v=[.int .i64 v.code,.int .i64 v.val,.str v.text,.int .i64 v.want,.int .i64 v.had]:=rfl
def wC(v:gH):bD aJ.tab [.int .i64,.int .i64,.str,.int .i64,.int .i64] (aB.cells v):=⟨rfl,rfl,trivial,rfl,rfl,trivial⟩
structure Part where
 core:Core
 ak:List wK
 deriving DecidableEq,Inhabited
instance :aB Part:={cells:=fun v=>[.str v.core.kind,.bool v.core.on,.bool v.core.broken,aj v.core.cells,.int .i64 v.core.count,aj v.ak]}
def jN(v:Part):aB.cells v=[.str v.core.kind,.bool v.core.on,.bool v.core.broken,aj v.core.cells,.int .i64 v.core.count,aj v.ak]:=rfl
def V5(l:List Part)(k:Nat):D.agg (((l.map aB.cells)[k]?).getD [eF (CT.str),eF (CT.bool),eF (CT.bool),eF (CT.sl 168),eF (CT.int .i64),eF (CT.sl 151)])=enc (nth l k):=Ck l k rfl
def kH(v:Part):bD aJ.tab [.str,.bool,.bool,.sl 168,.int .i64,.sl 151] (aB.cells v):=⟨trivial,trivial,trivial,xR _,rfl,aoH _,trivial⟩
def aHM:aJ.tab 87=[.str,.bool,.bool,.sl 168,.int .i64,.sl 151]:=by kernel_rfl
def aH5(l:List Part):cJ aJ.tab (.sl 87) (aj l):=by show dc _ (aJ.tab _) _;rw[aHM];exact D0 kH l
structure lQ where
 l8:Int
 min:Int
 deriving DecidableEq,Inhabited
instance :aB lQ:={cells:=fun v=>[.int .i64 v.l8,.int .i64 v.min]}
def MT(v:lQ):aB.cells v=[.int .i64 v.l8,.int .i64 v.min]:=rfl
def Ej(v:lQ):bD aJ.tab [.int .i64,.int .i64] (aB.cells v):=⟨rfl,rfl,trivial⟩
structure mr where
 kR:Int
 ko:ByteArray
 least:lQ
 deriving DecidableEq,Inhabited
instance :aB mr:={cells:=fun v=>[.int .i64 v.kR,.str v.ko,.int .i64 v.least.l8,.int .i64 v.least.min]}
def zJ(v:mr):aB.cells v=[.int .i64 v.kR,.str v.ko,.int .i64 v.least.l8,.int .i64 v.least.min]:=rfl
def V4(l:List mr)(k:Nat):D.agg (((l.map aB.cells)[k]?).getD [eF (CT.int .i64),eF (CT.str),eF (CT.int .i64),eF (CT.int .i64)])=enc (nth l k):=Ck l k rfl
def Ei(v:mr):bD aJ.tab [.int .i64,.str,.int .i64,.int .i64] (aB.cells v):=⟨rfl,trivial,rfl,rfl,trivial⟩
def aHL:aJ.tab 98=[.int .i64,.str,.int .i64,.int .i64]:=by kernel_rfl
def aH4(l:List mr):cJ aJ.tab (.sl 98) (aj l):=by show dc _ (aJ.tab _) _;rw[aHL];exact D0 Ei l
structure Entry where
 name:ByteArray
 recipe:List ByteArray
 jw:lQ
 needs:List mr
 deriving DecidableEq,Inhabited
instance :aB Entry:={cells:=fun v=>[.str v.name,aj v.recipe,.int .i64 v.jw.l8,.int .i64 v.jw.min,aj v.needs]}
def ja(v:Entry):aB.cells v=[.str v.name,aj v.recipe,.int .i64 v.jw.l8,.int .i64 v.jw.min,aj v.needs]:=rfl
def oZ(l:List Entry)(k:Nat):D.agg (((l.map aB.cells)[k]?).getD [eF (CT.str),eF (CT.sl 9),eF (CT.int .i64),eF (CT.int .i64),eF (CT.sl 98)])=enc (nth l k):=Ck l k rfl
def Ao(v:Entry):bD aJ.tab [.str,.sl 9,.int .i64,.int .i64,.sl 98] (aB.cells v):=⟨trivial,jW _,rfl,rfl,aH4 _,trivial⟩
def aHH:aJ.tab 59=[.str,.sl 9,.int .i64,.int .i64,.sl 98]:=by kernel_rfl
def mh(l:List Entry):cJ aJ.tab (.sl 59) (aj l):=by show dc _ (aJ.tab _) _;rw[aHH];exact D0 Ao l
structure il where
 ko:ByteArray
 to:ByteArray
 kR:Int
 deriving DecidableEq,Inhabited
instance :aB il:={cells:=fun v=>[.str v.ko,.str v.to,.int .i64 v.kR]}
def vA(v:il):aB.cells v=[.str v.ko,.str v.to,.int .i64 v.kR]:=rfl
def xK(l:List il)(k:Nat):D.agg (((l.map aB.cells)[k]?).getD [eF (CT.str),eF (CT.str),eF (CT.int .i64)])=enc (nth l k):=Ck l k rfl
def aH3(v:il):bD aJ.tab [.str,.str,.int .i64] (aB.cells v):=⟨trivial,trivial,rfl,trivial⟩
def aHK:aJ.tab 130=[.str,.str,.int .i64]:=by kernel_rfl
def Ap(l:List il):cJ aJ.tab (.sl 130) (aj l):=by show dc _ (aJ.tab _) _;rw[aHK];exact D0 aH3 l
structure Event where
 kind:Int
 name:ByteArray
 call:Call
 recipe:List ByteArray
 deriving DecidableEq,Inhabited
instance :aB Event:={cells:=fun v=>[.int .i64 v.kind,.str v.name,.str v.call.method,.str v.call.key,.int .i64 v.call.val,.str v.call.text,aj v.recipe]}
def rX(v:Event):aB.cells v=[.int .i64 v.kind,.str v.name,.str v.call.method,.str v.call.key,.int .i64 v.call.val,.str v.call.text,aj v.recipe]:=rfl
def aGb(l:List Event)(k:Nat):D.agg (((l.map aB.cells)[k]?).getD [eF (CT.int .i64),eF (CT.str),eF (CT.str),eF (CT.str),eF (CT.int .i64),eF (CT.str),eF (CT.sl 9)])=enc (nth l k):=Ck l k rfl
def Cr(v:Event):bD aJ.tab [.int .i64,.str,.str,.str,.int .i64,.str,.sl 9] (aB.cells v):=⟨rfl,trivial,trivial,trivial,rfl,trivial,jW _,trivial⟩
def aHI:aJ.tab 33=[.int .i64,.str,.str,.str,.int .i64,.str,.sl 9]:=by kernel_rfl
def aH1(l:List Event):cJ aJ.tab (.sl 33) (aj l):=by show dc _ (aJ.tab _) _;rw[aHI];exact D0 Cr l
structure Host where
 entries:List Entry
 parts:List Part
 up:List ByteArray
 shut:List ByteArray
 log:List Event
 deriving DecidableEq,Inhabited
instance :aB Host:={cells:=fun v=>[aj v.entries,aj v.parts,aj v.up,aj v.shut,aj v.log]}
def aZ(v:Host):aB.cells v=[aj v.entries,aj v.parts,aj v.up,aj v.shut,aj v.log]:=rfl
def mN(v:Host):bD aJ.tab [.sl 59,.sl 87,.sl 9,.sl 9,.sl 33] (aB.cells v):=⟨mh _,aH5 _,jW _,jW _,aH1 _,trivial⟩
def gK[Inhabited α]{l:List α}{k:Nat}(h:k<l.length):nth l k∈l:=by simp[nth,List.getD,bX h]
def Ua[Inhabited α]{l a:List α}(c:l.length=a.length)(h:∀i,i<l.length->nth l i=nth a i):l=a:=by refine List.ext_getElem c fun i b d=> ?_;have:=h i b;simpa[nth,List.getD,bX b,bX d]using this
def az8[aB α]{l:List α}(h:Fits (aj l)){k:Nat}(c:k<l.length):dI (aB.cells (nth l k)):=by
 unfold aj Fits at h;have:∀(rows:List (List D)),Ig rows->∀r∈rows,dI r:=by
  intro rows;induction rows with
  |nil=>intro _ r b;cases b
  |cons a t ih=>intro h r b;rcases fI.1 b with rfl|b;exact h.1;exact ih h.2 r b
 exact this _ h.2 _ (fJ.2 ⟨_,gK c,rfl⟩)
def dW(p:Nat->Bool):Nat->Bool
 |0=>true
 |n+1=>dW p n&&p n
def jC{p:Nat->Bool}:∀{n:Nat},dW p n=true↔ ∀i,i<n->p i=true
 |0=>by simp[dW]
 |n+1=>by
  simp only[dW,aX,jC];exact⟨fun ⟨h1,h2⟩ i a=>by
   by_cases e:i=n
   ·subst e;exact h2
   ·exact h1 i (by omega),fun h=>⟨fun i a=>h i (by omega),h n (by omega)⟩⟩
def qm{p:Nat->Bool}{k:Nat}(a:k<n)(h:p k=false):dW p n=false:=by
 rcases b:dW p n with _|_
 ·rfl
 ·have:=jC.1 b k a;rw[h]at this;cases this
def cS:=And.intro (And.intro (And.intro (And.intro @aZ @ja) (And.intro @fF (And.intro @eO @rX))) (And.intro (And.intro @jN @fK) (And.intro @zJ (And.intro @vA @zI)))) (And.intro (And.intro (And.intro @mS @gZ) (And.intro @oZ (And.intro @V4 @xK))) (And.intro (And.intro @G4 (And.intro @sJ @V5)) (And.intro @aGb (And.intro @Int.toNat_natCast @Int.toNat_zero))))
def eu{tab:Nat->List CT}{c:E}{k:VC}
  (a:k.den P tab env Q L) (h:cP env gs->c.den env=.bool true:=by(intro hg;first|(simp only[cP,fI,tZ,wU,Dg,A8,eS]at hg ⊢;(try simp only[D.bool.injEq]at hg);(try simp only[D.bool.injEq]);grind)|(simp only[cP,fI,tZ,wU,Dg,A8,eS,cS]at hg ⊢;(try simp only[D.bool.injEq]at hg);(try simp only[D.bool.injEq]);grind))):(VC.rq (.cond gs c) k).den P tab env Q L:=aM h a
end
variable {M:Addr->Prop}{rows:List (List D)}{w:World}
section
open Go.RowKit
variable [GC]
def own(M:Addr->Prop)(g:Nat):Addr->Prop:=fun p=>M p\/p.block=g
section
variable {w w1:World}{M:Addr->Prop}{g:Nat}{T:TypeId}{len n k:Nat}{rows:List (List D)}
end
def mA(m:∀r∈rows,r.length=n){v:Value}(h:R w M (.sl rows) v) :
  ∃a cap,v=.slice a rows.length cap/\rows.length<=maxLen/\∀k row,rows[k]? =some row->∃b o vs,a=some ⟨b,o,none⟩/\vs.length=n/\Rs w M row vs/\∀(j:Nat) (u:Value),vs[j]? =some u->w.cell? ⟨b,o+k*n+j,none⟩=some u:=by
 obtain⟨a,len,cap,rfl,rfl,p,q,d,c⟩:=h;refine⟨a,cap,rfl,by omega,fun k row f=> ?_⟩;have t:k<rows.length:=(dh.1 f).1;rcases a with _|⟨b,o,s⟩
 ·have:=d rfl;omega
 ·obtain⟨i,l⟩:=c b o s rfl;have i:=i (by omega);subst i;obtain⟨vs,e,x,y⟩:=(l.get m f).cells;exact⟨b,o,vs,rfl,by rw[e,m row (jB f)],x,y⟩
def get_map[aB α](l:List α){k:Nat}(h:k<l.length):(l.map aB.cells)[k]? =some (aB.cells (nth l k)):=by rw[iw,nth,List.getD,bX h];rfl
def ma[aB α]{n:Nat}(h:∀x:α,(aB.cells x).length=n)(l:List α):∀r∈l.map aB.cells,r.length=n:=by intro r a;obtain⟨x,_,rfl⟩:=fJ.1 a;exact h x
end
variable {a:Addr}{M':Addr->Prop}{u v:Value}
section
open Go.RowKit Go
variable [GC]
def Tu{p:Addr}(h:p≠a)(s:a.spot=none)(d:p.spot=none\/True):(w.setCell a v).cell? p=w.cell? p\/(p.block=a.block/\p.off=a.off):=by
 by_cases b:p.block=a.block
 ·by_cases o:p.off=a.off
  ·exact .inr ⟨b,o⟩
  ·left;unfold World.cell? World.setCell;rw[b];simp only[Iu];cases i:w.heap[a.block]? with
   |none=>simp
   |some x=>
    cases x with
    |cells c e f=>
     simp only[s,Ze,j6,ue];split
     ·rfl
     ·simp[C5,ye o]
    |_=>simp
 ·left;exact Df (Below.heap_setCell _ _ _ _ b)
def Tv{p:Addr}(h:w.cell? p=some v):p.spot=none:=by
 unfold World.cell? at h;split at h
 ·split at h
  ·cases h
  ·rename_i s;simpa using s
 ·cases h
def ayW(h:w.cell? a=some u):(w.setCell a v).cell? a=some v:=by
 have s:=Tv h;unfold World.cell? World.setCell at *;simp only[Iu,ue];cases b:w.heap[a.block]? with
 |none=>rw[b]at h;cases h
 |some x=>
  rw[b]at h;cases x with
  |cells c e f=> simp only[s,Ze,yc,vz,j6]at h ⊢;have:=(rS.1 h).1;simp[C5,this]
  |_=>cases h
def R.less{d:D}(h:R w M d v)(a:∀p,M' p->M p):R w M' d v :=
 R.keep (fun p v b c=>⟨b,fun m=>c (a p m)⟩) d v h
mutual
def Sh:D->D->Prop
 |.str _,d=>∃s,d=.str s
 |.int k _,d=>∃n,d=.int k n
 |.sl rows,d=>∃r,d=.sl r/\YM rows r
 |.agg l,d=>∃a,d=.agg a/\Q2 l a
 |.aU l,d=>∃a,d=.aU a/\Q2 l a
 |.fn f p,d=>∃c,d=.fn f c/\YM p c
 |.bool _,d=>∃b,d=.bool b
 |.mem n,d=>d=.mem n
 |.un,d=>d=.un
def Q2:List D->List D->Prop
 |[],a=>a=[]
 |d::l,a=>∃b r,a=b::r/\Sh d b/\Q2 l r
def YM:List (List D)->List (List D)->Prop
 |[],a=>a=[]
 |r::l,a=>∃d b,a=d::b/\Q2 r d/\YM l b
end
section
variable {w w':World}{A M M':Addr->Prop}
end
def Gx:D->Bool
 |.bool _|.int _ _|.str _=>true
 |_=>false
def aD0{w':World}{d:D}(l:Gx d=true)(h:R w M d v):R w' M' d v:=by cases d<;>simp[Gx]at l<;>exact h
def Jw{b o len cap:Nat}{s:Option Nat}(f:∀r∈rows,r.length=n)(h:R w M (.sl rows) (.slice (some ⟨b,o,s⟩) len cap)){i j:Nat}{r:List D}{d:D}(m:rows[i]? =some r)(p:r[j]? =some d) :
  ∃u,w.cell? ⟨b,o+i*n+j,none⟩=some u/\¬M ⟨b,o+i*n+j,none⟩/\R w M d u:=by
 obtain⟨a,l,c,e,t,v,x,y,q⟩:=h;cases e;exact((q b o s rfl).2.get f m).get p
def Jx{b o len cap:Nat}{s:Option Nat}(h:∀r∈rows,r.length=n)(h1:len=rows.length)(h2:len<=cap)(a:cap<=maxLen)(c:0<len->s=none)
  (f:∀(i j:Nat) (r:List D) (d:D),rows[i]? =some r->r[j]? =some d->∃u,w.cell? ⟨b,o+i*n+j,none⟩=some u/\¬M ⟨b,o+i*n+j,none⟩/\R w M d u):R w M (.sl rows) (.slice (some ⟨b,o,s⟩) len cap):=by
 refine⟨_,_,_,rfl,h1,h2,a,(fun e=>by cases e),fun p q t e=> ?_⟩;cases e;exact⟨c,AZ h fun i r l=>CV fun j d m=>f i j r d l m⟩
def aH.calls(h:aH P f none ds r []){w:World}{M:Addr->Prop}{vs:List Value}(G:ek w M)(a:Rs w M ds vs) :
  Calls P f vs.toArray w fun e w'=>∃v,e=.returned v/\R w' M r v/\Below w.heap.size w w' :=
 (h.2 w M 0 vs G a (fun s h=>by cases h)).mono fun e w' ⟨v,b,c,d,_⟩=>⟨v,b,c,d.Eg⟩
def aHs(h:w.cell? a=some u)(f:w.frozen? a=false)(o:v.oneCell'=true):(store a v).run P w=.ok () (w.setCell a v):=by rw[run_store P w a v .plain o,h,f];rfl
def R.zero{d:D}(r:R w M d v):R w (fun _=>False) d v:=R.less r fun _ h=>h.elim
end
end Go.Proofs.YtoomhbopolalnabGreatDoor
