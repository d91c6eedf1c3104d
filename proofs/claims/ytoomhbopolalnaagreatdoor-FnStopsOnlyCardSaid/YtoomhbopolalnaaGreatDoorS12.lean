/- Conditions of functions of this seat's program. Written by fun.py. -/
import Derived.Test.YtoomhbopolalnaaGreatDoorS11
set_option linter.all false
set_option maxRecDepth 100000
namespace Go.Proofs.YtoomhbopolalnaaGreatDoor
section
open Go
set_option maxRecDepth 1000000
def apa:VC:=.rq (.new 12 ig bT) (.rq (.call [] 13 EA [] (.one K0) bT) (.rq (.cM 14 (some EB) [bP] (.one (.agg Pj)) bT [(6,1)]) (.ret (.bn (.bn gB bP) gN) [])))
def aJY:rH az aJ pN 5 none=apa:=by kernel_rfl
def aIp:List VT:=[(.one (.c (.sl 5)))]
def aIq:rG az aJ 5 none=aIp:=by kernel_rfl
def aFF:pN.get 5=[(11,1)]:=by kernel_rfl
def aoI:VC:=.rq (.call [] 29 none [(.sub aP 0 5),(.sub aV 0 5)] ba []) (.ite (.or rI (.ic .neq EC (.len adV))) dY (.loop gG gO (.ite (.ic .lss bM EC) (.rq (.cond [] (.bN Ap bM)) (.rq (.cond [] (.bN adV bM)) (.ite (.no (.ae (.row uR Ap bM) (.row uR adV bM))) dY Wx))) mh)))
def aHV:List VT:=[(.one (.agg [.str,.bool,.bool,(.sl 107),(.int .i64),(.sl 75)])),(.one (.agg [.str,.bool,.bool,(.sl 107),(.int .i64),(.sl 75)]))]
def aov:VC:=.ite (.ic .gtr iD Cw) dY (.loop gG gO (.ite CB (.rq CC (.rq (.call [] 59 none [Pp] ba []) aqV)) mh))
def aHJ:List VT:=[(.one (.c (.sl 42)))]
def aoH:VC:=.ite (.or (.or (.or (.or (.sc .neq cW nU) (.no (.bc iS tO))) (.no (.bc kK Hq))) (.ic .neq qB (.cell aV 4))) (.ic .neq EO (.len Pv))) dY (.loop gG gO (.ite (.ic .lss bD EO) (.rq (.cond [] (.bN jU bD)) (.rq (.cond [] (.bN Pv bD)) (.ite (.no (.ae (.row uR jU bD) (.row uR Pv bD))) dY wL))) mh))
def aHU:List VT:=[(.one (.agg [.str,.bool,.bool,(.sl 107),(.int .i64)])),(.one (.agg [.str,.bool,.bool,(.sl 107),(.int .i64)]))]
def aqw:VC:=.rq (.call [(KQ,false)] 35 EA [(.li .i64 12)] ba bT) (.ite (.or KQ bP) (.rq (.call [] 66 atk [] cq bT) (.ret gN P0)) (.rq (.call [] 36 atk [iD] aF bT) (.rq asw (.ret PZ P0))))
def aJH:List VT:=[(.one (.c (.sl 42))),(.one (.c (.sl 5))),aF,aF]
def ap4:VC:=.rq (.call [] 44 sO [(.put (.put (.put (.put (.put (.put (.put (.put (.put (.put (.put (.put fp Xa) Xa) (.aq PN)) (.aq K8)) (.aq K8)) (.aq LC)) (.aq LC)) (.aq K2)) (.aq Qm)) (.aq K6)) (.aq WY)) (.aq K1))] cq bT) (.ite (.sc .eql P6 K8) (.rq asN (.ret (.cat Xb (.cat Al (.cat asO aeI))) Aq)) (.ite (.sc .eql P6 LC) (.rq asN (.rq (.call [] 36 (some Aq) [(.li .i64 20)] aF bT) (.ret (.cat Xb (.cat Al (.cat WV aeI))) K5))) (.ite (.sc .eql P6 Qm) (.rq aeJ (.ret (.cat Xb (.cat asP (.cat Al aeI))) Aq)) (.ite (.sc .eql P6 K6) (.rq (.call [] 69 tP [] cq bT) (.ret (.cat Xb (.cat asP (.cat asO Px))) Aq)) (.ret P5 aeF)))))
def aJe:List VT:=[(.one (.c (.sl 5))),aF,aF]
def V0:VC:=.loop [aF,ED,aF,aF] [bf,aP,aV,bD] (.ite (.ic .lss bM tS) (.rq (.cM 74 tP [] fF bT [(0,1)]) (.rq (.call [] 45 none [fk] sP []) (.ite (.an (.proj oU 1) (.ic .neq (.proj oU 0) bf)) HQ (.again 0 [Am,gN,jG,sN])))) (.rq (.call [] 44 tP [(.put (.put (.put fp PT) W5) aeq)] cq bT) (.ret (.put fp Al) Aq)))
def an7:List VT:=[(.one (.c (.sl 5))),aF,aF]
def aoO:VC:=.loop [Hu,aF] [Ew,bf] (.ite wJ (.rq wK (.rq (.cM 75 none [(.row qv aP bD)] adX [] [(1,1),(4,4)]) arA)) Cy)
def aH1:List VT:=[(.one (.c (.sl 42)))]
def aor:VC:=.rq (.call [] 25 none [cW] ba []) (.rq (.call [(aqI,false)] 77 none [jU] ba []) (.ite (.or aqI rI) dY (.rq (.cM 26 none [cW] aqJ [] [(0,1),(1,1),(2,1)]) (.rq (.cM 78 none [bM] Qk [] [(0,1)]) (.loop gG gO (.ite (.ic .lss cz KL) (.rq (.cond [] (.bN bP cz)) (.rq (.cond [(V6,false)] (.bN iS cz)) (.rq (.call [(V6,false)] 79 none [(.row tM iS cz)] ba []) (.rq (.cond V7 (.bN iS cz)) (.rq (.call V7 81 none [(.row tM iS cz)] fF []) (.rq (.cond V7 (.bN cW cz)) (.rq (.call V7 80 none [fk,(.cell (.row qv cW cz) 1)] ba []) (.ite (.or (.or V6 KM) V9) dY We)))))))) (.loop gG gO (.ite (.ic .lss dM EO) (.rq (.cond [] (.bN jU dM)) (.rq (.call [] 24 none [cW,aqK] aF []) (.rq (.call [((.ic .lss fk bf),false)] 17 none [kK,aqK] ba []) (.ite (.or (.ic .lss fk bf) gN) dY aqL)))) (.loop gG gO (.ite (.ic .lss fk EP) (.rq (.cond [] (.bN qB fk)) (.rq (.call [] 82 none [(.row Pj qB fk)] ba []) (.ite V9 dY (.again 0 [KN])))) (.rq (.call [] 83 none [aP,bM] ba []) (.ret gN []))))))))))))
def aHF:List VT:=[(.one (.agg [(.sl 42),(.sl 51),(.sl 9),(.sl 9),(.sl 33)]))]
def apl:VC:=.rq (.call [] 61 none [cW] ba []) (.rq (.call [(zf,false)] 62 none [cW] fF []) (.rq (.call [((.or aen adD),false)] 88 none [cW,kK] ba []) (.ite (.or (.or (.or aen adD) rJ) aqH) dY (.loop gG gO (.ite (.ic .lss bP (.len iS)) (.rq (.cond [] (.bN iS bP)) (.rq (.call [] 89 none [(.row tM iS bP)] ba []) (.rq (.call aeo 91 none [(.row tM iS bP)] fF []) (.rq (.cond aeo (.bN cW bP)) (.rq (.call aeo 90 none [dM,(.cell (.row qv cW bP) 1)] ba []) (.ite (.or KJ Hz) dY adz)))))) (.loop gG gO (.ite (.ic .lss cz EO) (.rq (.cond [] (.bN jU cz)) (.rq (.call [] 37 none [cW,aep] aF []) (.rq (.call [((.ic .lss dM bf),false)] 22 none [kK,aep] ba []) (.rq (.cond [(ar9,false),((.ic .gtr cz bf),true)] (.bN jU asa)) (.ite (.or ar9 (.an (.ic .gtr cz bf) (.sc .geq (.cell (.row lP jU asa) 0) aep))) dY We))))) (.loop gG gO (.ite (.ic .lss dM EP) (.rq (.cond [] (.bN qB dM)) (.rq (.call [] 92 none [(.row Pj qB dM)] ba []) (.ite Hz dY aqL))) mh)))))))))
def aIz:List VT:=[(.one (.agg [(.sl 42),(.sl 51),(.sl 9),(.sl 9),(.sl 33)]))]
def aoo:VC:=.rq atZ (.rq (.call afn 97 none [cW] ba []) (.rq (.call [(afo,false)] 98 none XK ba []) (.ite (.or (.or afo rJ) aqD) dY (.loop gG gO (.ite (.ic .lss bP EP) (.rq aqE (.rq (.call [] 99 none [adx] ba []) aqF)) mh)))))
def aHD:List VT:=[(.one (.agg [.str,(.sl 9),(.int .i64),(.int .i64),(.sl 104)]))]
def apv:VC:=.ite KQ Wr (.rq (.cond [] Wj) (.rq (.cM 103 none aq5 aq6 [] [(3,2),(5,2)]) (.ite CD Wr (.rq aq8 (.loop aq9 ara (.ite arb (.rq arc (.rq (.cM 104 none arf KS [] [(3,2),(5,2)]) arh)) (.rq (.call [] 40 none [Wt] aF []) arj)))))))
def aII:List VT:=[(.one (.c (.sl 9)))]
def apQ:VC:=.rq (.cond [] (.ic .geq (.li .u64 35) (.li .u64 0))) (.rq (.cond [] (.ic .geq (.li .u64 45) (.li .u64 0))) (.ite CB (.rq CC (.ret (.ar .and .i64 (.ar .add .i64 asG (.conv .i64 (.cell (.row [(.int .u8)] aP aV) 0))) (.li .i64 255)) [aP,Pw,W7])) (.ret asG [aP,aV,W7])))
def aI1:List VT:=[(.one (.c (.sl 5))),aF,aF]
def ap1:VC:=.rq ars (.rq (.cond [] (.ic .neq wM bf)) (.ret (.ic .eql (.ar .rem .i64 (.ar .shr .i64 aP aV) wM) eJ) []))
def an6:List VT:=[aF,aF]
def aoP:VC:=.rq (.cM 47 none Au fF [] [(0,1)]) arB
def aH2:List VT:=[(.one (.agg [.str,(.sl 9),(.int .i64),(.int .i64),(.sl 104)]))]
def aou:VC:=.rq (.call [] 117 none Wk ba []) (.ite aqT dY (.loop gG gO (.ite Wl (.rq Wm (.rq (.call [] 118 none [Hl] KO []) (.rq (.call [(KP,false)] 120 none [aP,bD] aF []) (.rq (.call [(KP,false)] 119 none [bP,xQ] ba []) (.rq (.call [((.or KP KJ),false)] 121 none [Pn] ba []) (.ite (.or (.or (.or KP KJ) KM) (.an (.an (.ic .neq Pn bf) (.sc .neq Hl Wn)) (.sc .neq Hl Po))) dY wL)))))) mh)))
def aHI:List VT:=[(.one (.agg [.str,.bool,.bool,(.sl 107),(.int .i64),(.sl 75)]))]
def ao0:VC:=.rq vp5 (.loop [aF,Qk] [bf,(.rep 4 qA KZ)] (.ite (.ic .lss bD (.len kK)) (.rq (.cond [] (.bN kK bD)) (.rq (.call [] 24 none [cW,(.cell (.row lP kK bD) 0)] aF []) (.rq (.cond [((.ic .lss bP bf),false)] (.bN LF bP)) (.ite (.or (.ic .lss bP bf) (.cell (.row qA bM bP) 0)) dY (.rq (.cond [] (.bN tO bP)) (.loop gG gO (.ite (.ic .lss cz (.len ad3)) (.rq (.cond [] (.bN ad3 cz)) (.rq (.cond [(arP,true)] (.bN LF cz)) (.ite (.an arP (.no (.cell (.row qA bM cz) 0))) dY We))) (.rq (.cond [] (.bN LF bP)) (.again 1 [HO,(.aW bM bP PI 0)]))))))))) mh))
def aIe:List VT:=[(.one (.agg [(.sl 42),(.sl 51),(.sl 9),(.sl 9),(.sl 33)])),(.one (.agg [(.sl 4),(.sl 66),(.sl 66)]))]
def ap6:VC:=.rq (.cond [] (.few uN jU)) (.ret (.cat wI (.cat Py (.cat Cv (.cat (.aq (.app uN jU)) WC)))) [])
def aJg:List VT:=[(.one (.agg [.str,.bool,.bool,(.sl 107),(.int .i64)]))]
def apI:VC:=.loop Cu [(.put fp wI),bf] (.ite Wl (.rq Wm (.rq (.cond [] (.few aV Ww)) (.again 0 [(.app aV Ww),HO]))) Cy)
def aIU:List VT:=[(.one (.agg [.str,.bool,.bool,(.sl 107),(.int .i64),(.sl 75)]))]
def aot:VC:=.rq (.call [] 134 none [cW] ba []) (.rq (.call aqR 97 none Au ba []) (.rq (.call [(adK,true)] 98 none XK ba []) aqS))
def aHH:List VT:=[(.one (.agg [(.int .i64),.str,(.int .i64),(.int .i64)]))]
def apB:VC:=.rq (.cM 138 none ig (.aU [KT,EN]) [] [(3,2)]) arn
def aIO:List VT:=[cq]
def ap5:VC:=.rq (.call [] 36 sO [Cw] aF bT) (.loop [Hm,aF,ED,aF,aF] [uN,bM,bP,cz,dM] (.ite (.ic .gtr gN bf) (.rq (.call [] 68 HL [] cq bT) (.rq (.call [] 147 none [fk,pX] aF []) (.ite (.or Xc (.ic .lss (.len fk) tS)) (.rq (.call [] 36 (some K3) [(.li .i64 30)] aF bT) (.rq (.cM 148 none [fk,pX,zj] Hm [] [(0,2)]) (.again 0 [oZ,asQ,Cz,zk,pZ]))) (.again 0 [fk,asQ,oV,uP,xR])))) aeL))
def aJf:List VT:=[(.one (.c (.sl 5))),aF,aF]
def aqa:VC:=.rq (.call [] 35 sO P7 ba bT) (.ite bM (.rq (.call [] 44 tP [(.put (.put (.put (.put aeN (.aq (.ls ⟨#[76,97,109,112]⟩))) (.aq (.ls ⟨#[108,97,109,112,115]⟩))) (.aq (.ls ⟨#[114,111,99,107]⟩))) (.aq (.ls ⟨#[107,101,101,112]⟩)))] cq bT) HQ) (.rq (.call [] 44 tP [(.put (.put (.put (.put (.put (.put asb aeq) (.aq adN)) W5) W5) PT) PT)] cq bT) HQ))
def aJk:List VT:=[(.one (.c (.sl 5))),aF,aF]
def aoC:VC:=.rq (.call [] 134 none ig ba []) (.rq (.call afb 134 none [aV] ba []) (.ret (.an (.an bD bM) (.ic .eql (.ar .andNot .i64 aV aP) bf)) []))
def anW:List VT:=[aF,aF]
def ao2:VC:=.ret (.ae aP (.cat tN PL)) []
def aIg:List VT:=[(.one Cn)]
def apt:VC:=.rq (.call [] 113 none ig KO []) (.ret (.bn (.bn gB sQ) (.proj aV 2)) [])
def aIG:List VT:=[cq]
def apr:VC:=.ret (.an (.an (.an (.ic .geq cW bf) (.ic .leq cW Pq)) (.ic .geq iS bf)) (.ic .leq iS Pq)) []
def an2:List VT:=[(.one (.agg [(.int .i64),(.int .i64)]))]
def apG:VC:=.rq PW (.rq (.cM 93 none [bD,aV,qz] fF [] [(0,1)]) PG)
def aIS:List VT:=[(.one (.c (.sl 42))),cq]
def ape:VC:=.ite (.ic .eql aP aek) (.ret (.ls ⟨#[45,57,50,50,51,51,55,50,48,51,54,56,53,52,55,55,53,56,48,56]⟩) []) (.ite (.ic .lss aP bf) (.rq (.call [] 145 none [(.ar .sub .i64 bf aP)] cq []) (.rq (.cond [] (.uM PS aV)) (.ret (.tJ PS aV) []))) (.rq ar6 (.ite (.ic .gtr aP Et) (.rq ar6 (.rq (.call [] 145 none [(.ar .quo .i64 aP WZ)] cq []) (.rq (.cond [] (.uM aV ael)) (.ret (.tJ aV ael) [])))) (.ret ael []))))
def an0:List VT:=[aF]
def aqi:VC:=.rq (.call [] 35 sO [(.li .i64 16)] ba bT) (.ite bM (.rq (.call [] 44 tP [(.put (.put (.put (.put aeN (.aq (.ls ⟨#[80,108,97,105,110]⟩))) (.aq (.ls ⟨#[115,97,118,101]⟩))) (.aq (.ls ⟨#[99,111,117,110,116]⟩))) (.aq adL))] cq bT) HQ) (.rq (.call [] 44 tP [(.put (.put (.put (.put (.put (.put (.put asZ aeQ) Xg) Xg) (.aq ad1)) (.aq Po)) aeR) (.aq ad0))] cq bT) HQ))
def aJs:List VT:=[(.one (.c (.sl 5))),aF,aF]
def aoB:VC:=.rq (.cM 173 none ig (.aU [KT,EN]) [] [(3,2)]) arn
def aHO:List VT:=[cq]
def aqk:VC:=.rq (.call [] 175 sO [] Xh bT) (.rq (.call [] 35 tP [(.li .i64 7)] ba bT) (.ite fk (.rq (.call [] 176 (some Aq) [] aF bT) (.rq (.call [] 35 (some K5) [Et] ba bT) (.ite xR (.rq (.call [] 176 (some P9) [] aF bT) (.ret (.cat aeT (.cat WV fU)) Qa)) (.ret (.cat (.aq (.cell bM 0)) (.cat WV fU)) P9)))) (.rq (.call [] 35 (some Aq) [Et] ba bT) (.ite oU (.rq (.call [] 176 (some K5) [] aF bT) (.ret (.cat K7 (.cat (.aq (.cell bM 1)) fU)) P9)) (.ret bM K5)))))
def aJv:List VT:=[(.one (.c (.sl 5))),aF,aF]
def ap7:VC:=.ite (.an (.an kK (.sc .neq nU K1)) (.sc .neq nU K2)) (.ret (.bn EE WW) []) (.ite Xd (.ite Xd asS asT) (.ite (.sc .eql nU LC) asS asT))
def aJh:List VT:=[(.one (.agg [.str,.bool,.bool,(.sl 107),(.int .i64)])),(.one Cn),ba]
def ap0:VC:=.rq (.call [] 36 sO [(.li .i64 64)] aF bT) W8
def aJb:List VT:=[(.one (.c (.sl 5))),aF,aF]
def aqc:VC:=.ite (.sc .eql aV K1) (.ret (.bn (.bn gB (.cat wI (.cat Eu (.cat Eu aeP)))) HK) []) (.ite (.an (.sc .eql aV PN) (.no iS)) asU (.ite (.sc .eql aV PN) (.ret (.bn (.bn gB (.cat wI (.cat Eu (.cat Cv aeP)))) HK) []) (.ite iS (.ret (.bn (.bn gB (.cat wI (.cat Eu (.cat PI aeP)))) WW) []) (.rq aeM (.ret (.bn (.bn gB (.cat wI (.cat PI (.cat Cv (.cat PA adU))))) HK) [])))))
def aJm:List VT:=[(.one (.agg [.str,.bool,.bool,(.sl 107),(.int .i64)])),cq]
def apE:VC:=.loop [aF,aF] [bf,bf] (.ite (.an wJ (.ic .lss bD tS)) (.rq wK (.again 0 [(.ar .sub .i64 (.ar .add .i64 (.ar .mul .i64 WZ aV) (.conv .i64 (.at aP bD))) (.li .i64 48)),HO])) (.rq (.call [(ass,false)] 145 none [aV] cq []) (.ite (.or ass (.sc .neq bM aP)) Ps (.ret (.bn (.bn gB aV) gH) []))))
def an3:List VT:=[cq]
end
variable {f:FuncId}{Γ:List VT}{bx:Option (List CT)}{V:VC}
section
open Go.RowKit
variable [GC]
section
open Classical
variable {P:Program}{tab:Nat->List CT}{T:D->List D->Prop}
abbrev Out:=List D->D×List D
def zw{r0:D×List D}(m:T r0.1 r0.2):∀(V:VC) (env:List D) (L:List ((List D->Prop)×Out)),(∀x∈L,∀y,T (x.2 y).1 (x.2 y).2)->V.den P tab env T (L.map (·.1)) ->
  ∃r:D×List D,T r.1 r.2/\V.den P tab env (fun d bs=>d=r.1/\bs=r.2) (L.map fun x=>fun y=>x.1 y/\x.2 y=r)
 |.fail _,_,_,_,h=>h.elim
 |.ret e bs,env,L,_,h=>by simp only[VC.den]at h;exact⟨(e.den env,bs.map (fun x=>x.den env)),h,⟨rfl,rfl⟩⟩
 |.rq (.cond gs c) k,env,L,j,⟨h1,h2⟩=>by obtain⟨r,q1,q2⟩:=zw m k env L j h2;exact⟨r,q1,h1,q2⟩
 |.rq (.call gs f Y args F W) k,env,L,j,⟨d,z,h1,h2,l,p⟩=>by obtain⟨r,q1,q2⟩:=zw m k _ L j p;exact⟨r,q1,d,z,h1,h2,l,q2⟩
 |.rq (.cM f Y args F W i) k,env,L,j,⟨d,z,h1,h2,l,p⟩=>by obtain⟨r,q1,q2⟩:=zw m k _ L j p;exact⟨r,q1,d,z,h1,h2,l,q2⟩
 |.rq (.lH gs e args F) k,env,L,j,⟨d,h1,l,p⟩=>by obtain⟨r,q1,q2⟩:=zw m k _ L j p;exact⟨r,q1,d,h1,l,q2⟩
 |.rq (.xh g F ix) k,env,L,j,⟨d,h1,h2,l,p⟩=>by obtain⟨r,q1,q2⟩:=zw m k _ L j p;exact⟨r,q1,d,h1,h2,l,q2⟩
 |.rq (.new f args W) k,env,L,j,⟨z,h2,l,p⟩=>by obtain⟨r,q1,q2⟩:=zw m k _ L j p;exact⟨r,q1,z,h2,l,q2⟩
 |.ite c a b,env,L,j,⟨h1,h2⟩=>by
  cases B:(c.den env).kJ with
  |true=> obtain⟨r,q1,q2⟩:=zw m a env L j (h1 B);exact⟨r,q1,⟨fun _=>q2,fun h=>absurd (B.symm.trans h) (by simp)⟩⟩
  |false=> obtain⟨r,q1,q2⟩:=zw m b env L j (h2 B);exact⟨r,q1,⟨fun h=>absurd (B.symm.trans h) (by simp),fun _=>q2⟩⟩
 |.again d Z,env,L,j,h=>by
  simp only[VC.den,iq]at h;cases C:L[d]? with
  |none=>rw[C]at h;exact h.elim
  |some x=> rw[C]at h;refine⟨x.2 (Z.map (·.den env)),j x (jx C) _,?_⟩;simp only[VC.den,iq,C];exact⟨h,rfl⟩
 |.loop H t q,env,L,j,⟨I,i,z,B⟩=>by
  let J (s:List D) (o:Out) (r:D×List D):Prop:=T r.1 r.2/\q.den P tab (env++s) (fun d bs=>d=r.1/\bs=r.2) ((fun y=>(I y/\i y<i s)/\o y=r)::L.map fun x=>fun y=>x.1 y/\x.2 y=r)
  let G:(s:List D)->((y:List D)->i y<i s->D×List D)->D×List D:=fun s N=>
   if h:∃r,J s (fun y=>if O:i y<i s then N y O else r0) r then h.choose else r0
  let o:Out:=(measure i).wf.fix G
  have X:∀s,o s=if h:∃r,J s (fun y=>if i y<i s then o y else r0) r then h.choose else r0:=fun s=>by show(measure i).wf.fix G s=_;rw[WellFounded.fix_eq];rfl
  have A:∀s,T (o s).1 (o s).2:=fun s=>by
   rw[X];split
   ·rename_i h;exact h.choose_spec.1
   ·exact m
  have u:∀s,fK tab H s->dC s->I s->q.den P tab (env++s) (fun d bs=>d=(o s).1/\bs=(o s).2) ((fun y=>(I y/\o y=o s)/\i y<i s)::L.map fun x=>fun y=>x.1 y/\x.2 y=o s):=by
   intro s h1 h2 l;have v:∃r,J s (fun y=>if i y<i s then o y else r0) r:=by
    refine zw m q (env++s) ((fun y=>I y/\i y<i s,fun y=>if i y<i s then o y else r0)::L) ?_ (B s h1 h2 l);intro x Q y;rcases fw.1 Q with rfl|Q
    ·simp only;split
     ·exact A y
     ·exact m
    ·exact j x Q y
   have S:o s=v.choose:=by rw[X,dif_pos v]
   have U:=v.choose_spec.2;rw[<-S]at U;have j:(fun y=>(I y/\i y<i s)/\(if i y<i s then o y else r0)=o s)=(fun y=>(I y/\o y=o s)/\i y<i s):=by funext y;apply propext;by_cases O:i y<i s<;>simp[O]
   rw[j]at U;exact U
  refine⟨o (t.map (·.den env)),A _,fun s=>I s/\o s=o (t.map (·.den env)),i,⟨z,rfl⟩,?_⟩;rintro s h1 h2 ⟨l,p⟩;have:=u s h1 h2 l;rw[p]at this;exact this
def XW{t:TB}{m:RB}(p:rH P t m f bx=V)(o:V.ok=true)(a:rG P t f bx=Γ)(c:cY P t t=true)(q:P.follows .mixedOrders=true)
  {bc:Option (List D)} {ds:List D} {r0:D×List D} (j:T r0.1 r0.2) (e:bc.map List.length=bx.map List.length) (hty:fK t.tab Γ (ds++bc.getD [])) (b:bx=none->∀d bs,T d bs->bs=[])
  (i:dC ds->dC (bc.getD [])->V.den P t.tab (ds++bc.getD []) T []):∃r:D×List D,T r.1 r.2/\dN P f bc ds r.1 r.2 (m.get f):=by
 by_cases l:dC ds/\dC (bc.getD [])
 ·obtain⟨r,q1,q2⟩:=zw j V _ [] (by simp) (i l.1 l.2);exact⟨r,q1,Qx p o a c q e hty (fun h=>b h _ _ q1) fun _ _=>q2⟩
 ·exact⟨r0,j,Qx p o a c q e hty (fun h=>b h _ _ j) fun s u=>absurd ⟨s,u⟩ l⟩
def auH{t:TB}{i:RB}(j:rH P t i f bx=V)(o:V.ok=true)(a:rG P t f bx=Γ)(b:cY P t t=true)(m:P.follows .mixedOrders=true)
  {bc:Option (List D)} {ds:List D} {r0:D×List D} (l:T r0.1 r0.2) (c:bc.map List.length=bx.map List.length) (hty:fK t.tab Γ (ds++bc.getD [])) (h:bx=none->∀d bs,T d bs->bs=[])
  (e:dC ds->dC (bc.getD [])->V.den P t.tab (ds++bc.getD []) T []):∃r:D×List D,T r.1 r.2/\aG P f bc ds r.1 r.2:=by
 obtain⟨r,p,q⟩:=XW j o a b m l c hty h e;exact⟨r,p,.fZ q⟩
end
end
variable {r:D}{Q:D->List D->Prop}{T:D->Prop}{gs:Gd}{L:List (List D->Prop)}{t:List (Nat×Nat)}{ds env env' xs:List D}{args es inits:List E}{eD:List VT}{P:Program}{α:Type}{vt:VT}
section
open Go.RowKit Go
variable [GC]
def cA:(∀{α:Type} {a:α} {r s:List α},(a::r)++s=a::(r++s))/\(∀{α:Type} (r:List α),[]++r=r):=⟨by simp,by simp⟩
def gE:(∀{α:Type} {a b:α} {l:List α},a∈b::l↔a=b\/a∈l)/\(∀{α:Type} {a:α},¬a∈([]:List α))/\(∀(p:Prop),(p\/False)=p)/\(∀{α:Type} {p:α->Prop} {q:α->Prop} {a:α},(∀x,x=a\/q x->p x)↔p a/\∀x,q x->p x)/\(∀{α:Type} {p:α->Prop} {a:α},(∀x,x=a->p x)↔p a):=⟨fw,vf,yg,Fz,Db⟩
def mo:az.follows .mixedOrders=true:=by kernel_rfl
def auF(c:rH az aJ pN f none=V)(a:rG az aJ f none=Γ){b:List (Nat×Nat)}(t:pN.get f=b)(o:V.ok=true){ds:List D}{r:D}
  (hty:fK aJ.tab Γ ds) (e:dC ds->V.den az aJ.tab ds (fun d bs=>d=r/\bs=[]) []):dN az f none ds r [] b :=
 t▸Qx c o a Ck mo rfl (by simpa using hty) (fun _=>rfl) (fun h _=>by simpa using e h)
def auI(b:rH az aJ pN f none=V)(a:rG az aJ f none=Γ)(o:V.ok=true){ds:List D}{r:D}
  (hty:fK aJ.tab Γ ds) (e:dC ds->V.den az aJ.tab ds (fun d bs=>d=r/\bs=[]) []):aG az f none ds r [] :=
 XX b o a Ck mo rfl (by simpa using hty) (fun _=>rfl) (fun h _=>by simpa using e h)
def bZ(V:VC)(Γ:List VT){ds:List D}{r:D}(hty:fK aJ.tab Γ ds)(h:dC ds->V.den az aJ.tab ds (fun d bs=>d=r/\bs=[]) [])(b:rH az aJ pN f none=V:=by kernel_rfl)(a:rG az aJ f none=Γ:=by kernel_rfl)(o:V.ok=true:=by rfl):aG az f none ds r []:=auI b a o hty h
def gu(V:VC)(Γ:List VT){b:List (Nat×Nat)}{ds:List D}{r:D}(hty:fK aJ.tab Γ ds)(h:dC ds->V.den az aJ.tab ds (fun d bs=>d=r/\bs=[]) [])(c:rH az aJ pN f none=V:=by kernel_rfl)(a:rG az aJ f none=Γ:=by kernel_rfl)(t:pN.get f=b:=by kernel_rfl)(o:V.ok=true:=by rfl):dN az f none ds r [] b:=auF c a t o hty h
def auC{ct:List (List CT)}(b:VY az aJ pN f ct=V)(a:VP az aJ f ct=Γ)(o:V.ok=true){c:List (List D)}{ds:List D}{r:D}(l:c.length=ct.length)
  (hty:fK aJ.tab Γ (ds++c.map .agg)) (h:dC ds->dC (c.map .agg)->V.den az aJ.tab (ds++c.map .agg) (fun d bs=>d=r/\bs=[]) []):LJ az f ds c r :=
 auB b o a Ck mo l hty h
def ayE{tab:Nat->List CT}{e:E}{k:VC}{x:D}
  (h:e.den env=x) (ha:args.map (·.den env)=xs) (c:Qy P x xs r) (hty:bH tab vt r) (a:k.den P tab (env++[r]) Q L):(VC.rq (.lH gs e args vt) k).den P tab env Q L :=
 ⟨r,hty,fun _=>by rw[h,ha];exact c,a⟩
def auJ(a:rT P f=true)
  (h:∀(w:World) (M:Addr->Prop) (vs:List Value),(∀p,M p->p.block<w.heap.size)->Rs w M ds vs->Calls P f vs.toArray w fun e w'=>∃v,e=.returned v/\R w' M r v/\Below w.heap.size w w'):aG P f none ds r [] :=
 ⟨a,fun w M g vs b c _=>(h w M vs b.1 c).mono fun e w' ⟨v,d,i,j⟩=>⟨v,d,i,zo j (bK _),fun h=>by cases h⟩⟩
def CL(a:rT P f=true)
  (h:∀(w:World) (M:Addr->Prop) (vs:List Value),dZ w M->Rs w M ds vs->Calls P f vs.toArray w fun e w'=>∃v,e=.returned v/\R w' M r v/\Below w.heap.size w w'):aG P f none ds r [] :=
 ⟨a,fun w M g vs b c _=>(h w M vs b c).mono fun e w' ⟨v,d,i,j⟩=>⟨v,d,i,zo j (bK _),fun h=>by cases h⟩⟩
inductive Ay:List (List D->Prop)->List (List D->Prop)->Prop
 |nil:Ay [] []
 |cons {p q:List D->Prop} {L L':List (List D->Prop)} (h:∀ys,p ys->q ys) (t:Ay L L'):Ay (p::L) (q::L')
def Ay.refl:∀L,Ay L L
 |[]=>.nil
 |_::L=>.cons (fun _ h=>h) (Ay.refl L)
def Ay.get{b:List (List D->Prop)}(h:Ay L b):∀{d:Nat} {p:List D->Prop},L[d]? =some p->∃q,b[d]? =some q/\∀y,p y->q y:=by
 induction h with
 |nil=>intro d p a;simp at a
 |cons h t ih=>
  intro d p a;cases d with
  |zero=>simp at a;subst a;exact⟨_,rfl,h⟩
  |succ d=>simp at a;simpa using ih a
def zu{P:Program}{tab:Nat->List CT}{Q s:D->List D->Prop}(j:∀d bs,Q d bs->s d bs):∀(V:VC) (env:List D) {L r:List (List D->Prop)},Ay L r->V.den P tab env Q L->V.den P tab env s r
 |.fail _,_,_,_,_,h=>h.elim
 |.ret e bs,env,_,_,_,h=>j _ _ h
 |.rq (.cond gs c) k,env,_,_,i,⟨h1,h2⟩=>⟨h1,zu j k env i h2⟩
 |.rq (.call gs f bx args vt nb) k,env,_,_,i,⟨d,cs,h1,h2,l,m⟩=>⟨d,cs,h1,h2,l,zu j k _ i m⟩
 |.rq (.cM f bx args vt nb v) k,env,_,_,i,⟨d,cs,h1,h2,l,m⟩=>⟨d,cs,h1,h2,l,zu j k _ i m⟩
 |.rq (.lH gs e args vt) k,env,_,_,i,⟨d,h1,l,m⟩=>⟨d,h1,l,zu j k _ i m⟩
 |.rq (.xh g vt ix) k,env,_,_,i,⟨d,h1,h2,l,m⟩=>⟨d,h1,h2,l,zu j k _ i m⟩
 |.rq (.new f args nb) k,env,_,_,i,⟨cs,h2,l,m⟩=>⟨cs,h2,l,zu j k _ i m⟩
 |.ite c a b,env,_,_,i,⟨h1,h2⟩=>⟨fun h=>zu j a env i (h1 h),fun h=>zu j b env i (h2 h)⟩
 |.loop y t o,env,_,_,i,⟨I,u,h1,h2⟩=>⟨I,u,h1,fun xs q1 q2 q3=>zu j o _ (.cons (fun _ h=>h) i) (h2 xs q1 q2 q3)⟩
 |.again d es,env,L,r,i,h=>by
  simp only[VC.den]at h ⊢;cases hd:L[d]? with
  |none=>rw[hd]at h;exact h.elim
  |some p=> rw[hd]at h;obtain⟨q,h1,h2⟩:=i.get hd;rw[h1];exact h2 _ h
class aB(α:Type) extends Inhabited α where
 cells:α->List D
def nth[Inhabited α](l:List α)(k:Nat):α:=l.getD k default
def enc[aB α](x:α):D:=.agg (aB.cells x)
def ak[aB α](l:List α):D:=.sl (l.map aB.cells)
def Ci[aB α](l:List α)(k:Nat){z:List D}(h:aB.cells (default:α)=z):D.agg (((l.map aB.cells)[k]?).getD z)=enc (nth l k):=by unfold enc nth;rw[kQ,iq];cases l[k]? <;>simp[h]
@[simp] def ay3[aB α] (l:List α):(ak l).lO=l.map aB.cells:=rfl
@[simp] def vJ[aB α] (l:List α):cK (ak l)=l.length:=by simp[ak,cK]
@[simp] def ay4[aB α] (x:α):(enc x).kZ=aB.cells x:=rfl
def BQ(r:List (List D)):cK (.sl r)=r.length:=rfl
def qZ(n:Nat):cK (.mem n)=n:=rfl
def qO{tab:Nat->List CT}{body:VC}
  (St:Type) (e:St->List D) (I:St->Prop) (μ:St->Nat) (s0:St) (hμ:∀s s',e s=e s'->μ s=μ s') (h0:inits.map (·.den env)=e s0) (hI:I s0)
  (hs:∀s,I s->dC (e s)->body.den P tab (env++e s) Q ((fun ys=>∃s',ys=e s'/\I s'/\μ s'<μ s)::L)):(VC.loop eD inits body).den P tab env Q L:=by
 classical
 let m:List D->Nat:=fun xs=>if h:∃s,xs=e s then μ h.choose else 0
 have hm:∀s,m (e s)=μ s:=by intro s;have hx:∃s',e s=e s':=⟨s,rfl⟩;show(if h:∃s',e s=e s' then μ h.choose else 0)=μ s;rw[dif_pos hx];exact(hμ _ _ hx.choose_spec).symm
 refine⟨fun xs=>∃s,xs=e s/\I s,m,⟨s0,h0,hI⟩,?_⟩;rintro xs _ hf ⟨s,rfl,hIs⟩;have:=hs s hIs hf;have he:(fun ys=>(∃s,ys=e s/\I s)/\m ys<m (e s))=(fun ys=>∃s',ys=e s'/\I s'/\μ s'<μ s):=by
  funext ys;apply propext;constructor
  ·rintro⟨⟨s',rfl,h⟩,h2⟩;exact⟨s',rfl,h,by rwa[hm,hm]at h2⟩
  ·rintro⟨s',rfl,h,h2⟩;exact⟨⟨s',rfl,h⟩,by rwa[hm,hm]⟩
 rw[he];exact this
def wrap_i64{n:Int}(h1: -9223372036854775808<=n)(h2:n<=9223372036854775807):IntKind.i64.wrap n=n:=by simp only[IntKind.wrap,IntKind.bits,IntKind.signed];simp;omega
def FK{tab:Nat->List CT}{k:VC}
  (ha:args.map (·.den env)=xs) (h:aG P f none xs r []) (hty:bH tab vt r) (a:k.den P tab (env++[r]) Q L):(VC.rq (.call gs f none args vt []) k).den P tab env Q L :=
 ⟨r,[],hty,trivial,fun _=>ha▸h,a⟩
def ZG{tab:Nat->List CT}{k:VC}
  (ha:args.map (·.den env)=xs) (h:dN P f none xs r [] t) (hty:bH tab vt r) (a:k.den P tab (env++[r]) Q L):(VC.rq (.cM f none args vt [] t) k).den P tab env Q L :=
 ⟨r,[],hty,trivial,ha▸h,a⟩
def wZ{tab:Nat->List CT}{k:VC}
  (ha:args.map (·.den env)=xs) (c:cO env gs->aG P f none xs r []) (hty:bH tab vt r) (a:k.den P tab (env++[r]) Q L):(VC.rq (.call gs f none args vt []) k).den P tab env Q L :=
 ⟨r,[],hty,trivial,fun h=>ha▸c h,a⟩
def aH{tab:Nat->List CT}{k:VC}(h:aG P f none xs r [])(a:k.den P tab env' Q L)(ha:args.map (·.den env)=xs:=by(first|(simp only[gS];done)|(simp only[gS];exact rfl)|(simp only[gS,cS];try exact rfl)))(e:env++[r]=env':=by(simp only[gY,iw];try exact rfl))(hty:bH tab vt r:=by first|trivial|exact kA _|exact⟨rfl,trivial,trivial⟩|exact⟨rfl,rfl,trivial,trivial⟩):(VC.rq (.call gs f none args vt []) k).den P tab env Q L:=FK ha h hty (by rw[e];exact a)
def fD{tab:Nat->List CT}{k:VC}(h:dN P f none xs r [] t)(a:k.den P tab env' Q L)(ha:args.map (·.den env)=xs:=by(first|(simp only[gS];done)|(simp only[gS];exact rfl)|(simp only[gS,cS];try exact rfl)))(e:env++[r]=env':=by(simp only[gY,iw];try exact rfl))(hty:bH tab vt r:=by first|trivial|exact kA _|exact⟨rfl,trivial,trivial⟩|exact⟨rfl,rfl,trivial,trivial⟩):(VC.rq (.cM f none args vt [] t) k).den P tab env Q L:=ZG ha h hty (by rw[e];exact a)
def aQ{tab:Nat->List CT}{c:E}{k:VC}
  (h:cO env gs->c.den env=.bool true) (a:k.den P tab env Q L):(VC.rq (.cond gs c) k).den P tab env Q L:=⟨h,a⟩
def aj{tab:Nat->List CT}{c:E}{a b:VC}
  (h1:(c.den env).kJ=true->a.den P tab env Q L) (h2:(c.den env).kJ=false->b.den P tab env Q L):(VC.ite c a b).den P tab env Q L:=⟨h1,h2⟩
def ay{tab:Nat->List CT}{e:E}(h:e.den env=r):(VC.ret e []).den P tab env (fun d bs=>d=r/\bs=[]) L:=⟨h,rfl⟩
def Ji{tab:Nat->List CT}{St:Type}{e:St->List D}{I:St->Prop}{a:St->Nat}{m:Nat}(s:St)
  (h:es.map (·.den env)=e s) (b:I s) (c:a s<m):(VC.again 0 es).den P tab env Q ((fun y=>∃s,y=e s/\I s/\a s<m)::L):=⟨s,h,b,c⟩
def auE{b:List (Nat×Nat)}(c:rH az aJ pN f none=V)(t:pN.get f=b)(o:V.ok=true)(a:rG az aJ f none=Γ)(hty:fK aJ.tab Γ ds)(r0:D)(i:T r0)
  (e:dC ds->V.den az aJ.tab ds (fun d bs=>T d/\bs=[]) []):∃r,T r/\dN az f none ds r [] b:=by
 obtain⟨⟨r,bs⟩,⟨q1,q2⟩,q3⟩:=XW (T:=fun d bs=>T d/\bs=[]) (r0:=(r0,[])) c o a Ck mo ⟨i,rfl⟩ (bc:=none) rfl (by simpa using hty) (fun _ d bs h=>h.2) (fun h _=>by simpa using e h);simp only at q2;subst q2;exact⟨r,q1,t▸q3⟩
def ayD{tab:Nat->List CT}{k:VC}
  (ha:args.map (·.den env)=xs) (c:∃r,T r/\dN P f none xs r [] t) (hty:∀r,T r->bH tab vt r) (a:∀r,T r->k.den P tab (env++[r]) Q L):(VC.rq (.cM f none args vt [] t) k).den P tab env Q L:=by
 obtain⟨r,h,b⟩:=c;exact⟨r,[],hty r h,trivial,ha▸b,a r h⟩
def cU{tab:Nat->List CT}{body:VC}
  (n:Nat) (st:Nat->List D) (I:Nat->Prop) (h0:inits.map (·.den env)=st 0) (hI:I 0)
  (hs:∀k,k<=n->I k->dC (st k)->body.den P tab (env++st k) Q ((fun ys=>k<n/\ys=st (k+1)/\I (k+1))::L)):(VC.loop eD inits body).den P tab env Q L:=by
 classical
 let last:List D->Nat->Nat:=fun xs m=>Nat.rec 0 (fun j r=>if xs=st (j+1)/\I (j+1)then j+1 else r) m
 have aCV:∀xs m,last xs m<=m:=by
  intro xs m;induction m with
  |zero=>exact bK _
  |succ m ih=> show(if xs=st (m+1)/\I (m+1)then m+1 else last xs m)<=m+1;split<;>omega
 have aCT:∀xs m k,k<=m->xs=st k->I k->k<=last xs m:=by
  intro xs m;induction m with
  |zero=>intro k hk _ _;omega
  |succ m ih=>
   intro k hk hx hi;show k<=(if xs=st (m+1)/\I (m+1)then m+1 else last xs m);by_cases h:k=m+1
   ·subst h;rw[aD ⟨hx,hi⟩];exact bK _
   ·have:=ih k (by omega) hx hi;split<;>omega
 have aCU:∀xs m k,k<=m->xs=st k->I k->xs=st (last xs m)/\I (last xs m):=by
  intro xs m;induction m with
  |zero=>
   intro k hk hx hi;have:k=0:=by omega
   subst this;exact⟨hx,hi⟩
  |succ m ih=>
   intro k hk hx hi;show xs=st (if xs=st (m+1)/\I (m+1)then m+1 else last xs m)/\I (if xs=st (m+1)/\I (m+1)then m+1 else last xs m);by_cases h:xs=st (m+1)/\I (m+1)
   ·rw[aD h];exact h
   ·rw[aw h];refine ih k ?_ hx hi;rcases dO k (m+1)with hlt|hge
    ·omega
    ·have:k=m+1:=by omega
     subst this;exact absurd ⟨hx,hi⟩ h
 refine⟨fun xs=>∃k,k<=n/\xs=st k/\I k,fun xs=>n-last xs n,⟨0,fO _,h0,hI⟩,?_⟩;rintro xs _ hf ⟨k,hk,hx,hi⟩;obtain⟨h1,h2⟩:=aCU xs n k hk hx hi;have h3:=aCV xs n;generalize hj:last xs n=j at *;subst h1;have:=hs j h3 h2 hf;refine zu (fun _ _ h=>h) _ _ ?_ this;refine .cons (fun ys hys=> ?_) (.refl _);obtain⟨q1,q2,q3⟩:=hys;refine⟨⟨j+1,by omega,q2,q3⟩,?_⟩;have:=aCT ys n (j+1) (by omega) q2 q3;show n-last ys n<n-last (st j) n;rw[hj];omega
def cJ{tab:Nat->List CT}{p q:Prop}
  (a:p) (h:es.map (·.den env)=xs) (b:q):(VC.again 0 es).den P tab env Q ((fun y=>p/\y=xs/\q)::L):=⟨a,h,b⟩
def ix(k:Nat):List D:=[.int .i64 k]
def bF{x y:Int}(h1: -9223372036854775808<=x+y:=by omega)(h2:x+y<=9223372036854775807:=by omega):dQ .add .i64 x y=x+y:=wrap_i64 h1 h2
def lS{x y:Int}(h1: -9223372036854775808<=x-y:=by omega)(h2:x-y<=9223372036854775807:=by omega):dQ .sub .i64 x y=x-y:=wrap_i64 h1 h2
def Ea[aB α]{tab:Nat->List CT}{t:List CT}(h:∀x:α,bE tab t (aB.cells x))(l:List α):da tab t (l.map aB.cells) :=
 sV (by intro r a;obtain⟨x,_,rfl⟩:=fN.1 a;exact h x)
def kF[aB α]{l:List α}(h:Fits (ak l)):l.length<=maxLen:=by unfold ak Fits at h;simpa using h.1
def ahm(x y:Int):bg .lss x y=decide (x<y):=rfl
def Zy(x y:Int):bg .leq x y=decide (x<=y):=rfl
def ayb(x y:Int):bg .gtr x y=decide (x>y):=rfl
def aya(x y:Int):bg .geq x y=decide (x>=y):=rfl
def Zx(x y:Int):bg .eql x y=(x==y):=rfl
def ayc(x y:Int):bg .neq x y=(x != y):=rfl
def ZA:(∀{α c:Type} {f:α->c} {a:α} {l:List α},List.map f (a::l)=f a::List.map f l)/\(∀{α c:Type} {f:α->c},List.map f []=[])/\(∀{α c:Type} (f:α->c),Option.map f none=none)/\(∀{α c:Type} (a:α) (f:α->c),Option.map f (some a)=some (f a)) /\
  (∀{α:Type} {x:α} {xs:List α} {d:α},(x::xs).getD 0 d=x)/\(∀{α:Type} {x:α} {xs:List α} {n:Nat} {d:α},(x::xs).getD (n+1) d=xs.getD n d)/\(∀{α:Type} {a:α} {r s:List α},(a::r)++s=a::(r++s))/\(∀{α:Type} (r:List α),[]++r=r)/\(∀{α:Type} (r:List α),r++[]=r) /\
  (∀{α:Type} {a:α} {l:List α} {i:Nat},(a::l).drop (i+1)=l.drop i)/\(∀{α:Type} {l:List α},l.drop 0=l)/\(∀{α:Type} {a:α} {l:List α} {i:Nat},(a::l).take (i+1)=a::l.take i)/\(∀{α:Type} {l:List α},l.take 0=[]) /\
  (∀(k:IntKind) (n:Int),(D.int k n).ck=n)/\(∀b:Bool,(D.bool b).kJ=b)/\(∀s:ByteArray,(D.str s).Cl=s)/\(∀l:List D,(D.agg l).kZ=l)/\(∀l:List D,(D.aU l).VM=l)/\(∀l:List (List D),(D.sl l).lO=l) /\
  (∀{α:Type} [aB α] (x:α),(enc x).kZ=aB.cells x)/\(∀{α:Type} [aB α] (l:List α),(ak l).lO=l.map aB.cells)/\(∀{α:Type} [aB α] (l:List α),cK (ak l)=l.length) :=
 ⟨by simp,by simp,by simp,by simp,by simp,by simp,by simp,by simp,by simp,by simp,by simp,by simp,by simp,by simp,by simp,by simp,by simp,by simp,by simp,by simp,by simp,by simp⟩
def iEq:(∀x y:Int,bg .lss x y=decide (x<y))/\(∀x y:Int,bg .leq x y=decide (x<=y))/\(∀x y:Int,bg .gtr x y=decide (x>y))/\(∀x y:Int,bg .geq x y=decide (x>=y))/\(∀x y:Int,bg .eql x y=(x==y))/\(∀x y:Int,bg .neq x y=(x != y))/\(∀n:Nat,(n:Int).toNat=n)/\(0:Int).toNat=0 :=
 ⟨ahm,Zy,ayb,aya,Zx,ayc,gX,rfl⟩
def eE:=And.intro (And.intro (And.intro (And.intro (And.intro @E.den.eq_1 @E.den.eq_2) (And.intro @E.den.eq_3 (And.intro @E.den.eq_4 @E.den.eq_5))) (And.intro (And.intro @E.den.eq_6 @E.den.eq_7) (And.intro @E.den.eq_8 (And.intro @E.den.eq_9 @E.den.eq_10)))) (And.intro (And.intro (And.intro @E.den.eq_11 @E.den.eq_12) (And.intro @E.den.eq_13 (And.intro @E.den.eq_14 @E.den.eq_15))) (And.intro (And.intro @E.den.eq_16 @E.den.eq_17) (And.intro @E.den.eq_18 (And.intro @E.den.eq_19 @E.den.eq_20))))) (And.intro (And.intro (And.intro (And.intro @E.den.eq_21 @E.den.eq_22) (And.intro @E.den.eq_23 (And.intro @E.den.eq_24 @E.den.eq_25))) (And.intro (And.intro @E.den.eq_26 @E.den.eq_27) (And.intro @E.den.eq_28 (And.intro @E.den.eq_29 @E.den.eq_30)))) (And.intro (And.intro (And.intro @E.den.eq_31 @E.den.eq_32) (And.intro @E.den.eq_33 (And.intro @E.den.eq_34 @E.den.eq_35))) (And.intro (And.intro @E.den.eq_36 (And.intro @E.den.eq_37 @E.den.eq_38)) (And.intro @E.den.eq_39 (And.intro @E.den.eq_40 @E.den.eq_41)))))
def vE:=And.intro (And.intro (And.intro @VC.den.eq_1 @VC.den.eq_2) (And.intro @VC.den.eq_3 (And.intro @VC.den.eq_4 @VC.den.eq_5))) (And.intro (And.intro @VC.den.eq_6 (And.intro @VC.den.eq_7 @VC.den.eq_8)) (And.intro @VC.den.eq_9 (And.intro @VC.den.eq_10 @VC.den.eq_11)))
def gS:=And.intro vE (And.intro eE (And.intro ZA (And.intro @cP yd)))
def bS:=And.intro (And.intro (And.intro @Bool.true_and (And.intro @Bool.and_true @Bool.false_and)) (And.intro (And.intro @Bool.and_false @Bool.and_self) (And.intro @Bool.not_true @Bool.not_false))) (And.intro (And.intro (@cond_true.{1}) (And.intro (@cond_false.{1}) @beq_self_eq_true)) (And.intro (And.intro (@ite_true.{1}) (@ite_false.{1})) (And.intro (@if_true.{1}) (@if_false.{1}))))
instance :aB ByteArray:={cells:=fun s=>[.str s]}
instance :aB Int:={cells:=fun n=>[.int .i64 n]}
def fP(s:ByteArray):aB.cells s=[.str s]:=rfl
def ahk(n:Int):aB.cells n=[.int .i64 n]:=rfl
def jr(l:List ByteArray)(k:Nat):D.agg (((l.map aB.cells)[k]?).getD [eF CT.str])=enc (nth l k):=Ci l k rfl
def amB(l:List Int)(k:Nat):D.agg (((l.map aB.cells)[k]?).getD [eF (CT.int .i64)])=enc (nth l k):=Ci l k rfl
def Df(s:ByteArray)(k:Nat):Int:=((s[k]?).map fun (c:UInt8)=>(c.toNat:Int)).getD 0
def agq(s:ByteArray)(k:Nat):((s[k]?).map fun (c:UInt8)=>(c.toNat:Int)).getD 0=Df s k:=rfl
def aik{s:ByteArray}(h:Fits (.str s)):s.size<=9223372036854775807:=by simpa[Fits,maxLen]using h
def DM(s:ByteArray):cK (.str s)=s.size:=rfl
def aJO(s:ByteArray):bE aJ.tab [.str] (aB.cells s):=by simp[fP,bE,cI]
def OP:aJ.tab 9=[.str]:=by kernel_rfl
def kA(l:List ByteArray):cI aJ.tab (.sl 9) (ak l):=by show da _ (aJ.tab _) _;rw[OP];exact Ea aJO l
def Ej(a b:ByteArray):(a.toList==b.toList)=decide (a=b):=by rw[uX];simp only[vA,dr];refine⟨fun h=> ?_,fun h=>by rw[h]⟩;rw[ByteArray.toList_eq,ByteArray.toList_eq]at h;cases a;cases b;simp_all[iT]
def oA(a b:ByteArray):gz .eql a b=decide (a=b):=Ej a b
def Zz(a b:ByteArray):gz .neq a b= !decide (a=b):=by rw[<-Ej];rfl
def du(a b:ByteArray):Bool:=Op.bytesLess a.toList b.toList
def aye(a b:ByteArray):gz .lss a b=du a b:=rfl
def ayd(a b:ByteArray):gz .geq a b= !du a b:=rfl
def sEq:(∀s:ByteArray,cK (.str s)=s.size)/\(∀(s:ByteArray) (k:Nat),((s[k]?).map fun (c:UInt8)=>(c.toNat:Int)).getD 0=Df s k)/\(∀a b:ByteArray,gz .eql a b=decide (a=b))/\(∀a b:ByteArray,gz .neq a b= !decide (a=b))/\(∀a b:ByteArray,gz .lss a b=du a b)/\(∀a b:ByteArray,gz .geq a b= !du a b):=⟨DM,agq,oA,Zz,aye,ayd⟩
def eS:=And.intro eE (And.intro ZA (And.intro iEq sEq))
structure tW where
 name:ByteArray
 count:Int
 deriving DecidableEq,Inhabited
instance :aB tW:={cells:=fun v=>[.str v.name,.int .i64 v.count]}
def yn(v:tW):aB.cells v=[.str v.name,.int .i64 v.count]:=rfl
def D3(l:List tW)(k:Nat):D.agg (((l.map aB.cells)[k]?).getD [eF (CT.str),eF (CT.int .i64)])=enc (nth l k):=Ci l k rfl
def ay9(v u:tW):v=u↔v.name=u.name/\v.count=u.count:=⟨fun h=>by subst h;simp,fun h=>by cases v;cases u;simp_all⟩
def aze(v u:tW):kU (aB.cells v) (aB.cells u)=decide (v=u):=by rw[uX];simp[yn,kU,Dl,Ej,ay9,Mm]
def aHs(v:tW):bE aJ.tab [.str,.int .i64] (aB.cells v):=⟨trivial,rfl,trivial⟩
def aG9:aJ.tab 75=[.str,.int .i64]:=by kernel_rfl
def anR(l:List tW):cI aJ.tab (.sl 75) (ak l):=by show da _ (aJ.tab _) _;rw[aG9];exact Ea aHs l
structure Cell where
 key:ByteArray
 val:Int
 deriving DecidableEq,Inhabited
instance :aB Cell:={cells:=fun v=>[.str v.key,.int .i64 v.val]}
def mz(v:Cell):aB.cells v=[.str v.key,.int .i64 v.val]:=rfl
def rB(l:List Cell)(k:Nat):D.agg (((l.map aB.cells)[k]?).getD [eF (CT.str),eF (CT.int .i64)])=enc (nth l k):=Ci l k rfl
def ay7(v u:Cell):v=u↔v.key=u.key/\v.val=u.val:=⟨fun h=>by subst h;simp,fun h=>by cases v;cases u;simp_all⟩
def azd(v u:Cell):kU (aB.cells v) (aB.cells u)=decide (v=u):=by rw[uX];simp[mz,kU,Dl,Ej,ay7,Mm]
def aHq(v:Cell):bE aJ.tab [.str,.int .i64] (aB.cells v):=⟨trivial,rfl,trivial⟩
def aG6:aJ.tab 107=[.str,.int .i64]:=by kernel_rfl
def xO(l:List Cell):cI aJ.tab (.sl 107) (ak l):=by show da _ (aJ.tab _) _;rw[aG6];exact Ea aHq l
structure Core where
 kind:ByteArray
 on:Bool
 broken:Bool
 cells:List Cell
 count:Int
 deriving DecidableEq,Inhabited
instance :aB Core:={cells:=fun v=>[.str v.kind,.bool v.on,.bool v.broken,ak v.cells,.int .i64 v.count]}
def eM(v:Core):aB.cells v=[.str v.kind,.bool v.on,.bool v.broken,ak v.cells,.int .i64 v.count]:=rfl
def ay8(v u:Core):v=u↔v.kind=u.kind/\v.on=u.on/\v.broken=u.broken/\v.cells=u.cells/\v.count=u.count:=⟨fun h=>by subst h;simp,fun h=>by cases v;cases u;simp_all⟩
def pS(v:Core):bE aJ.tab [.str,.bool,.bool,.sl 107,.int .i64] (aB.cells v):=⟨trivial,trivial,trivial,xO _,rfl,trivial⟩
structure Call where
 method:ByteArray
 key:ByteArray
 val:Int
 text:ByteArray
 deriving DecidableEq,Inhabited
instance :aB Call:={cells:=fun v=>[.str v.method,.str v.key,.int .i64 v.val,.str v.text]}
def fB(v:Call):aB.cells v=[.str v.method,.str v.key,.int .i64 v.val,.str v.text]:=rfl
def ay6(v u:Call):v=u↔v.method=u.method/\v.key=u.key/\v.val=u.val/\v.text=u.text:=⟨fun h=>by subst h;simp,fun h=>by cases v;cases u;simp_all⟩
def azc(v u:Call):kU (aB.cells v) (aB.cells u)=decide (v=u):=by rw[uX];simp[fB,kU,Dl,Ej,ay6,Mm]
def Co(v:Call):bE aJ.tab [.str,.str,.int .i64,.str] (aB.cells v):=⟨trivial,trivial,rfl,trivial,trivial⟩
structure gK where
 code:Int
 val:Int
 text:ByteArray
 want:Int
 had:Int
 deriving DecidableEq,Inhabited
instance :aB gK:={cells:=fun v=>[.int .i64 v.code,.int .i64 v.val,.str v.text,.int .i64 v.want,.int .i64 v.had]}
def A7(v:gK):aB.cells v=[.int .i64 v.code,.int .i64 v.val,.str v.text,.int .i64 v.want,.int .i64 v.had]:=rfl
def wG(v:gK):bE aJ.tab [.int .i64,.int .i64,.str,.int .i64,.int .i64] (aB.cells v):=⟨rfl,rfl,trivial,rfl,rfl,trivial⟩
structure Part where
 core:Core
 ai:List tW
 deriving DecidableEq,Inhabited
instance :aB Part:={cells:=fun v=>[.str v.core.kind,.bool v.core.on,.bool v.core.broken,ak v.core.cells,.int .i64 v.core.count,ak v.ai]}
def iN(v:Part):aB.cells v=[.str v.core.kind,.bool v.core.on,.bool v.core.broken,ak v.core.cells,.int .i64 v.core.count,ak v.ai]:=rfl
def Vv(l:List Part)(k:Nat):D.agg (((l.map aB.cells)[k]?).getD [eF (CT.str),eF (CT.bool),eF (CT.bool),eF (CT.sl 107),eF (CT.int .i64),eF (CT.sl 75)])=enc (nth l k):=Ci l k rfl
def aza(v u:Part):v=u↔v.core=u.core/\v.ai=u.ai:=⟨fun h=>by subst h;simp,fun h=>by cases v;cases u;simp_all⟩
def jS(v:Part):bE aJ.tab [.str,.bool,.bool,.sl 107,.int .i64,.sl 75] (aB.cells v):=⟨trivial,trivial,trivial,xO _,rfl,anR _,trivial⟩
def aHc:aJ.tab 51=[.str,.bool,.bool,.sl 107,.int .i64,.sl 75]:=by kernel_rfl
def aHv(l:List Part):cI aJ.tab (.sl 51) (ak l):=by show da _ (aJ.tab _) _;rw[aHc];exact Ea jS l
structure lQ where
 mH:Int
 min:Int
 deriving DecidableEq,Inhabited
instance :aB lQ:={cells:=fun v=>[.int .i64 v.mH,.int .i64 v.min]}
def ML(v:lQ):aB.cells v=[.int .i64 v.mH,.int .i64 v.min]:=rfl
def En(v:lQ):bE aJ.tab [.int .i64,.int .i64] (aB.cells v):=⟨rfl,rfl,trivial⟩
structure mq where
 kW:Int
 j8:ByteArray
 least:lQ
 deriving DecidableEq,Inhabited
instance :aB mq:={cells:=fun v=>[.int .i64 v.kW,.str v.j8,.int .i64 v.least.mH,.int .i64 v.least.min]}
def zB(v:mq):aB.cells v=[.int .i64 v.kW,.str v.j8,.int .i64 v.least.mH,.int .i64 v.least.min]:=rfl
def Vu(l:List mq)(k:Nat):D.agg (((l.map aB.cells)[k]?).getD [eF (CT.int .i64),eF (CT.str),eF (CT.int .i64),eF (CT.int .i64)])=enc (nth l k):=Ci l k rfl
def Em(v:mq):bE aJ.tab [.int .i64,.str,.int .i64,.int .i64] (aB.cells v):=⟨rfl,trivial,rfl,rfl,trivial⟩
def aHb:aJ.tab 104=[.int .i64,.str,.int .i64,.int .i64]:=by kernel_rfl
def aHu(l:List mq):cI aJ.tab (.sl 104) (ak l):=by show da _ (aJ.tab _) _;rw[aHb];exact Ea Em l
structure Entry where
 name:ByteArray
 recipe:List ByteArray
 jT:lQ
 needs:List mq
 deriving DecidableEq,Inhabited
instance :aB Entry:={cells:=fun v=>[.str v.name,ak v.recipe,.int .i64 v.jT.mH,.int .i64 v.jT.min,ak v.needs]}
def iW(v:Entry):aB.cells v=[.str v.name,ak v.recipe,.int .i64 v.jT.mH,.int .i64 v.jT.min,ak v.needs]:=rfl
def oQ(l:List Entry)(k:Nat):D.agg (((l.map aB.cells)[k]?).getD [eF (CT.str),eF (CT.sl 9),eF (CT.int .i64),eF (CT.int .i64),eF (CT.sl 104)])=enc (nth l k):=Ci l k rfl
def Ah(v:Entry):bE aJ.tab [.str,.sl 9,.int .i64,.int .i64,.sl 104] (aB.cells v):=⟨trivial,kA _,rfl,rfl,aHu _,trivial⟩
def aG7:aJ.tab 42=[.str,.sl 9,.int .i64,.int .i64,.sl 104]:=by kernel_rfl
def mL(l:List Entry):cI aJ.tab (.sl 42) (ak l):=by show da _ (aJ.tab _) _;rw[aG7];exact Ea Ah l
structure ik where
 j8:ByteArray
 to:ByteArray
 kW:Int
 deriving DecidableEq,Inhabited
instance :aB ik:={cells:=fun v=>[.str v.j8,.str v.to,.int .i64 v.kW]}
def vF(v:ik):aB.cells v=[.str v.j8,.str v.to,.int .i64 v.kW]:=rfl
def xH(l:List ik)(k:Nat):D.agg (((l.map aB.cells)[k]?).getD [eF (CT.str),eF (CT.str),eF (CT.int .i64)])=enc (nth l k):=Ci l k rfl
def aHt(v:ik):bE aJ.tab [.str,.str,.int .i64] (aB.cells v):=⟨trivial,trivial,rfl,trivial⟩
def aHa:aJ.tab 157=[.str,.str,.int .i64]:=by kernel_rfl
def Ai(l:List ik):cI aJ.tab (.sl 157) (ak l):=by show da _ (aJ.tab _) _;rw[aHa];exact Ea aHt l
structure Event where
 kind:Int
 name:ByteArray
 call:Call
 recipe:List ByteArray
 deriving DecidableEq,Inhabited
instance :aB Event:={cells:=fun v=>[.int .i64 v.kind,.str v.name,.str v.call.method,.str v.call.key,.int .i64 v.call.val,.str v.call.text,ak v.recipe]}
def tj(v:Event):aB.cells v=[.int .i64 v.kind,.str v.name,.str v.call.method,.str v.call.key,.int .i64 v.call.val,.str v.call.text,ak v.recipe]:=rfl
def aFx(l:List Event)(k:Nat):D.agg (((l.map aB.cells)[k]?).getD [eF (CT.int .i64),eF (CT.str),eF (CT.str),eF (CT.str),eF (CT.int .i64),eF (CT.str),eF (CT.sl 9)])=enc (nth l k):=Ci l k rfl
def Cp(v:Event):bE aJ.tab [.int .i64,.str,.str,.str,.int .i64,.str,.sl 9] (aB.cells v):=⟨rfl,trivial,trivial,trivial,rfl,trivial,kA _,trivial⟩
def aG8:aJ.tab 33=[.int .i64,.str,.str,.str,.int .i64,.str,.sl 9]:=by kernel_rfl
def aHr(l:List Event):cI aJ.tab (.sl 33) (ak l):=by show da _ (aJ.tab _) _;rw[aG8];exact Ea Cp l
structure Host where
 entries:List Entry
 parts:List Part
 up:List ByteArray
 shut:List ByteArray
 log:List Event
 deriving DecidableEq,Inhabited
instance :aB Host:={cells:=fun v=>[ak v.entries,ak v.parts,ak v.up,ak v.shut,ak v.log]}
def bo(v:Host):aB.cells v=[ak v.entries,ak v.parts,ak v.up,ak v.shut,ak v.log]:=rfl
def pT(v:Host):bE aJ.tab [.sl 42,.sl 51,.sl 9,.sl 9,.sl 33] (aB.cells v):=⟨mL _,aHv _,kA _,kA _,aHr _,trivial⟩
def gF[Inhabited α]{l:List α}{k:Nat}(h:k<l.length):nth l k∈l:=by simp[nth,List.getD,bX h]
def Jz[Inhabited α]{l a:List α}(c:l.length=a.length)(h:∀i,i<l.length->nth l i=nth a i):l=a:=by refine List.ext_getElem c fun i b d=> ?_;have:=h i b;simpa[nth,List.getD,bX b,bX d]using this
def azq[aB α]{l:List α}(h:Fits (ak l)){k:Nat}(c:k<l.length):dC (aB.cells (nth l k)):=by
 unfold ak Fits at h;have:∀(rows:List (List D)),Ij rows->∀r∈rows,dC r:=by
  intro rows;induction rows with
  |nil=>intro _ r b;cases b
  |cons a t ih=>intro h r b;rcases fw.1 b with rfl|b;exact h.1;exact ih h.2 r b
 exact this _ h.2 _ (fN.2 ⟨_,gF c,rfl⟩)
def eK(p:Nat->Bool):Nat->Bool
 |0=>true
 |n+1=>eK p n&&p n
def kC{p:Nat->Bool}:∀{n:Nat},eK p n=true↔ ∀i,i<n->p i=true
 |0=>by simp[eK]
 |n+1=>by
  simp only[eK,aY,kC];exact⟨fun ⟨h1,h2⟩ i a=>by
   by_cases e:i=n
   ·subst e;exact h2
   ·exact h1 i (by omega),fun h=>⟨fun i a=>h i (by omega),h n (by omega)⟩⟩
def qg{p:Nat->Bool}{n k:Nat}(a:k<n)(h:p k=false):eK p n=false:=by
 rcases b:eK p n with _|_
 ·rfl
 ·have:=kC.1 b k a;rw[h]at this;cases this
def cS:=And.intro (And.intro (And.intro (And.intro @bo @iW) (And.intro @fB (And.intro @fP @tj))) (And.intro (And.intro @iN @eM) (And.intro @zB (And.intro @vF @yn)))) (And.intro (And.intro (And.intro @mz @jr) (And.intro @oQ (And.intro @Vu @xH))) (And.intro (And.intro @D3 (And.intro @rB @Vv)) (And.intro @aFx (And.intro @Int.toNat_natCast @Int.toNat_zero))))
def dK{tab:Nat->List CT}{c:E}{k:VC}
  (a:k.den P tab env Q L) (h:cO env gs->c.den env=.bool true:=by(intro hg;first|(simp only[cO,fw,vf,yg,Fz,Db,eS]at hg ⊢;(try simp only[D.bool.injEq]at hg);(try simp only[D.bool.injEq]);grind)|(simp only[cO,fw,vf,yg,Fz,Db,eS,cS]at hg ⊢;(try simp only[D.bool.injEq]at hg);(try simp only[D.bool.injEq]);grind))):(VC.rq (.cond gs c) k).den P tab env Q L:=aQ h a
end
section
open Go.RowKit
variable [GC]
def own(M:Addr->Prop)(g:Nat):Addr->Prop:=fun p=>M p\/p.block=g
section
variable {w w1:World}{M:Addr->Prop}{g:Nat}{T:TypeId}{len n k:Nat}{rows:List (List D)}
end
def mQ{w:World}{M:Addr->Prop}{rows:List (List D)}{n:Nat}(m:∀r∈rows,r.length=n){v:Value}(h:R w M (.sl rows) v) :
  ∃a cap,v=.slice a rows.length cap/\rows.length<=maxLen/\∀k row,rows[k]? =some row->∃b o vs,a=some ⟨b,o,none⟩/\vs.length=n/\Rs w M row vs/\∀(j:Nat) (u:Value),vs[j]? =some u->w.cell? ⟨b,o+k*n+j,none⟩=some u:=by
 obtain⟨a,len,cap,rfl,rfl,p,q,d,c⟩:=h;refine⟨a,cap,rfl,by omega,fun k row f=> ?_⟩;have t:k<rows.length:=(db.1 f).1;rcases a with _|⟨b,o,s⟩
 ·have:=d rfl;omega
 ·obtain⟨i,l⟩:=c b o s rfl;have i:=i (by omega);subst i;obtain⟨vs,e,x,y⟩:=(l.get m f).cells;exact⟨b,o,vs,rfl,by rw[e,m row (jx f)],x,y⟩
def get_map[aB α](l:List α){k:Nat}(h:k<l.length):(l.map aB.cells)[k]? =some (aB.cells (nth l k)):=by rw[iq,nth,List.getD,bX h];rfl
def mI[aB α]{n:Nat}(h:∀x:α,(aB.cells x).length=n)(l:List α):∀r∈l.map aB.cells,r.length=n:=by intro r a;obtain⟨x,_,rfl⟩:=fN.1 a;exact h x
end
end Go.Proofs.YtoomhbopolalnaaGreatDoor
