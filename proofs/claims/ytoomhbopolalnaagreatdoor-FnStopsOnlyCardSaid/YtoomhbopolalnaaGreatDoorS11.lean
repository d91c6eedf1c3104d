/- Conditions of functions of this seat's program. Written by fun.py. -/
import Derived.Test.YtoomhbopolalnaaGreatDoorS10
set_option linter.all false
namespace Go.Proofs.YtoomhbopolalnaaGreatDoor
open Go
set_option maxRecDepth 1000000
def aJV:VC:=.ret (.ic .gtr iD (.li .i64 4096)) []
def aIh:List VT:=[(.one (.c (.sl 5)))]
def aoD:VC:=.rq (.call [] 24 none [aP,aV] aF []) (.rq (.call [] 25 none ig ba []) (.ite (.or rJ (.ic .lss bD bf)) Wu (.rq (.cM 26 none ig aqJ [] [(0,1),(1,1),(2,1)]) (.rq (.cM 27 none [aP,(.FX (.FX (.fn0 28) bP) adU)] fF [] [(0,1)]) (.ret cz [])))))
def aHP:List VT:=[(.one (.c (.sl 42))),cq]
def aqx:VC:=.rq (.call [] 33 EA [(.put (.put (.put (.put (.put (.put (.put (.put (.put (.put as7 uO) uO) zi) xS) xS) xS) xS) xS) K4) KW)] aF bT) (.rq (.call [] 34 (some EB) [cW] cq bT) (.rq (.call [(ae1,true)] 35 HL [Wi] ba bT) (.ite (.an ae1 (.no pX)) (.rq (.call [] 36 (some K9) [(.len kK)] aF bT) (.rq (.cond [] (.bN kK pY)) (.ite atl (.rq (.call [] 36 (some CA) [EO] aF bT) (.rq (.cond [] (.bN jU pZ)) (.rq (.call [] 37 none [cW,ae3] aF []) (.ite (.an EI (.ic .lss qw bf)) (.ret (.cat p8 (.cat Qf Xo)) Xp) (.ite EI (.rq (.call [] 38 (some Xp) [] LA bT) (.loop Xq [bf,xU,tQ,xV,EH,ae3,(.cell p7 0),(.cell p7 1),(.cell p7 2),(.cell p7 3),Qg] (.rq (.cond Xr (.bN iS qw)) (.rq (.call Xr 40 none [(.row tM iS qw)] aF []) (.rq (.call Xr 41 none [Av] aF []) (.rq (.call Xr 39 none [(.var 40),(.var 41)] ba []) (.ite (.an atn (.no (.var 42))) (.rq (.call [] 38 (some [HU,Ar,HV]) [] LA bT) (.again 0 [(.ar .add .i64 xT eJ),(.var 44),(.var 45),(.var 46),EF,Qd,(.cell Xs 0),(.cell Xs 1),(.cell Xs 2),(.cell Xs 3),LB])) (.ret (.cat (.aq EF) (.cat Xt (.cat (.aq Av) (.cat (.aq Qh) (.cat (.aq Qi) (.cat (.aq Xu) (.cat (.aq LB) fU))))))) [HU,Ar,HV])))))))) (.ite Xv (.rq (.cM 42 (some Xp) [] fF bT [(0,1)]) (.rq (.call [(ae4,true)] 35 (some [xU,tQ,xV]) [wM] ba bT) (.ite (.an ae4 xT) (.rq (.cond [] (.bN cW qw)) (.rq (.cond [] (.inc atp bf eJ)) (.rq (.cM 43 none [(.cut atp bf eJ)] fF [] [(0,1)]) (.rq (.call [] 44 (some atq) ae6 cq bT) (.rq (.cond [] (.few EF (.put fp Xt))) (.rq (.call [] 45 none [atr] sP []) (.ite (.no (.proj Xu 1)) (.ret (.cat p8 (.cat Qf Xx)) [Av,Qh,Qi]) (.ret (.cat p8 (.cat Qf (.cat EJ (.cat EK (.cat EL (.cat EM (.cat (.aq atr) fU))))))) [Av,Qh,Qi])))))))) (.ret (.cat p8 (.cat Qf (.cat EJ (.cat EK (.cat EL (.cat EM (.cat (.aq p7) fU))))))) atq)))) (.ret (.cat p8 (.cat Qf ae7)) Xp))))))) (.rq (.call [] 37 none [cW,ae8] aF []) (.ite att (.ret (.cat p8 (.cat Qj Xo)) CA) (.ite EI (.rq atu (.loop Xq [bf,uQ,tR,qw,EH,ae8,(.cell oZ 0),(.cell oZ 1),(.cell oZ 2),(.cell oZ 3),Qg] atw)) (.ite Xv (.rq atx (.rq aty (.ite (.an XA p7) (.rq atz (.rq atB (.rq atD (.rq atE (.rq atF (.rq atI (.ite atJ (.ret (.cat p8 (.cat Qj Xx)) XC) (.ret (.cat p8 (.cat Qj atK)) XC)))))))) (.ret (.cat p8 (.cat Qj atL)) afa)))) (.ret (.cat p8 (.cat Qj ae7)) CA)))))))) (.ite atl (.rq (.call [] 36 (some K9) [EO] aF bT) (.rq (.cond [] (.bN jU pY)) (.rq (.call [] 37 none [cW,afc] aF []) (.ite att (.ret (.cat p8 (.cat Ql Xo)) CA) (.ite EI (.rq atu (.loop Xq [bf,uQ,tR,qw,EH,afc,(.cell oZ 0),(.cell oZ 1),(.cell oZ 2),(.cell oZ 3),Qg] atw)) (.ite Xv (.rq atx (.rq aty (.ite (.an XA p7) (.rq atz (.rq atB (.rq atD (.rq atE (.rq atF (.rq atI (.ite atJ (.ret (.cat p8 (.cat Ql Xx)) XC) (.ret (.cat p8 (.cat Ql atK)) XC)))))))) (.ret (.cat p8 (.cat Ql atL)) afa)))) (.ret (.cat p8 (.cat Ql ae7)) CA))))))) (.rq (.call [] 37 none [cW,afd] aF []) (.ite (.an EI (.ic .lss pY bf)) (.ret (.cat p8 (.cat XD Xo)) K9) (.ite EI (.rq (.call [] 38 (some K9) [] LA bT) (.loop Xq [bf,Cz,zk,pZ,EH,afd,(.cell zj 0),(.cell zj 1),(.cell zj 2),(.cell zj 3),Qg] (.rq (.cond XE (.bN iS pY)) (.rq (.call XE 40 none [(.row tM iS pY)] aF []) (.rq (.call XE 41 none [tQ] aF []) (.rq (.call XE 39 none [HV,EF] ba []) (.ite (.an atM (.no Qd)) (.rq (.call [] 38 (some [uQ,tR,qw]) [] LA bT) (.again 0 [(.ar .add .i64 oZ eJ),Qh,Qi,Xu,p7,xU,(.cell Av 0),(.cell Av 1),(.cell Av 2),(.cell Av 3),Ar])) (.ret (.cat (.aq p7) (.cat (.aq xU) (.cat (.aq tQ) (.cat (.aq xV) (.cat (.aq xT) (.cat Xz (.cat (.aq Ar) fU))))))) [uQ,tR,qw])))))))) (.ite Xv (.rq (.cM 42 (some K9) [] fF bT [(0,1)]) (.rq (.call [(Xc,true)] 35 (some [Cz,zk,pZ]) [wM] ba bT) (.ite (.an Xc oZ) (.rq (.cond [] (.bN cW pY)) (.rq (.cond [] (.inc atN bf eJ)) (.rq (.cM 43 none [(.cut atN bf eJ)] fF [] [(0,1)]) (.rq (.call [] 44 (some atO) ae6 cq bT) (.rq (.cond [] (.few p7 aff)) (.rq (.call [] 45 none [(.app p7 aff)] sP []) (.ite (.no (.proj HU 1)) (.ret (.cat p8 (.cat XD Xx)) [tQ,xV,xT]) (.ret (.cat p8 (.cat XD (.cat EJ (.cat EK (.cat EL (.cat EM (.cat (.aq (.app p7 aff)) fU))))))) [tQ,xV,xT])))))))) (.ret (.cat p8 (.cat XD (.cat EJ (.cat EK (.cat EL (.cat EM atP)))))) atO)))) (.ret EG K9)))))))))
def aJI:List VT:=[(.one (.agg [(.sl 42),(.sl 51),(.sl 9),(.sl 9),(.sl 33)])),(.one (.c (.sl 5))),aF,aF]
def aok:VC:=.loop gG gO (.ite wJ (.rq wK (.ite (.sc .eql (.cell (.row qv aP bD) 0) aV) Ev wL)) Hw)
def aHz:List VT:=[(.one (.c (.sl 42))),cq]
def aoE:VC:=.rq (.cond [] (.bN Hq Wv)) (.rq (.cond [] (.bN aro aP)) (.ret (.cell (.row qA aro aP) 0) []))
def aJT:VY az aJ pN 28 [aJ.tab 69,aJ.tab 3]=aoE:=by kernel_rfl
def aHQ:List VT:=[aF,(.one (.agg [(.sl 4),(.sl 66),(.sl 66)])),(.one (.agg [(.int .i64)]))]
def aHR:VP az aJ 28 [aJ.tab 69,aJ.tab 3]=aHQ:=by kernel_rfl
def VZ:VC:=.rq asH (.rq W6 (.ret (.cell (.row [oW] aP bP) 0) EB))
def an5:List VT:=[(.one (.c (.sl 3))),(.one (.c (.sl 5))),aF,aF]
def apc:VC:=.loop gG gO (.ite wJ (.rq wK (.ite (.sc .eql (.cell (.row qv aP bD) 0) aV) Ev wL)) Hw)
def aIs:List VT:=[(.one (.c (.sl 42))),cq]
def apN:VC:=.rq (.call [] 73 none ig aF []) art
def aIY:List VT:=[cq]
def apH:VC:=.rq (.cM 63 none ig KS [] [(3,2),(5,2)]) arp
def aIT:List VT:=[(.one (.c (.sl 9)))]
def aoQ:VC:=.rq (.cM 47 none V5 fF [] [(0,1)]) arC
def aH3:List VT:=[(.one (.agg [(.int .i64),.str,.str,.str,(.int .i64),.str,(.sl 9)]))]
def aqu:VC:=.rq (.cM 43 none V5 fF [] [(0,1)]) arC
def aJF:List VT:=[(.one (.agg [(.int .i64),.str,.str,.str,(.int .i64),.str,(.sl 9)]))]
def aqz:VC:=.rq aeD (.rq (.call [] 39 none [bD,eJ] ba []) (.ite rJ aeE (.rq (.call [] 95 none [aP,(.cat KX PL)] KS []) (.ret (.proj bP 0) []))))
def aJK:List VT:=[(.one (.agg [.str,.bool,.bool,(.sl 107),(.int .i64),(.sl 75)])),cq]
def apM:VC:=.rq PU (.ite zf Wu (.rq PW (.rq asv (.loop Cu [bM,bf] (.ite ad8 (.rq asA (.rq (.cM 93 none [bD,aeB,qz] fF [] [(0,1)]) (.rq (.call [] 22 none [dM,aeB] ba []) (.ite fk (.rq (.cM 56 none [bP,aeB] fF [] [(0,1)]) (.again 0 [gN,xP])) aev)))) (.loop Cu PF (.ite asB (.rq asC (.rq (.call [] 22 none [bP,aeC] ba []) (.rq (.cM 93 none [bD,aeC,qz] fF [] [(0,1)]) (.loop [ba,aF] [gN,bf] (.ite (.ic .lss oU (.len jG)) (.rq (.cond [] (.bN jG oU)) (.rq (.call [(sN,false)] 22 none [bP,(.cell (.row lP jG oU) 0)] ba []) (.again 0 [(.or sN pX),(.ar .add .i64 oU eJ)]))) (.ite sN (.rq (.cond [] (.few dM asD)) (.again 1 [(.app dM asD),KN])) (.again 1 [dM,KN]))))))) (.ret dM []))))))))
def aIX:List VT:=[(.one (.c (.sl 42)))]
def aqp:VC:=.rq (.call [] 44 sO [aeV] cq bT) W8
def aJA:List VT:=[(.one (.c (.sl 5))),aF,aF]
def apk:VC:=.ret (.an (.ic .geq aP bf) (.ic .leq aP Ph)) []
def an1:List VT:=[aF]
def aqj:VC:=.rq (.call [] 115 sO [] cq bT) (.rq aeJ (.loop [fF,aF,ED,aF,aF] [(.put fp Ct),fk,gN,jG,sN] (.ite (.ic .gtr pX bf) (.rq (.call [] 45 none [oU] sP []) (.rq (.call [] 116 (some K3) [(.proj pY 0)] cq bT) (.rq (.cond [] (.few oU as0)) (.again 0 [(.app oU as0),(.ar .sub .i64 pX eJ),Cz,zk,pZ])))) (.ret oU K3))))
def aJt:List VT:=[(.one (.c (.sl 5))),aF,aF]
def aog:VC:=.rq vp5 (.loop [aF,Qk] [bf,(.rep 4 qA KZ)] (.ite (.ic .lss aV (.len LF)) (.rq (.cond [] (.bN cW aV)) (.rq (.cond [(adw,false)] (.bN kK aV)) (.rq (.cond [(adw,false)] (.bN V8 aV)) (.rq adF (.loop [aF,Qk] [bf,(.aW bD aV (.aq (.or adw (.cell (.row qA V8 aV) 0))) 0)] (.ite (.ic .lss bM (.len LF)) (.rq adF (.rq (.cond [(Pr,false)] (.bN kK aV)) (.rq (.cond [(Pr,false)] (.bN V8 bM)) (.rq (.cond [(Pr,false),(adO,true)] (.bN cW bM)) (.rq (.cond ard (.bN kK bM)) (.rq (.cond ard (.bN ari bM)) (.rq adF (.again 0 [Am,(.aW bP aV (.aq (.or Pr (.an adO (.or aq7 (.cell (.row qA ari bM) 0))))) 0)])))))))) (.again 1 [Pw,bP]))))))) Ev))
def aHw:List VT:=[(.one (.agg [(.sl 4),(.sl 66),(.sl 66)]))]
def aop:VC:=.rq (.call [(V4,false)] 97 none Au ba []) (.ite (.or V4 zf) dY (.rq (.call [((.ic .eql cW pW),true)] 122 none adA ba []) (.rq (.call [(adB,false),(adC,true)] 123 none adA ba []) (.ite (.or adB (.an adC rJ)) dY (.ite (.ic .eql cW Es) (.rq (.call [] 96 none V5 sP []) (.ret (.proj bP 1) [])) (.ret aqG []))))))
def aHE:List VT:=[(.one (.agg [(.int .i64),.str,.str,.str,(.int .i64),.str,(.sl 9)]))]
def aqn:VC:=.rq (.cM 43 none Au fF [] [(0,1)]) arB
def aJy:List VT:=[(.one (.agg [.str,(.sl 9),(.int .i64),(.int .i64),(.sl 104)]))]
def apX:VC:=.ite WH dY (.loop gG gO (.ite wJ (.rq wK (.rq WK (.ite (.sc .neq KY (.cell (.row lP aV bD) 0)) dY wL))) mh))
def aI8:List VT:=[(.one (.c (.sl 9))),(.one (.c (.sl 9)))]
def apu:VC:=.rq PU (.ite zf (.ret (.ja 157) []) (.loop [(.one (.c (.sl 157))),aF] [(.ja 157),bf] (.ite Ey (.rq Ez (.loop [(.one (.c (.sl 157))),aF] [bD,bf] (.ite asf (.rq ash (.rq asj (.ite (.sc .neq dM zl) (.rq (.cond [] (.few bP asl)) (.again 0 [(.app bP asl),xP])) aev))) asn))) Ev)))
def aIH:List VT:=[(.one (.c (.sl 42)))]
def aow:VC:=.ret (.an (.an (.an (.ic .geq cW bf) (.ic .leq cW Pq)) (.ic .geq iS bf)) (.ic .leq iS Pq)) []
def anV:List VT:=[(.one (.agg [(.int .i64),(.int .i64)]))]
def apx:VC:=.rq PU (.ite zf Wu (.loop Cu PF (.ite Ey (.rq Ez (.loop Cu [bD,bf] (.ite asf (.rq ash (.rq asj (.ite (.sc .eql dM zl) (.rq (.cM 56 none [bP,Hv] fF [] [(0,1)]) (.again 0 [fk,xP])) aev))) asn))) Ev)))
def aIK:List VT:=[(.one (.c (.sl 42)))]
def apd:VC:=.rq (.call [] 144 none ig ba []) (.ite zf (.ret zl []) (.loop Cu PF (.ite Ey (.rq Ez (.rq (.cond [] (.uM aeh PR)) (.rq (.call [] 145 none [(.cell (.row uR aP bM) 1)] cq []) (.rq (.cond [] (.uM (.tJ aeh PR) bP)) (.rq (.cond [] (.few bD ar5)) (.again 0 [(.app bD ar5),Am])))))) (.ite (.ic .eql (.len bD) bf) (.ret PS []) (.rq (.call [] 146 none [bD,aei] cq []) aej)))))
def aIt:List VT:=[(.one (.c (.sl 107)))]
def ap2:VC:=.ite (.ic .eql aP bf) (.ret (.put (.put fp Xa) (.aq PN)) []) (.ite (.ic .eql aP eJ) (.ret (.put (.put fp (.aq K8)) (.aq LC)) []) (.ite (.ic .eql aP wM) (.ret (.put fp (.aq K2)) []) (.ite (.ic .eql aP pW) (.ret (.put fp (.aq Qm)) []) (.ite (.ic .eql aP tS) (.ret (.put (.put fp (.aq K6)) (.aq WY)) []) (.ite (.ic .eql aP Es) (.ret (.put fp (.aq K1)) []) Wu)))))
def aJc:List VT:=[aF]
def aoW:VC:=.ite (.sc .eql aP adY) (.ret (.bn (.bn Wo bf) gH) []) (.ite (.sc .eql aP adZ) (.ret (.bn (.bn Wp eJ) gH) []) (.ite (.sc .eql aP WD) (.ite (.sc .eql aP WD) arG arL) (.ite (.sc .eql aP ad1) arG arL)))
def aIa:List VT:=[cq]
def aol:VC:=.rq (.call [] 152 none [cW] aF []) (.ite (.or aeK as5) dY (.ite Xm (.rq ato (.ret (.an bD Xw) [])) (.ite XB (.rq ato (.rq (.call afb 121 none [kK] ba []) (.ret (.an bD bM) []))) (.ite afi (.rq (.call [(Qo,true)] 121 none [kK] ba []) (.ret (.an Qo bD) [])) (.ret (.an Qo Xw) [])))))
def aHA:List VT:=[(.one Cn)]
def aph:VC:=.rq aee (.rq (.call [] 71 none [sQ,bf] ba []) (.rq (.call afn 144 none [jU] ba []) (.rq (.call [((.or CD rJ),false),(XJ,true)] 71 none [sQ,eJ] ba []) (.ite (.or (.or (.or (.or CD rJ) (.an XJ Ht)) (.ic .lss qB bf)) (.ic .gtr qB Ex)) dY (.ret (.an (.or bD atY) atX) [])))))
def aIw:List VT:=[(.one (.agg [.str,.bool,.bool,(.sl 107),(.int .i64)]))]
def apF:VC:=.loop gG gO (.ite Ey (.rq Ez (.rq (.call arN 157 none [WE,bD] ba []) (.ite arO (.ret Hv []) Wx))) (.ret zl []))
def aIR:List VT:=[(.one (.c (.sl 42))),cq,(.one (.agg [(.int .i64),.str,(.int .i64),(.int .i64)]))]
def aoz:VC:=.rq (.call [(WX,true)] 162 none [aP,aV] aF []) (.ret (.an WX (.ic .geq bD bf)) [])
def aHM:List VT:=[(.one (.agg [(.int .i64),(.int .i64)])),(.one (.agg [(.int .i64),(.int .i64)]))]
def aqq:VC:=.rq (.call [] 33 sO [(.put (.put (.put (.put (.put (.put (.put (.put (.put as7 zi) zi) K4) (.aq Wi)) xS) (.aq (.li .i64 16))) (.aq (.li .i64 32))) KW) PO)] aF bT) (.rq (.call [] 36 tP [wM] aF bT) (.rq (.call [] 35 (some Aq) [pW] ba bT) (.ite oU (.rq (.call [] 66 (some K5) [] cq bT) (.rq as8 (.ite zk (.rq (.call [] 163 (some Qa) [] aF bT) (.rq (.call [] 35 (some Qc) P7 ba bT) (.ite tQ (.rq (.call [] 164 (some Xi) [] Xh bT) (.ret (.cat aeU (.cat K7 (.cat (.aq (.cell Ar 0)) (.cat (.aq (.cell Ar 1)) fU)))) [HV,EF,Qd])) (.ret (.cat aeU (.cat K7 aeW)) Xi)))) (.rq as9 (.ite tR (.rq ata (.ret (.cat aeX (.cat K7 atb)) Xi)) (.ret (.cat aeX (.cat K7 aeW)) Qc)))))) (.rq (.call [] 35 (some K5) P7 ba bT) (.ite xR (.rq (.call [] 163 (some P9) [] aF bT) (.rq as9 (.ite tR (.rq ata (.ret (.cat aeT (.cat aeY atb)) Xi)) (.ret (.cat aeT (.cat aeY aeW)) Qc)))) (.rq as8 (.ite zk (.rq (.call [] 164 (some Qa) [] Xh bT) (.ret (.cat aeX (.cat aeY (.cat (.aq (.cell tR 0)) (.cat (.aq (.cell tR 1)) fU)))) Qc)) (.ret Qe Qa))))))))
def aJB:List VT:=[(.one (.c (.sl 5))),aF,aF]
def apg:VC:=.loop gG gO (.ite CB (.rq CC (.rq (.call [] 130 none [afk] ba []) (.rq (.cond [(ar7,false),(Qq,true)] XI) (.ite (.or ar7 atU) dY Ao)))) (.ret (.ic .leq iD tS) []))
def aIv:List VT:=[(.one (.c (.sl 107)))]
def aqb:VC:=.loop [ba,Hm,aF] [qz,uN,bf] (.ite ad8 (.rq asA (.ite (.an rJ (.sc .geq (.cell aeO 0) aV)) (.rq asX (.ite asY (.rq (.cond [] (.few Xe Xf)) (.again 0 [gH,(.app Xe Xf),xP])) (.again 0 [gH,Xe,xP]))) (.ite asY (.rq (.cond [] (.few bP Xf)) (.again 0 [bM,(.app bP Xf),xP])) (.again 0 [bM,bP,xP])))) (.ite rJ (.rq asX (.ret Xe [])) aej))
def aJl:List VT:=[(.one (.c (.sl 107))),cq,aF]
def aoh:VC:=.loop gG gO (.ite (.ic .lss aV Cw) (.rq (.call [] 165 none [aV] fF []) (.rq (.call [] 17 none [bD,aP] ba []) (.ite bM Cy Ao))) Hw)
def aHx:List VT:=[cq]
def ao9:VC:=.rq (.cM 87 none ig (.one KT) [] [(3,2)]) (.rq (.call [] 127 none ig ba []) (.rq (.call [(rJ,false)] 129 none [aV] ba []) (.ite (.or rJ Ht) Wz (.rq aee (.rq ar3 (.rq (.call [] 39 none [aef,dM] ba []) (.ite Hz (.rq ar3 (.ret (.bn KU (.cat uO (.cat lA (.cat tN (.cat KR ar4))))) [])) (.rq (.call [] 71 none [aef,bf] ba []) (.rq (.call [] 170 none [bD,aV,gN] aeg []) (.ret (.bn (.bn gB Ho) adS) []))))))))))
def aIo:List VT:=[(.one (.agg [.str,.bool,.bool,(.sl 107),(.int .i64)])),(.one Cn)]
def apZ:VC:=.rq (.call [] 35 sO [(.li .i64 12)] ba bT) (.ite bM (.rq (.call [] 33 tP [(.put (.put (.put (.put (.put asI (.aq (.li .i64 64))) (.aq (.li .i64 65))) asJ) asK) (.aq aek))] aF bT) HQ) (.rq (.call [] 174 tP [] aF bT) HQ))
def aJa:List VT:=[(.one (.c (.sl 5))),aF,aF]
def apw:VC:=.ret (.an WX (.ic .geq iS tO)) []
def aIJ:List VT:=[(.one (.agg [(.int .i64),(.int .i64)])),(.one (.agg [(.int .i64),(.int .i64)]))]
def aoA:VC:=.rq (.call [] 150 none ig sP []) arl
def aHN:List VT:=[cq]
def apD:VC:=.ite (.sc .eql aP PS) (.ret (.bn (.bn gB uN) gH) []) (.rq (.cM 190 none [aP,aei] fF [] [(0,1)]) (.loop [Hm,aF] [uN,bf] (.ite (.ic .lss bM WG) (.rq (.cond [] (.bN aV bM)) (.rq (.cM 190 none [(.cell (.row lP aV bM) 0),PR] fF [] [(0,1)]) (.ite (.ic .neq KL wM) aex (.rq (.cond [] (.bN bP eJ)) (.rq (.call [] 191 none [(.cell (.row lP bP eJ) 0)] sP []) (.ite (.no (.proj cz 1)) aex (.rq asq (.rq (.cond [] (.few bD asr)) (.again 0 [(.app bD asr),Am]))))))))) (.rq (.call [] 144 none [bD] ba []) (.ite Ht aex (.ret (.bn KU gH) []))))))
def aIQ:List VT:=[cq]
def apK:VC:=.loop [fF,aF,aF] [fp,bf,bf] (.ite (.an (.sc .neq aV zl) (.ic .leq PY iD)) (.rq (.cond [] (.inc aP bP PY)) (.ite (.sc .eql (.cut aP bP PY) aV) (.rq (.cond [] (.inc aP bM bP)) (.rq (.cond [] (.few bD ast)) (.again 0 [(.app bD ast),PY,PY]))) (.again 0 [bD,bM,Hk]))) (.rq (.cond [] (.inc aP bM iD)) (.rq (.cond [] (.few bD asu)) (.ret (.app bD asu) []))))
def an4:List VT:=[cq,cq]
end Go.Proofs.YtoomhbopolalnaaGreatDoor
