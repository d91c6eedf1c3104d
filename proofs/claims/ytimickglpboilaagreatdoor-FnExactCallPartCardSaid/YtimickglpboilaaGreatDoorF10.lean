/- Conditions of functions of this seat's program. Written by fun.py. -/
import Derived.Test.YtimickglpboilaaGreatDoorF9
import Derived.Test.YtimickglpboilaaGreatDoorF0
set_option linter.unusedVariables false
set_option linter.unusedSimpArgs false
set_option linter.unusedSectionVars false
set_option maxRecDepth 100000
namespace Go.Proofs.YtimickglpboilaaGreatDoor
section
open Go
set_option maxRecDepth 1000000
def RH:VC:=(.ret (.var 0) [])
theorem agV:bA Tryz.prog aD bi 9 none=RH:=by kernel_rfl
def aeP:List VT:=[(.one uo)]
theorem aeQ:bz Tryz.prog aD 9 none=aeP:=by kernel_rfl
def Rx:VC:=(.rq (.call [] 46 none [(.sub (.var 0) 0 5),(.var 1)] bw []) (.ite (.ic .lss (.var 2) (.li .i64 0)) (.ret (.li .i64 (-1)) []) (.rq (.call [] 47 none [(.cell (.var 0) 5),(.var 2)] bw []) (.ite (.ic .lss (.var 3) (.li .i64 0)) (.ret (.li .i64 (-1)) []) (.ret (.var 3) [])))))
theorem agM:bA Tryz.prog aD bi 14 none=Rx:=by kernel_rfl
def aex:List VT:=[(.one (.agg [.str,.bool,.bool,(.sl 118),(.int .i64),(.sl 86)])),bw]
theorem aey:bz Tryz.prog aD 14 none=aex:=by kernel_rfl
def RD:VC:=(.ite (.ic .lss (.ar .sub .i64 (.var 1) (.len (.cell (.var 0) 0))) (.li .i64 0)) (.ret (.li .i64 (-1)) []) (.rq (.call [] 50 none [(.cell (.var 0) 3),(.ar .sub .i64 (.var 1) (.len (.cell (.var 0) 0)))] bw []) (.ite (.ic .lss (.var 2) (.li .i64 0)) (.ret (.li .i64 (-1)) []) (.ret (.var 2) []))))
theorem agR:bA Tryz.prog aD bi 24 none=RD:=by kernel_rfl
def aeH:List VT:=[(.one (.agg [.str,.bool,.bool,(.sl 110),(.int .i64)])),bw]
theorem aeI:bz Tryz.prog aD 24 none=aeH:=by kernel_rfl
def RW:VC:=(.rq (.call [] 31 none [(.cell (.var 0) 0)] bw []) (.rq (.call [((.ic .eql (.var 1) (.li .i64 0)),false),((.or (.sc .eql (.cell (.var 0) 0) (.ls ⟨#[71,101,116]⟩)) (.sc .eql (.cell (.var 0) 0) (.ls ⟨#[80,117,116]⟩))),true)] 56 none [(.cell (.var 0) 1)] dO []) (.ite (.or (.or (.or (.ic .eql (.var 1) (.li .i64 0)) (.an (.or (.sc .eql (.cell (.var 0) 0) (.ls ⟨#[71,101,116]⟩)) (.sc .eql (.cell (.var 0) 0) (.ls ⟨#[80,117,116]⟩))) (.no (.var 2)))) (.an (.no (.or (.sc .eql (.cell (.var 0) 0) (.ls ⟨#[71,101,116]⟩)) (.sc .eql (.cell (.var 0) 0) (.ls ⟨#[80,117,116]⟩)))) (.sc .neq (.cell (.var 0) 1) (.ls ⟨#[]⟩)))) (.an (.sc .neq (.cell (.var 0) 3) (.ls ⟨#[]⟩)) (.sc .neq (.cell (.var 0) 0) (.ls ⟨#[76,111,97,100]⟩)))) (.ret (.lb false) []) (.ret (.or (.ic .eql (.cell (.var 0) 2) (.li .i64 0)) (.an (.an (.or (.sc .eql (.cell (.var 0) 0) (.ls ⟨#[80,117,116]⟩)) (.sc .eql (.cell (.var 0) 0) (.ls ⟨#[72,101,97,114]⟩))) (.ic .gtr (.cell (.var 0) 2) (.li .i64 0))) (.ic .leq (.cell (.var 0) 2) (.li .i64 999)))) []))))
theorem ag9:bA Tryz.prog aD bi 28 none=RW:=by kernel_rfl
def afc:List VT:=[(.one uo)]
theorem afd:bz Tryz.prog aD 28 none=afc:=by kernel_rfl
def Q3:VC:=(.rq (.call [] 65 none [(.sub (.var 0) 0 5)] dO []) (.ite (.or (.no (.var 1)) (.ic .gtr (.len (.cell (.var 0) 5)) (.li .i64 3))) (.ret (.lb false) []) (.loop [bw] [(.li .i64 0)] (.ite (.ic .lss (.var 2) (.len (.cell (.var 0) 5))) (.rq (.cond [] (.cw (.cell (.var 0) 5) (.var 2))) (.rq (.call [] 66 none [(.cell (.row [.str,(.int .i64)] (.cell (.var 0) 5) (.var 2)) 0)] (.aE [(.c (.int .i64)),(.c (.int .i64)),(.c .bool)]) []) (.rq (.call [((.no (.proj (.var 3) 2)),false)] 67 none [(.var 0),(.var 2)] bw []) (.rq (.call [((.no (.proj (.var 3) 2)),false)] 40 none [(.var 4),(.proj (.var 3) 0)] dO []) (.rq (.call [((.or (.no (.proj (.var 3) 2)) (.no (.var 5))),false)] 68 none [(.cell (.row [.str,(.int .i64)] (.cell (.var 0) 5) (.var 2)) 1)] dO []) (.ite (.or (.or (.or (.no (.proj (.var 3) 2)) (.no (.var 5))) (.no (.var 6))) (.an (.an (.ic .neq (.cell (.row [.str,(.int .i64)] (.cell (.var 0) 5) (.var 2)) 1) (.li .i64 0)) (.sc .neq (.cell (.row [.str,(.int .i64)] (.cell (.var 0) 5) (.var 2)) 0) (.ls ⟨#[99,111,117,110,116,115]⟩))) (.sc .neq (.cell (.row [.str,(.int .i64)] (.cell (.var 0) 5) (.var 2)) 0) (.ls ⟨#[104,101,97,114,115]⟩)))) (.ret (.lb false) []) (.again 0 [(.ar .add .i64 (.var 2) (.li .i64 1))]))))))) (.ret (.lb true) [])))))
theorem agn:bA Tryz.prog aD bi 36 none=Q3:=by kernel_rfl
def adO:List VT:=[(.one (.agg [.str,.bool,.bool,(.sl 118),(.int .i64),(.sl 86)]))]
theorem adP:bz Tryz.prog aD 36 none=adO:=by kernel_rfl
def Q8:VC:=(.rq (.call [] 71 none [(.var 0)] dO []) (.rq (.call [((.var 2),true)] 71 none [(.var 1)] dO []) (.ret (.an (.an (.var 2) (.var 3)) (.ic .eql (.ar .andNot .i64 (.var 1) (.var 0)) (.li .i64 0))) [])))
theorem ags:bA Tryz.prog aD bi 40 none=Q8:=by kernel_rfl
def QG:List VT:=[bw,bw]
theorem adU:bz Tryz.prog aD 40 none=QG:=by kernel_rfl
def Ru:VC:=(.rq (.call [] 78 none [(.cell (.var 0) 3),(.var 1)] bw []) (.ite (.ic .lss (.var 2) (.li .i64 0)) (.ret (.li .i64 (-1)) []) (.ret (.var 2) [])))
theorem agK:bA Tryz.prog aD bi 46 none=Ru:=by kernel_rfl
def aet:List VT:=[(.one (.agg [.str,.bool,.bool,(.sl 118),(.int .i64)])),bw]
theorem aeu:bz Tryz.prog aD 46 none=aet:=by kernel_rfl
def RC:VC:=(.ite (.ic .lss (.ar .sub .i64 (.var 1) (.len (.var 0))) (.li .i64 0)) (.ret (.li .i64 (-1)) []) (.loop [bw,bw] [(.ar .sub .i64 (.var 1) (.len (.var 0))),(.li .i64 0)] (.ite (.ic .lss (.var 3) (.len (.var 0))) (.rq (.cond [] (.cw (.var 0) (.var 3))) (.rq (.call [] 79 none [(.row [.str,(.int .i64)] (.var 0) (.var 3)),(.var 2)] bw []) (.ite (.ic .lss (.var 4) (.li .i64 0)) (.ret (.li .i64 (-1)) []) (.again 0 [(.var 4),(.ar .add .i64 (.var 3) (.li .i64 1))])))) (.ret (.var 2) []))))
theorem agP:bA Tryz.prog aD bi 50 none=RC:=by kernel_rfl
def aeE:List VT:=[(.one (.c (.sl 110))),bw]
theorem aeF:bz Tryz.prog aD 50 none=aeE:=by kernel_rfl
def Sb:VC:=(.rq (.call [] 82 none [(.var 0)] (.aE [(.c (.int .i64)),(.c (.int .i64)),(.c .bool)]) []) (.ret (.aJ (.aJ .bP (.proj (.var 1) 0)) (.proj (.var 1) 2)) []))
theorem ahi:bA Tryz.prog aD bi 54 none=Sb:=by kernel_rfl
def afr:List VT:=[eJ]
theorem afs:bz Tryz.prog aD 54 none=afr:=by kernel_rfl
def Sp:VC:=(.rq (.cond [] (.ic .geq (.var 1) (.li .i64 0))) (.rq (.cond [] (.ic .neq (.li .i64 2) (.li .i64 0))) (.ret (.ic .eql (.ar .rem .i64 (.ar .shr .i64 (.var 0) (.var 1)) (.li .i64 2)) (.li .i64 1)) [])))
theorem ahr:bA Tryz.prog aD bi 58 none=Sp:=by kernel_rfl
def QP:List VT:=[bw,bw]
theorem afI:bz Tryz.prog aD 58 none=QP:=by kernel_rfl
def RM:VC:=(.ret (.var 0) [])
theorem ag2:bA Tryz.prog aD bi 63 none=RM:=by kernel_rfl
def aeX:List VT:=[(.one (.agg [.str,(.int .i64)]))]
theorem ae0:bz Tryz.prog aD 63 none=aeX:=by kernel_rfl
def Re:VC:=(.ite (.ic .eql (.var 1) (.li .i64 0)) (.rq (.call [] 90 none [(.cell (.var 0) 0)] (.aE [(.c (.int .i64)),(.c .bool)]) []) (.ret (.proj (.var 2) 0) [])) (.rq (.cond [] (.cw (.cell (.var 0) 5) (.ar .sub .i64 (.var 1) (.li .i64 1)))) (.rq (.call [] 66 none [(.cell (.row [.str,(.int .i64)] (.cell (.var 0) 5) (.ar .sub .i64 (.var 1) (.li .i64 1))) 0)] (.aE [(.c (.int .i64)),(.c (.int .i64)),(.c .bool)]) []) (.ret (.proj (.var 2) 1) []))))
theorem agx:bA Tryz.prog aD bi 67 none=Re:=by kernel_rfl
def ad4:List VT:=[(.one (.agg [.str,.bool,.bool,(.sl 118),(.int .i64),(.sl 86)])),bw]
theorem ad5:bz Tryz.prog aD 67 none=ad4:=by kernel_rfl
def Q1:VC:=(.ret (.an (.ic .geq (.var 0) (.li .i64 0)) (.ic .leq (.var 0) (.li .i64 63))) [])
theorem agl:bA Tryz.prog aD bi 71 none=Q1:=by kernel_rfl
def QF:List VT:=[bw]
theorem adL:bz Tryz.prog aD 71 none=QF:=by kernel_rfl
def Rt:VC:=(.loop [bw,bw] [(.var 1),(.li .i64 0)] (.ite (.ic .lss (.var 3) (.len (.var 0))) (.rq (.cond [] (.cw (.var 0) (.var 3))) (.rq (.call [] 49 none [(.var 2)] eJ []) (.ite (.sc .neq (.cell (.row [.str,(.int .i64)] (.var 0) (.var 3)) 0) (.var 4)) (.ret (.li .i64 (-1)) []) (.rq (.cond [] (.cw (.var 0) (.var 3))) (.ite (.ic .neq (.cell (.row [.str,(.int .i64)] (.var 0) (.var 3)) 1) (.ar .add .i64 (.var 2) (.li .i64 1))) (.ret (.li .i64 (-1)) []) (.again 0 [(.ar .add .i64 (.ar .add .i64 (.var 2) (.li .i64 1)) (.li .i64 1)),(.ar .add .i64 (.var 3) (.li .i64 1))])))))) (.ret (.var 2) [])))
theorem agJ:bA Tryz.prog aD bi 78 none=Rt:=by kernel_rfl
def aer:List VT:=[(.one (.c (.sl 118))),bw]
theorem aes:bz Tryz.prog aD 78 none=aer:=by kernel_rfl
def ahC:VC:=(.loop [bw] [(.li .i64 0)] (.ite (.ic .lss (.var 1) (.len (.put (.put (.put (.put (.put (.put (.put (.put (.put (.bJ 9) (.ah (.ls ⟨#[112,108,97,105,110]⟩))) (.ah (.ls ⟨#[114,117,110,115]⟩))) (.ah (.ls ⟨#[107,101,101,112,115]⟩))) (.ah (.ls ⟨#[99,111,117,110,116,115]⟩))) (.ah (.ls ⟨#[108,97,122,121]⟩))) (.ah (.ls ⟨#[114,101,97,100,115]⟩))) (.ah (.ls ⟨#[104,101,97,114,115]⟩))) (.ah (.ls ⟨#[104,101,97,108,115]⟩))) (.ah (.ls ⟨#[116,119,105,99,101]⟩))))) (.rq (.cond [] (.cw (.put (.put (.put (.put (.put (.put (.put (.put (.put (.bJ 9) (.ah (.ls ⟨#[112,108,97,105,110]⟩))) (.ah (.ls ⟨#[114,117,110,115]⟩))) (.ah (.ls ⟨#[107,101,101,112,115]⟩))) (.ah (.ls ⟨#[99,111,117,110,116,115]⟩))) (.ah (.ls ⟨#[108,97,122,121]⟩))) (.ah (.ls ⟨#[114,101,97,100,115]⟩))) (.ah (.ls ⟨#[104,101,97,114,115]⟩))) (.ah (.ls ⟨#[104,101,97,108,115]⟩))) (.ah (.ls ⟨#[116,119,105,99,101]⟩))) (.var 1))) (.ite (.sc .eql (.cell (.row [.str] (.put (.put (.put (.put (.put (.put (.put (.put (.put (.bJ 9) (.ah (.ls ⟨#[112,108,97,105,110]⟩))) (.ah (.ls ⟨#[114,117,110,115]⟩))) (.ah (.ls ⟨#[107,101,101,112,115]⟩))) (.ah (.ls ⟨#[99,111,117,110,116,115]⟩))) (.ah (.ls ⟨#[108,97,122,121]⟩))) (.ah (.ls ⟨#[114,101,97,100,115]⟩))) (.ah (.ls ⟨#[104,101,97,114,115]⟩))) (.ah (.ls ⟨#[104,101,97,108,115]⟩))) (.ah (.ls ⟨#[116,119,105,99,101]⟩))) (.var 1)) 0) (.var 0)) (.rq (.cond [] (.cw (.put (.put (.put (.put (.put (.put (.put (.put (.put (.bJ 3) (.ah (.li .i64 0))) (.ah (.li .i64 1))) (.ah (.li .i64 2))) (.ah (.li .i64 2))) (.ah (.li .i64 3))) (.ah (.li .i64 2))) (.ah (.li .i64 1))) (.ah (.li .i64 1))) (.ah (.li .i64 4))) (.var 1))) (.rq (.cond [] (.cw (.put (.put (.put (.put (.put (.put (.put (.put (.put (.bJ 3) (.ah (.li .i64 0))) (.ah (.li .i64 1))) (.ah (.li .i64 2))) (.ah (.li .i64 6))) (.ah (.li .i64 3))) (.ah (.li .i64 2))) (.ah (.li .i64 9))) (.ah (.li .i64 33))) (.ah (.li .i64 4))) (.var 1))) (.ret (.aJ (.aJ (.aJ .bP (.cell (.row [(.int .i64)] (.put (.put (.put (.put (.put (.put (.put (.put (.put (.bJ 3) (.ah (.li .i64 0))) (.ah (.li .i64 1))) (.ah (.li .i64 2))) (.ah (.li .i64 2))) (.ah (.li .i64 3))) (.ah (.li .i64 2))) (.ah (.li .i64 1))) (.ah (.li .i64 1))) (.ah (.li .i64 4))) (.var 1)) 0)) (.cell (.row [(.int .i64)] (.put (.put (.put (.put (.put (.put (.put (.put (.put (.bJ 3) (.ah (.li .i64 0))) (.ah (.li .i64 1))) (.ah (.li .i64 2))) (.ah (.li .i64 6))) (.ah (.li .i64 3))) (.ah (.li .i64 2))) (.ah (.li .i64 9))) (.ah (.li .i64 33))) (.ah (.li .i64 4))) (.var 1)) 0)) (.lb true)) []))) (.again 0 [(.ar .add .i64 (.var 1) (.li .i64 1))]))) (.ret (.aJ (.aJ (.aJ .bP (.li .i64 0)) (.li .i64 0)) (.lb false)) [])))
theorem ahD:bA Tryz.prog aD bi 82 none=ahC:=by kernel_rfl
def af3:List VT:=[eJ]
theorem af4:bz Tryz.prog aD 82 none=af3:=by kernel_rfl
def Su:VC:=(.ite (.an (.an (.cell (.var 0) 2) (.sc .neq (.cell (.var 1) 0) (.ls ⟨#[72,101,97,108]⟩))) (.sc .neq (.cell (.var 1) 0) (.ls ⟨#[84,101,108,108]⟩))) (.ret (.aJ (.aJ .bP (.var 0)) (.cat (.ah (.li .i64 3)) (.cat (.ah (.li .i64 0)) (.cat (.ah (.ls ⟨#[]⟩)) (.cat (.ah (.li .i64 0)) (.cat (.ah (.li .i64 0)) .cT)))))) []) (.ite (.sc .eql (.cell (.var 1) 0) (.ls ⟨#[71,101,116]⟩)) (.ite (.sc .eql (.cell (.var 1) 0) (.ls ⟨#[71,101,116]⟩)) (.rq (.call [] 98 none [(.var 0),(.var 1),(.var 2)] (.aE [(.agg [.str,.bool,.bool,(.sl 118),(.int .i64)]),wP]) []) (.ret (.aJ (.aJ .bP (.proj (.var 3) 0)) (.proj (.var 3) 1)) [])) (.ite (.sc .eql (.cell (.var 1) 0) (.ls ⟨#[84,101,108,108]⟩)) (.ret (.aJ (.aJ .bP (.var 0)) (.cat (.ah (.li .i64 0)) (.cat (.ah (.cell (.var 0) 4)) (.cat (.ah (.ls ⟨#[]⟩)) (.cat (.ah (.li .i64 0)) (.cat (.ah (.li .i64 0)) .cT)))))) []) (.ite (.sc .eql (.cell (.var 1) 0) (.ls ⟨#[72,101,97,114]⟩)) (.rq (.call [] 87 none [(.cell (.var 0) 4)] bw []) (.ret (.aJ (.aJ .bP (.cat (.ah (.cell (.var 0) 0)) (.cat (.ah (.or (.ic .eql (.cell (.var 1) 2) (.li .i64 1)) (.an (.cell (.var 0) 1) (.ic .neq (.cell (.var 1) 2) (.li .i64 0))))) (.cat (.ah (.cell (.var 0) 2)) (.cat (.ah (.cell (.var 0) 3)) (.cat (.ah (.var 3)) .cT)))))) (.cat (.ah (.li .i64 0)) (.cat (.ah (.var 3)) (.cat (.ah (.ls ⟨#[]⟩)) (.cat (.ah (.li .i64 0)) (.cat (.ah (.li .i64 0)) .cT)))))) [])) (.ite (.sc .eql (.cell (.var 1) 0) (.ls ⟨#[83,97,118,101]⟩)) (.rq (.call [] 99 none [(.cell (.var 0) 3)] eJ []) (.ret (.aJ (.aJ .bP (.var 0)) (.cat (.ah (.li .i64 0)) (.cat (.ah (.li .i64 0)) (.cat (.ah (.var 3)) (.cat (.ah (.li .i64 0)) (.cat (.ah (.li .i64 0)) .cT)))))) [])) (.ite (.sc .eql (.cell (.var 1) 0) (.ls ⟨#[76,111,97,100]⟩)) (.rq (.gW 100 none [(.cell (.var 1) 3)] (.aE [(.c (.sl 118)),(.c .bool)]) [] [(0,2)]) (.ite (.no (.proj (.var 3) 1)) (.ret (.aJ (.aJ .bP (.var 0)) (.cat (.ah (.li .i64 6)) (.cat (.ah (.li .i64 0)) (.cat (.ah (.ls ⟨#[]⟩)) (.cat (.ah (.li .i64 0)) (.cat (.ah (.li .i64 0)) .cT)))))) []) (.ret (.aJ (.aJ .bP (.cat (.ah (.cell (.var 0) 0)) (.cat (.ah (.cell (.var 0) 1)) (.cat (.ah (.cell (.var 0) 2)) (.cat (.ah (.proj (.var 3) 0)) (.cat (.ah (.cell (.var 0) 4)) .cT)))))) (.cat (.ah (.li .i64 0)) (.cat (.ah (.len (.proj (.var 3) 0))) (.cat (.ah (.ls ⟨#[]⟩)) (.cat (.ah (.li .i64 0)) (.cat (.ah (.li .i64 0)) .cT)))))) []))) (.rq (.call [] 101 none [(.var 0),(.cell (.var 1) 0)] (.aE [(.agg [.str,.bool,.bool,(.sl 118),(.int .i64)]),wP]) []) (.ret (.aJ (.aJ .bP (.proj (.var 3) 0)) (.proj (.var 3) 1)) []))))))) (.ite (.sc .eql (.cell (.var 1) 0) (.ls ⟨#[80,117,116]⟩)) (.rq (.call [] 98 none [(.var 0),(.var 1),(.var 2)] (.aE [(.agg [.str,.bool,.bool,(.sl 118),(.int .i64)]),wP]) []) (.ret (.aJ (.aJ .bP (.proj (.var 3) 0)) (.proj (.var 3) 1)) [])) (.ite (.sc .eql (.cell (.var 1) 0) (.ls ⟨#[84,101,108,108]⟩)) (.ret (.aJ (.aJ .bP (.var 0)) (.cat (.ah (.li .i64 0)) (.cat (.ah (.cell (.var 0) 4)) (.cat (.ah (.ls ⟨#[]⟩)) (.cat (.ah (.li .i64 0)) (.cat (.ah (.li .i64 0)) .cT)))))) []) (.ite (.sc .eql (.cell (.var 1) 0) (.ls ⟨#[72,101,97,114]⟩)) (.rq (.call [] 87 none [(.cell (.var 0) 4)] bw []) (.ret (.aJ (.aJ .bP (.cat (.ah (.cell (.var 0) 0)) (.cat (.ah (.or (.ic .eql (.cell (.var 1) 2) (.li .i64 1)) (.an (.cell (.var 0) 1) (.ic .neq (.cell (.var 1) 2) (.li .i64 0))))) (.cat (.ah (.cell (.var 0) 2)) (.cat (.ah (.cell (.var 0) 3)) (.cat (.ah (.var 3)) .cT)))))) (.cat (.ah (.li .i64 0)) (.cat (.ah (.var 3)) (.cat (.ah (.ls ⟨#[]⟩)) (.cat (.ah (.li .i64 0)) (.cat (.ah (.li .i64 0)) .cT)))))) [])) (.ite (.sc .eql (.cell (.var 1) 0) (.ls ⟨#[83,97,118,101]⟩)) (.rq (.call [] 99 none [(.cell (.var 0) 3)] eJ []) (.ret (.aJ (.aJ .bP (.var 0)) (.cat (.ah (.li .i64 0)) (.cat (.ah (.li .i64 0)) (.cat (.ah (.var 3)) (.cat (.ah (.li .i64 0)) (.cat (.ah (.li .i64 0)) .cT)))))) [])) (.ite (.sc .eql (.cell (.var 1) 0) (.ls ⟨#[76,111,97,100]⟩)) (.rq (.gW 100 none [(.cell (.var 1) 3)] (.aE [(.c (.sl 118)),(.c .bool)]) [] [(0,2)]) (.ite (.no (.proj (.var 3) 1)) (.ret (.aJ (.aJ .bP (.var 0)) (.cat (.ah (.li .i64 6)) (.cat (.ah (.li .i64 0)) (.cat (.ah (.ls ⟨#[]⟩)) (.cat (.ah (.li .i64 0)) (.cat (.ah (.li .i64 0)) .cT)))))) []) (.ret (.aJ (.aJ .bP (.cat (.ah (.cell (.var 0) 0)) (.cat (.ah (.cell (.var 0) 1)) (.cat (.ah (.cell (.var 0) 2)) (.cat (.ah (.proj (.var 3) 0)) (.cat (.ah (.cell (.var 0) 4)) .cT)))))) (.cat (.ah (.li .i64 0)) (.cat (.ah (.len (.proj (.var 3) 0))) (.cat (.ah (.ls ⟨#[]⟩)) (.cat (.ah (.li .i64 0)) (.cat (.ah (.li .i64 0)) .cT)))))) []))) (.rq (.call [] 101 none [(.var 0),(.cell (.var 1) 0)] (.aE [(.agg [.str,.bool,.bool,(.sl 118),(.int .i64)]),wP]) []) (.ret (.aJ (.aJ .bP (.proj (.var 3) 0)) (.proj (.var 3) 1)) [])))))))))
theorem ahv:bA Tryz.prog aD bi 86 none=Su:=by kernel_rfl
def afP:List VT:=[(.one (.agg [.str,.bool,.bool,(.sl 118),(.int .i64)])),(.one uo),dO]
theorem afQ:bz Tryz.prog aD 86 none=afP:=by kernel_rfl
def Q5:VC:=(.ite (.sc .eql (.var 0) (.ls ⟨#[115,116,111,110,101]⟩)) (.ret (.aJ (.aJ .bP (.li .i64 0)) (.lb true)) []) (.ite (.sc .eql (.var 0) (.ls ⟨#[108,97,109,112]⟩)) (.ret (.aJ (.aJ .bP (.li .i64 1)) (.lb true)) []) (.ite (.sc .eql (.var 0) (.ls ⟨#[115,104,101,108,102]⟩)) (.ret (.aJ (.aJ .bP (.li .i64 2)) (.lb true)) []) (.ite (.sc .eql (.var 0) (.ls ⟨#[109,101,116,101,114]⟩)) (.ret (.aJ (.aJ .bP (.li .i64 5)) (.lb true)) []) (.ite (.sc .eql (.var 0) (.ls ⟨#[100,114,97,119,101,114]⟩)) (.ret (.aJ (.aJ .bP (.li .i64 3)) (.lb true)) []) (.ite (.sc .eql (.var 0) (.ls ⟨#[104,111,114,110]⟩)) (.ret (.aJ (.aJ .bP (.li .i64 9)) (.lb true)) []) (.ite (.sc .eql (.var 0) (.ls ⟨#[118,97,117,108,116]⟩)) (.ret (.aJ (.aJ .bP (.li .i64 19)) (.lb true)) []) (.ite (.sc .eql (.var 0) (.ls ⟨#[114,111,98,111,116]⟩)) (.ret (.aJ (.aJ .bP (.li .i64 63)) (.lb true)) []) (.ret (.aJ (.aJ .bP (.li .i64 0)) (.lb false)) [])))))))))
theorem agq:bA Tryz.prog aD bi 90 none=Q5:=by kernel_rfl
def adS:List VT:=[eJ]
theorem adT:bz Tryz.prog aD 90 none=adS:=by kernel_rfl
def Q9:VC:=(.ite (.sc .eql (.var 0) (.ls ⟨#[45]⟩)) (.ret (.aJ (.aJ .bP (.bJ 118)) (.lb true)) []) (.rq (.gW 104 none [(.var 0),(.ls ⟨#[44]⟩)] (.one (.c (.sl 9))) [] [(0,1)]) (.loop [(.one (.c (.sl 118))),bw] [(.bJ 118),(.li .i64 0)] (.ite (.ic .lss (.var 3) (.len (.var 1))) (.rq (.cond [] (.cw (.var 1) (.var 3))) (.rq (.call [] 105 none [(.cell (.row [.str] (.var 1) (.var 3)) 0),(.ls ⟨#[61]⟩)] (.aE [(.c .str),(.c .str),(.c .bool)]) []) (.rq (.call [] 106 none [(.proj (.var 4) 1)] (.aE [(.c (.int .i64)),(.c .bool)]) []) (.ite (.or (.or (.no (.proj (.var 4) 2)) (.no (.proj (.var 5) 1))) (.ic .geq (.len (.var 2)) (.li .i64 4))) (.ret (.aJ (.aJ .bP (.bJ 118)) (.lb false)) []) (.rq (.cond [] (.few (.var 2) (.put (.bJ 118) (.cat (.ah (.proj (.var 4) 0)) (.cat (.ah (.proj (.var 5) 0)) .cT))))) (.again 0 [(.app (.var 2) (.put (.bJ 118) (.cat (.ah (.proj (.var 4) 0)) (.cat (.ah (.proj (.var 5) 0)) .cT)))),(.ar .add .i64 (.var 3) (.li .i64 1))])))))) (.rq (.call [] 91 none [(.var 2)] dO []) (.ite (.no (.var 4)) (.ret (.aJ (.aJ .bP (.bJ 118)) (.lb false)) []) (.ret (.aJ (.aJ .bP (.var 2)) (.lb true)) [])))))))
theorem agt:bA Tryz.prog aD bi 96 none=Q9:=by kernel_rfl
def adV:List VT:=[eJ]
theorem adW:bz Tryz.prog aD 96 none=adV:=by kernel_rfl
theorem abX:bi.get 96=[(0,2)]:=by kernel_rfl
def Sd:VC:=(.ite (.sc .eql (.var 0) (.ls ⟨#[45]⟩)) (.ret (.aJ (.aJ .bP (.bJ 118)) (.lb true)) []) (.rq (.gW 111 none [(.var 0),(.ls ⟨#[44]⟩)] (.one (.c (.sl 9))) [] [(0,1)]) (.loop [(.one (.c (.sl 118))),bw] [(.bJ 118),(.li .i64 0)] (.ite (.ic .lss (.var 3) (.len (.var 1))) (.rq (.cond [] (.cw (.var 1) (.var 3))) (.rq (.gW 111 none [(.cell (.row [.str] (.var 1) (.var 3)) 0),(.ls ⟨#[61]⟩)] (.one (.c (.sl 9))) [] [(0,1)]) (.ite (.ic .neq (.len (.var 4)) (.li .i64 2)) (.ret (.aJ (.aJ .bP (.bJ 118)) (.lb false)) []) (.rq (.cond [] (.cw (.var 4) (.li .i64 1))) (.rq (.call [] 112 none [(.cell (.row [.str] (.var 4) (.li .i64 1)) 0)] (.aE [(.c (.int .i64)),(.c .bool)]) []) (.ite (.no (.proj (.var 5) 1)) (.ret (.aJ (.aJ .bP (.bJ 118)) (.lb false)) []) (.rq (.cond [] (.cw (.var 4) (.li .i64 0))) (.rq (.cond [] (.few (.var 2) (.put (.bJ 118) (.cat (.ah (.cell (.row [.str] (.var 4) (.li .i64 0)) 0)) (.cat (.ah (.proj (.var 5) 0)) .cT))))) (.again 0 [(.app (.var 2) (.put (.bJ 118) (.cat (.ah (.cell (.row [.str] (.var 4) (.li .i64 0)) 0)) (.cat (.ah (.proj (.var 5) 0)) .cT)))),(.ar .add .i64 (.var 3) (.li .i64 1))]))))))))) (.rq (.call [] 81 none [(.var 2)] dO []) (.ite (.no (.var 4)) (.ret (.aJ (.aJ .bP (.bJ 118)) (.lb false)) []) (.ret (.aJ (.aJ .bP (.var 2)) (.lb true)) [])))))))
theorem ahk:bA Tryz.prog aD bi 100 none=Sd:=by kernel_rfl
def afv:List VT:=[eJ]
theorem afw:bz Tryz.prog aD 100 none=afv:=by kernel_rfl
theorem ab6:bi.get 100=[(0,2)]:=by kernel_rfl
def Sa:VC:=(.loop [eJ,bw] [(.ls ⟨#[]⟩),(.li .i64 0)] (.ite (.ic .lss (.var 3) (.len (.var 0))) (.rq (.cond [] (.cw (.var 0) (.var 3))) (.ite (.ic .gtr (.var 3) (.li .i64 0)) (.rq (.cond [] (.kJ (.var 2) (.var 1))) (.rq (.cond [] (.kJ (.iK (.var 2) (.var 1)) (.cell (.row [.str] (.var 0) (.var 3)) 0))) (.again 0 [(.iK (.iK (.var 2) (.var 1)) (.cell (.row [.str] (.var 0) (.var 3)) 0)),(.ar .add .i64 (.var 3) (.li .i64 1))]))) (.rq (.cond [] (.kJ (.var 2) (.cell (.row [.str] (.var 0) (.var 3)) 0))) (.again 0 [(.iK (.var 2) (.cell (.row [.str] (.var 0) (.var 3)) 0)),(.ar .add .i64 (.var 3) (.li .i64 1))])))) (.ret (.var 2) [])))
theorem ahf:bA Tryz.prog aD bi 110 none=Sa:=by kernel_rfl
def afn:List VT:=[(.one (.c (.sl 9))),eJ]
theorem afo:bz Tryz.prog aD 110 none=afn:=by kernel_rfl
end
section
open Go
set_option maxRecDepth 1000000
def RG:VC:=(.rq (.call [] 24 none [(.sub (.var 0) 0 5),(.var 1)] bw []) (.ite (.ic .lss (.var 2) (.li .i64 0)) (.ret (.li .i64 (-1)) []) (.rq (.call [] 25 none [(.cell (.var 0) 5),(.var 2)] bw []) (.ite (.ic .lss (.var 3) (.li .i64 0)) (.ret (.li .i64 (-1)) []) (.ret (.var 3) [])))))
theorem agU:bA Tryz.prog aD bi 5 none=RG:=by kernel_rfl
def aeN:List VT:=[(.one (.agg [.str,.bool,.bool,(.sl 110),(.int .i64),(.sl 83)])),bw]
theorem aeO:bz Tryz.prog aD 5 none=aeN:=by kernel_rfl
def Ro:VC:=(.rq (.call [] 42 none [(.sub (.var 0) 0 5),(.sub (.var 1) 0 5)] dO []) (.ite (.no (.var 2)) (.ret (.lb false) []) (.rq (.call [] 43 none [(.cell (.var 0) 5),(.cell (.var 1) 5)] dO []) (.ite (.no (.var 3)) (.ret (.lb false) []) (.ret (.lb true) [])))))
theorem agH:bA Tryz.prog aD bi 11 none=Ro:=by kernel_rfl
def aen:List VT:=[(.one (.agg [.str,.bool,.bool,(.sl 118),(.int .i64),(.sl 86)])),(.one (.agg [.str,.bool,.bool,(.sl 118),(.int .i64),(.sl 86)]))]
theorem aeo:bz Tryz.prog aD 11 none=aen:=by kernel_rfl
def RF:VC:=(.ite (.ic .lss (.ar .sub .i64 (.var 1) (.len (.var 0))) (.li .i64 0)) (.ret (.li .i64 (-1)) []) (.loop [bw,bw] [(.ar .sub .i64 (.var 1) (.len (.var 0))),(.li .i64 0)] (.ite (.ic .lss (.var 3) (.len (.var 0))) (.rq (.cond [] (.cw (.var 0) (.var 3))) (.rq (.call [] 51 none [(.row [.str,(.int .i64)] (.var 0) (.var 3)),(.var 2)] bw []) (.ite (.ic .lss (.var 4) (.li .i64 0)) (.ret (.li .i64 (-1)) []) (.again 0 [(.var 4),(.ar .add .i64 (.var 3) (.li .i64 1))])))) (.ret (.var 2) []))))
theorem agS:bA Tryz.prog aD bi 25 none=RF:=by kernel_rfl
def aeK:List VT:=[(.one (.c (.sl 83))),bw]
theorem aeL:bz Tryz.prog aD 25 none=aeK:=by kernel_rfl
def Sc:VC:=(.rq (.call [] 57 none [(.var 0)] dO []) (.rq (.call [((.no (.var 2)),false)] 57 none [(.var 1)] dO []) (.ite (.or (.no (.var 2)) (.no (.var 3))) (.ret (.lb false) []) (.loop [bw] [(.li .i64 0)] (.ite (.ic .lss (.var 4) (.li .i64 6)) (.rq (.call [] 58 none [(.var 1),(.var 4)] dO []) (.rq (.call [((.var 5),true)] 58 none [(.var 0),(.var 4)] dO []) (.ite (.an (.var 5) (.no (.var 6))) (.ret (.lb false) []) (.again 0 [(.ar .add .i64 (.var 4) (.li .i64 1))])))) (.ret (.lb true) []))))))
theorem ahj:bA Tryz.prog aD bi 29 none=Sc:=by kernel_rfl
def aft:List VT:=[bw,bw]
theorem afu:bz Tryz.prog aD 29 none=aft:=by kernel_rfl
def RL:VC:=(.rq (.gW 62 none [(.cell (.var 0) 3)] (.one (.c (.sl 118))) [] [(0,2)]) (.ret (.cat (.ah (.cell (.var 0) 0)) (.cat (.ah (.cell (.var 0) 1)) (.cat (.ah (.cell (.var 0) 2)) (.cat (.ah (.var 1)) (.cat (.ah (.cell (.var 0) 4)) .cT))))) []))
theorem agY:bA Tryz.prog aD bi 33 none=RL:=by kernel_rfl
def aeV:List VT:=[(.one (.agg [.str,.bool,.bool,(.sl 110),(.int .i64)]))]
theorem aeW:bz Tryz.prog aD 33 none=aeV:=by kernel_rfl
theorem ab1:bi.get 33=[(3,2)]:=by kernel_rfl
def QY:VC:=(.rq (.call [] 69 none [(.cell (.var 0) 0)] bw []) (.ite (.or (.ic .lss (.var 1) (.li .i64 0)) (.an (.sc .neq (.cell (.var 0) 3) (.ls ⟨#[]⟩)) (.sc .neq (.cell (.var 0) 0) (.ls ⟨#[76,111,97,100]⟩)))) (.ret (.lb false) []) (.ite (.sc .eql (.cell (.var 0) 0) (.ls ⟨#[71,101,116]⟩)) (.rq (.call [] 70 none [(.cell (.var 0) 1)] dO []) (.ret (.an (.var 2) (.ic .eql (.cell (.var 0) 2) (.li .i64 0))) [])) (.ite (.sc .eql (.cell (.var 0) 0) (.ls ⟨#[80,117,116]⟩)) (.rq (.call [] 70 none [(.cell (.var 0) 1)] dO []) (.rq (.call [((.var 2),true)] 68 none [(.cell (.var 0) 2)] dO []) (.ret (.an (.var 2) (.var 3)) []))) (.ite (.sc .eql (.cell (.var 0) 0) (.ls ⟨#[72,101,97,114]⟩)) (.rq (.call [((.sc .eql (.cell (.var 0) 1) (.ls ⟨#[]⟩)),true)] 68 none [(.cell (.var 0) 2)] dO []) (.ret (.an (.sc .eql (.cell (.var 0) 1) (.ls ⟨#[]⟩)) (.var 2)) [])) (.ret (.an (.sc .eql (.cell (.var 0) 1) (.ls ⟨#[]⟩)) (.ic .eql (.cell (.var 0) 2) (.li .i64 0))) []))))))
theorem agi:bA Tryz.prog aD bi 37 none=QY:=by kernel_rfl
def adF:List VT:=[(.one uo)]
theorem adG:bz Tryz.prog aD 37 none=adF:=by kernel_rfl
def Rl:VC:=(.ite (.sc .neq (.cell (.var 0) 0) (.cell (.var 1) 0)) (.ret (.lb false) []) (.ite (.no (.bc (.cell (.var 0) 1) (.cell (.var 1) 1))) (.ret (.lb false) []) (.ite (.no (.bc (.cell (.var 0) 2) (.cell (.var 1) 2))) (.ret (.lb false) []) (.rq (.call [] 75 none [(.cell (.var 0) 3),(.cell (.var 1) 3)] dO []) (.ite (.no (.var 2)) (.ret (.lb false) []) (.ite (.ic .neq (.cell (.var 0) 4) (.cell (.var 1) 4)) (.ret (.lb false) []) (.ret (.lb true) [])))))))
theorem agE:bA Tryz.prog aD bi 42 none=Rl:=by kernel_rfl
def aeh:List VT:=[(.one (.agg [.str,.bool,.bool,(.sl 118),(.int .i64)])),(.one (.agg [.str,.bool,.bool,(.sl 118),(.int .i64)]))]
theorem aei:bz Tryz.prog aD 42 none=aeh:=by kernel_rfl
def Rv:VC:=(.loop [bw,bw] [(.var 1),(.li .i64 0)] (.ite (.ic .lss (.var 3) (.len (.var 0))) (.rq (.cond [] (.cw (.var 0) (.var 3))) (.rq (.call [] 49 none [(.var 2)] eJ []) (.ite (.sc .neq (.cell (.row [.str,(.int .i64)] (.var 0) (.var 3)) 0) (.var 4)) (.ret (.li .i64 (-1)) []) (.rq (.cond [] (.cw (.var 0) (.var 3))) (.ite (.ic .neq (.cell (.row [.str,(.int .i64)] (.var 0) (.var 3)) 1) (.ar .add .i64 (.var 2) (.li .i64 1))) (.ret (.li .i64 (-1)) []) (.again 0 [(.ar .add .i64 (.ar .add .i64 (.var 2) (.li .i64 1)) (.li .i64 1)),(.ar .add .i64 (.var 3) (.li .i64 1))])))))) (.ret (.var 2) [])))
theorem agL:bA Tryz.prog aD bi 47 none=Rv:=by kernel_rfl
def aev:List VT:=[(.one (.c (.sl 86))),bw]
theorem aew:bz Tryz.prog aD 47 none=aev:=by kernel_rfl
def RE:VC:=(.ite (.ic .lss (.ar .sub .i64 (.var 1) (.len (.cell (.var 0) 0))) (.li .i64 0)) (.ret (.li .i64 (-1)) []) (.ret (.ar .sub .i64 (.var 1) (.len (.cell (.var 0) 0))) []))
theorem agT:bA Tryz.prog aD bi 51 none=RE:=by kernel_rfl
def aeJ:List VT:=[(.one (.agg [.str,(.int .i64)])),bw]
theorem aeM:bz Tryz.prog aD 51 none=aeJ:=by kernel_rfl
def SA:VC:=(.ite (.ic .eql (.var 1) (.li .i64 0)) (.rq (.call [] 80 none [(.cell (.var 0) 0)] (.aE [(.c (.int .i64)),(.c .bool)]) []) (.ret (.proj (.var 2) 0) [])) (.rq (.cond [] (.cw (.cell (.var 0) 5) (.ar .sub .i64 (.var 1) (.li .i64 1)))) (.rq (.call [] 82 none [(.cell (.row [.str,(.int .i64)] (.cell (.var 0) 5) (.ar .sub .i64 (.var 1) (.li .i64 1))) 0)] (.aE [(.c (.int .i64)),(.c (.int .i64)),(.c .bool)]) []) (.ret (.proj (.var 2) 1) []))))
theorem ahB:bA Tryz.prog aD bi 55 none=SA:=by kernel_rfl
def af1:List VT:=[(.one (.agg [.str,.bool,.bool,(.sl 118),(.int .i64),(.sl 86)])),bw]
theorem af2:bz Tryz.prog aD 55 none=af1:=by kernel_rfl
def RQ:VC:=(.loop [bw] [(.li .i64 0)] (.ite (.ic .lss (.var 1) (.li .i64 6)) (.rq (.gW 85 none [(.var 1)] (.one (.c (.sl 9))) [] [(0,1)]) (.rq (.call [] 84 none [(.var 2),(.var 0)] dO []) (.ite (.var 3) (.ret (.var 1) []) (.again 0 [(.ar .add .i64 (.var 1) (.li .i64 1))])))) (.ret (.li .i64 (-1)) [])))
theorem ag4:bA Tryz.prog aD bi 59 none=RQ:=by kernel_rfl
def ae3:List VT:=[eJ]
theorem ae4:bz Tryz.prog aD 59 none=ae3:=by kernel_rfl
def Rb:VC:=(.rq (.cond [] (.few (.bJ 118) (.cell (.var 0) 3))) (.ret (.cat (.ah (.cell (.var 0) 0)) (.cat (.ah (.cell (.var 0) 1)) (.cat (.ah (.cell (.var 0) 2)) (.cat (.ah (.app (.bJ 118) (.cell (.var 0) 3))) (.cat (.ah (.cell (.var 0) 4)) .cT))))) []))
theorem agv:bA Tryz.prog aD bi 64 none=Rb:=by kernel_rfl
def adZ:List VT:=[(.one (.agg [.str,.bool,.bool,(.sl 118),(.int .i64)]))]
theorem ad0:bz Tryz.prog aD 64 none=adZ:=by kernel_rfl
theorem abY:bi.get 64=[(3,2)]:=by kernel_rfl
def agz:VC:=(.ret (.an (.ic .geq (.var 0) (.li .i64 0)) (.ic .leq (.var 0) (.li .i64 999))) [])
theorem agA:bA Tryz.prog aD bi 68 none=agz:=by kernel_rfl
def ad8:List VT:=[bw]
theorem ad9:bz Tryz.prog aD 68 none=ad8:=by kernel_rfl
def RA:VC:=(.ite (.ic .lss (.ar .sub .i64 (.var 1) (.len (.cell (.var 0) 0))) (.li .i64 0)) (.ret (.li .i64 (-1)) []) (.ret (.ar .sub .i64 (.var 1) (.len (.cell (.var 0) 0))) []))
theorem agQ:bA Tryz.prog aD bi 79 none=RA:=by kernel_rfl
def aeD:List VT:=[(.one (.agg [.str,(.int .i64)])),bw]
theorem aeG:bz Tryz.prog aD 79 none=aeD:=by kernel_rfl
def Sl:VC:=(.ret (.or (.an (.ic .geq (.var 0) (.li .u8 97)) (.ic .leq (.var 0) (.li .u8 122))) (.an (.an (.no (.var 1)) (.ic .geq (.var 0) (.li .u8 48))) (.ic .leq (.var 0) (.li .u8 57)))) [])
theorem ahp:bA Tryz.prog aD bi 83 none=Sl:=by kernel_rfl
def afE:List VT:=[(.one (.c (.int .u8))),dO]
theorem afF:bz Tryz.prog aD 83 none=afE:=by kernel_rfl
def Sy:VC:=(.ite (.ic .geq (.var 0) (.li .i64 999)) (.ret (.var 0) []) (.ret (.ar .add .i64 (.var 0) (.li .i64 1)) []))
theorem ahz:bA Tryz.prog aD bi 87 none=Sy:=by kernel_rfl
def afX:List VT:=[bw]
theorem afY:bz Tryz.prog aD 87 none=afX:=by kernel_rfl
def QZ:VC:=(.ite (.ic .gtr (.len (.var 0)) (.li .i64 4)) (.ret (.lb false) []) (.loop [bw] [(.li .i64 0)] (.ite (.ic .lss (.var 1) (.len (.var 0))) (.rq (.cond [] (.cw (.var 0) (.var 1))) (.rq (.call [] 70 none [(.cell (.row [.str,(.int .i64)] (.var 0) (.var 1)) 0)] dO []) (.rq (.call [((.no (.var 2)),false)] 68 none [(.cell (.row [.str,(.int .i64)] (.var 0) (.var 1)) 1)] dO []) (.rq (.cond [((.or (.no (.var 2)) (.no (.var 3))),false),((.ic .gtr (.var 1) (.li .i64 0)),true)] (.cw (.var 0) (.ar .sub .i64 (.var 1) (.li .i64 1)))) (.ite (.or (.or (.no (.var 2)) (.no (.var 3))) (.an (.ic .gtr (.var 1) (.li .i64 0)) (.sc .geq (.cell (.row [.str,(.int .i64)] (.var 0) (.ar .sub .i64 (.var 1) (.li .i64 1))) 0) (.cell (.row [.str,(.int .i64)] (.var 0) (.var 1)) 0)))) (.ret (.lb false) []) (.again 0 [(.ar .add .i64 (.var 1) (.li .i64 1))])))))) (.ret (.lb true) []))))
theorem agj:bA Tryz.prog aD bi 91 none=QZ:=by kernel_rfl
def adH:List VT:=[(.one (.c (.sl 118)))]
theorem adI:bz Tryz.prog aD 91 none=adH:=by kernel_rfl
def Rh:VC:=(.ite (.sc .neq (.cell (.var 0) 0) (.cell (.var 1) 0)) (.ret (.lb false) []) (.ite (.ic .neq (.cell (.var 0) 1) (.cell (.var 1) 1)) (.ret (.lb false) []) (.ret (.lb true) [])))
theorem agD:bA Tryz.prog aD bi 97 none=Rh:=by kernel_rfl
def aed:List VT:=[(.one (.agg [.str,(.int .i64)])),(.one (.agg [.str,(.int .i64)]))]
theorem aeg:bz Tryz.prog aD 97 none=aed:=by kernel_rfl
def Sx:VC:=(.ite (.sc .eql (.var 1) (.ls ⟨#[72,101,97,108]⟩)) (.ret (.aJ (.aJ .bP (.cat (.ah (.cell (.var 0) 0)) (.cat (.ah (.lb false)) (.cat (.ah (.lb false)) (.cat (.ah (.cell (.var 0) 3)) (.cat (.ah (.cell (.var 0) 4)) .cT)))))) (.cat (.ah (.li .i64 0)) (.cat (.ah (.li .i64 0)) (.cat (.ah (.ls ⟨#[]⟩)) (.cat (.ah (.li .i64 0)) (.cat (.ah (.li .i64 0)) .cT)))))) []) (.ite (.an (.sc .eql (.var 1) (.ls ⟨#[83,116,111,112]⟩)) (.no (.cell (.var 0) 1))) (.ret (.aJ (.aJ .bP (.var 0)) (.cat (.ah (.li .i64 2)) (.cat (.ah (.li .i64 0)) (.cat (.ah (.ls ⟨#[]⟩)) (.cat (.ah (.li .i64 0)) (.cat (.ah (.li .i64 0)) .cT)))))) []) (.ite (.sc .eql (.var 1) (.ls ⟨#[83,116,111,112]⟩)) (.ret (.aJ (.aJ .bP (.cat (.ah (.cell (.var 0) 0)) (.cat (.ah (.lb false)) (.cat (.ah (.cell (.var 0) 2)) (.cat (.ah (.cell (.var 0) 3)) (.cat (.ah (.cell (.var 0) 4)) .cT)))))) (.cat (.ah (.li .i64 0)) (.cat (.ah (.li .i64 0)) (.cat (.ah (.ls ⟨#[]⟩)) (.cat (.ah (.li .i64 0)) (.cat (.ah (.li .i64 0)) .cT)))))) []) (.ite (.cell (.var 0) 1) (.ret (.aJ (.aJ .bP (.cat (.ah (.cell (.var 0) 0)) (.cat (.ah (.lb false)) (.cat (.ah (.lb true)) (.cat (.ah (.cell (.var 0) 3)) (.cat (.ah (.cell (.var 0) 4)) .cT)))))) (.cat (.ah (.li .i64 3)) (.cat (.ah (.li .i64 0)) (.cat (.ah (.ls ⟨#[]⟩)) (.cat (.ah (.li .i64 0)) (.cat (.ah (.li .i64 0)) .cT)))))) []) (.rq (.call [] 87 none [(.cell (.var 0) 4)] bw []) (.ret (.aJ (.aJ .bP (.cat (.ah (.cell (.var 0) 0)) (.cat (.ah (.lb true)) (.cat (.ah (.cell (.var 0) 2)) (.cat (.ah (.cell (.var 0) 3)) (.cat (.ah (.var 2)) .cT)))))) (.cat (.ah (.li .i64 0)) (.cat (.ah (.li .i64 0)) (.cat (.ah (.ls ⟨#[]⟩)) (.cat (.ah (.li .i64 0)) (.cat (.ah (.li .i64 0)) .cT)))))) []))))))
theorem ahy:bA Tryz.prog aD bi 101 none=Sx:=by kernel_rfl
def afV:List VT:=[(.one (.agg [.str,.bool,.bool,(.sl 118),(.int .i64)])),eJ]
theorem afW:bz Tryz.prog aD 101 none=afV:=by kernel_rfl
def Sr:VC:=(.loop [bw] [(.li .i64 0)] (.ite (.ic .lss (.var 2) (.len (.var 0))) (.rq (.cond [] (.cw (.var 0) (.var 2))) (.ite (.sc .eql (.cell (.row [.str,(.int .i64)] (.var 0) (.var 2)) 0) (.var 1)) (.ret (.var 2) []) (.again 0 [(.ar .add .i64 (.var 2) (.li .i64 1))]))) (.ret (.li .i64 (-1)) [])))
theorem aht:bA Tryz.prog aD bi 107 none=Sr:=by kernel_rfl
def afL:List VT:=[(.one (.c (.sl 118))),eJ]
theorem afM:bz Tryz.prog aD 107 none=afL:=by kernel_rfl
def Si:VC:=(.loop [(.one (.c (.sl 9))),bw,bw] [(.bJ 9),(.li .i64 0),(.li .i64 0)] (.ite (.an (.sc .neq (.var 1) (.ls ⟨#[]⟩)) (.ic .leq (.ar .add .i64 (.var 4) (.len (.var 1))) (.len (.var 0)))) (.rq (.cond [] (.inc (.var 0) (.var 4) (.ar .add .i64 (.var 4) (.len (.var 1))))) (.ite (.sc .eql (.cut (.var 0) (.var 4) (.ar .add .i64 (.var 4) (.len (.var 1)))) (.var 1)) (.rq (.cond [] (.inc (.var 0) (.var 3) (.var 4))) (.rq (.cond [] (.few (.var 2) (.put (.bJ 9) (.ah (.cut (.var 0) (.var 3) (.var 4)))))) (.again 0 [(.app (.var 2) (.put (.bJ 9) (.ah (.cut (.var 0) (.var 3) (.var 4))))),(.ar .add .i64 (.var 4) (.len (.var 1))),(.ar .add .i64 (.var 4) (.len (.var 1)))]))) (.again 0 [(.var 2),(.var 3),(.ar .add .i64 (.var 4) (.li .i64 1))]))) (.rq (.cond [] (.inc (.var 0) (.var 3) (.len (.var 0)))) (.rq (.cond [] (.few (.var 2) (.put (.bJ 9) (.ah (.cut (.var 0) (.var 3) (.len (.var 0))))))) (.ret (.app (.var 2) (.put (.bJ 9) (.ah (.cut (.var 0) (.var 3) (.len (.var 0)))))) [])))))
theorem ahm:bA Tryz.prog aD bi 111 none=Si:=by kernel_rfl
def QO:List VT:=[eJ,eJ]
theorem afy:bz Tryz.prog aD 111 none=QO:=by kernel_rfl
theorem ab7:bi.get 111=[(0,1)]:=by kernel_rfl
end
section
open Go.RowKit
variable [GC]
section
open Classical
variable {P:Program}{tab:Nat->List CT}{T:D->List D->Prop}
abbrev Out:=List D->D×List D
theorem VC.exact{r0:D×List D}(hT:T r0.1 r0.2): ∀(V:VC) (env:List D) (L:List ((List D->Prop)×Out)),(∀x∈L,∀ys,T (x.2 ys).1 (x.2 ys).2)->V.den P tab env T (L.map (·.1)) ->
  ∃r:D×List D,T r.1 r.2/\V.den P tab env (fun d bs=>d=r.1/\bs=r.2) (L.map fun x=>fun ys=>x.1 ys/\x.2 ys=r)
 | .fail _,_,_,_,h=>h.elim
 | .ret e bs,env,L,_,h=>by
  simp only [VC.den] at h
  exact ⟨(e.den env,bs.map (fun x=>x.den env)),h,⟨rfl,rfl⟩⟩
 | .rq (.cond gs c) k,env,L,hL,⟨h1,h2⟩=>by
  obtain ⟨r,q1,q2⟩:=VC.exact hT k env L hL h2
  exact ⟨r,q1,h1,q2⟩
 | .rq (.call gs f bx args vt nb) k,env,L,hL,⟨d,cs,h1,h2,h3,h4⟩=>by
  obtain ⟨r,q1,q2⟩:=VC.exact hT k _ L hL h4
  exact ⟨r,q1,d,cs,h1,h2,h3,q2⟩
 | .rq (.gW f bx args vt nb rt) k,env,L,hL,⟨d,cs,h1,h2,h3,h4⟩=>by
  obtain ⟨r,q1,q2⟩:=VC.exact hT k _ L hL h4
  exact ⟨r,q1,d,cs,h1,h2,h3,q2⟩
 | .rq (.cm gs e args vt) k,env,L,hL,⟨d,h1,h3,h4⟩=>by
  obtain ⟨r,q1,q2⟩:=VC.exact hT k _ L hL h4
  exact ⟨r,q1,d,h1,h3,q2⟩
 | .rq (.nV g vt ix) k,env,L,hL,⟨d,h1,h2,h3,h4⟩=>by
  obtain ⟨r,q1,q2⟩:=VC.exact hT k _ L hL h4
  exact ⟨r,q1,d,h1,h2,h3,q2⟩
 | .rq (.new f args nb) k,env,L,hL,⟨cs,h2,h3,h4⟩=>by
  obtain ⟨r,q1,q2⟩:=VC.exact hT k _ L hL h4
  exact ⟨r,q1,cs,h2,h3,q2⟩
 | .ite c a b,env,L,hL,⟨h1,h2⟩=>by
  cases hc:(c.den env).jf with
  | true =>
   obtain ⟨r,q1,q2⟩:=VC.exact hT a env L hL (h1 hc)
   exact ⟨r,q1,⟨fun _=>q2,fun h=>absurd (hc.symm.trans h) (by simp)⟩⟩
  | false =>
   obtain ⟨r,q1,q2⟩:=VC.exact hT b env L hL (h2 hc)
   exact ⟨r,q1,⟨fun h=>absurd (hc.symm.trans h) (by simp),fun _=>q2⟩⟩
 | .again d es,env,L,hL,h=>by
  simp only [VC.den,List.getElem?_map] at h
  cases hd:L[d]? with
  | none=>rw [hd] at h;exact h.elim
  | some x =>
   rw [hd] at h
   refine ⟨x.2 (es.map (·.den env)),hL x (List.mem_of_getElem? hd) _,?_⟩
   simp only [VC.den,List.getElem?_map,hd]
   exact ⟨h,rfl⟩
 | .loop dh inits body,env,L,hL,⟨I,μ,hI,hb⟩=>by
  let D1 (xs:List D) (o:Out) (r:D×List D):Prop:=T r.1 r.2/\body.den P tab (env++xs) (fun d bs=>d=r.1/\bs=r.2) ((fun ys=>(I ys/\μ ys<μ xs)/\o ys=r)::L.map fun x=>fun ys=>x.1 ys/\x.2 ys=r)
  let G:(xs:List D)->((ys:List D)->μ ys<μ xs->D×List D)->D×List D:=fun xs rec =>
   if h: ∃r,D1 xs (fun ys=>if hy:μ ys<μ xs then rec ys hy else r0) r then h.choose else r0
  let o:Out:=(measure μ).wf.fix G
  have ho: ∀xs,o xs=if h: ∃r,D1 xs (fun ys=>if μ ys<μ xs then o ys else r0) r then h.choose else r0:=fun xs=>by
   show (measure μ).wf.fix G xs=_
   rw [WellFounded.fix_eq]
   rfl
  have Nb: ∀xs,T (o xs).1 (o xs).2:=fun xs=>by
   rw [ho]
   split
   ·rename_i h;exact h.choose_spec.1
   ·exact hT
  have hbody: ∀xs,fH tab dh xs->eB xs->I xs->body.den P tab (env++xs) (fun d bs=>d=(o xs).1/\bs=(o xs).2) ((fun ys=>(I ys/\o ys=o xs)/\μ ys<μ xs)::L.map fun x=>fun ys=>x.1 ys/\x.2 ys=o xs):=by
   intro xs h1 h2 h3
   have hex: ∃r,D1 xs (fun ys=>if μ ys<μ xs then o ys else r0) r:=by
    refine VC.exact hT body (env++xs) ((fun ys=>I ys/\μ ys<μ xs,fun ys=>if μ ys<μ xs then o ys else r0)::L) ?_ (hb xs h1 h2 h3)
    intro x hx ys
    rcases List.mem_cons.1 hx with rfl|hx
    ·simp only;split
     ·exact Nb ys
     ·exact hT
    ·exact hL x hx ys
   have Yv:o xs=hex.choose:=by rw [ho,dif_pos hex]
   have hs:=hex.choose_spec.2
   rw [<-Yv] at hs
   have he:(fun ys=>(I ys/\μ ys<μ xs)/\(if μ ys<μ xs then o ys else r0)=o xs)=(fun ys=>(I ys/\o ys=o xs)/\μ ys<μ xs):=by
    funext ys
    apply propext
    by_cases hy:μ ys<μ xs<;>simp [hy]
   rw [he] at hs
   exact hs
  refine ⟨o (inits.map (·.den env)),Nb _,fun xs=>I xs/\o xs=o (inits.map (·.den env)),μ,⟨hI,rfl⟩,?_⟩
  rintro xs h1 h2 ⟨h3,h4⟩
  have:=hbody xs h1 h2 h3
  rw [h4] at this
  exact this
theorem dw.ex{f:FuncId}{tb:TB}{rb:RB}{bx:Option (List CT)}{V:VC}{Γ:List VT}(hV:bA P tb rb f bx=V)(hok:V.ok=true)(aB:bz P tb f bx=Γ)(oW:cL P tb tb=true)(hm:P.follows .mixedOrders=true)
  {bc:Option (List D)} {ds:List D} {r0:D×List D} (hT:T r0.1 r0.2) (hbc:bc.map List.length=bx.map List.length) (hty:fH tb.tab Γ (ds++bc.getD [])) (rm:bx=none-> ∀d bs,T d bs->bs=[])
  (iF:eB ds->eB (bc.getD [])->V.den P tb.tab (ds++bc.getD []) T []): ∃r:D×List D,T r.1 r.2/\dw P f bc ds r.1 r.2 (rb.get f):=by
 by_cases hf:eB ds/\eB (bc.getD [])
 ·obtain ⟨r,q1,q2⟩:=VC.exact hT V _ [] (by simp) (iF hf.1 hf.2)
  exact ⟨r,q1,dw.of hV hok aB oW hm hbc hty (fun h=>rm h _ _ q1) fun _ _=>q2⟩
 ·exact ⟨r0,hT,dw.of hV hok aB oW hm hbc hty (fun h=>rm h _ _ hT) fun h1 h2=>absurd ⟨h1,h2⟩ hf⟩
theorem aG.ex{f:FuncId}{tb:TB}{rb:RB}{bx:Option (List CT)}{V:VC}{Γ:List VT}(hV:bA P tb rb f bx=V)(hok:V.ok=true)(aB:bz P tb f bx=Γ)(oW:cL P tb tb=true)(hm:P.follows .mixedOrders=true)
  {bc:Option (List D)} {ds:List D} {r0:D×List D} (hT:T r0.1 r0.2) (hbc:bc.map List.length=bx.map List.length) (hty:fH tb.tab Γ (ds++bc.getD [])) (rm:bx=none-> ∀d bs,T d bs->bs=[])
  (iF:eB ds->eB (bc.getD [])->V.den P tb.tab (ds++bc.getD []) T []): ∃r:D×List D,T r.1 r.2/\aG P f bc ds r.1 r.2:=by
 obtain ⟨r,h1,h2⟩:=dw.ex hV hok aB oW hm hT hbc hty rm iF
 exact ⟨r,h1,.D6 h2⟩
end
end
section
open Go.RowKit Go
variable [GC]
theorem cA:(∀{α:Type} {a:α} {r s:List α},(a::r)++s=a::(r++s))/\(∀{α:Type} (r:List α),[]++r=r):=⟨by simp,by simp⟩
theorem gE:(∀{α:Type} {a b:α} {l:List α},a∈b::l↔a=b\/a∈l)/\(∀{α:Type} {a:α},¬a∈([]:List α))/\(∀(p:Prop),(p\/False)=p)/\(∀{α:Type} {p:α->Prop} {q:α->Prop} {a:α},(∀x,x=a\/q x->p x)↔p a/\ ∀x,q x->p x)/\(∀{α:Type} {p:α->Prop} {a:α},(∀x,x=a->p x)↔p a):=⟨List.mem_cons,List.not_mem_nil,or_false,forall_eq_or_imp,forall_eq⟩
theorem mo:Tryz.prog.follows .mixedOrders=true:=by kernel_rfl
theorem dw.bV{f:FuncId}{V:VC}{Γ:List VT}(hV:bA Tryz.prog aD bi f none=V)(aB:bz Tryz.prog aD f none=Γ){rt:List (Nat×Nat)}(ef:bi.get f=rt)(hok:V.ok=true){ds:List D}{r:D}
  (hty:fH aD.tab Γ ds) (iF:eB ds->V.den Tryz.prog aD.tab ds (fun d bs=>d=r/\bs=[]) []):dw Tryz.prog f none ds r [] rt :=
 ef▸dw.of hV hok aB BN mo rfl (by simpa using hty) (fun _=>rfl) (fun h _=>by simpa using iF h)
theorem aG.bV{f:FuncId}{V:VC}{Γ:List VT}(hV:bA Tryz.prog aD bi f none=V)(aB:bz Tryz.prog aD f none=Γ)(hok:V.ok=true){ds:List D}{r:D}
  (hty:fH aD.tab Γ ds) (iF:eB ds->V.den Tryz.prog aD.tab ds (fun d bs=>d=r/\bs=[]) []):aG Tryz.prog f none ds r [] :=
 aG.of hV hok aB BN mo rfl (by simpa using hty) (fun _=>rfl) (fun h _=>by simpa using iF h)
theorem aG.abb{P:Program}{f:FuncId}{ds:List D}{r:D}(hf:iy P f=true)
  (h: ∀(w:World) (M:Addr->Prop) (vs:List Value),(∀p,M p->p.block<w.heap.size)->Rs w M ds vs->Calls P f vs.toArray w fun e w'=> ∃v,e= .returned v/\R w' M r v/\Below w.heap.size w w'):aG P f none ds r [] :=
 ⟨hf,fun w M g vs hM hr _=>(h w M vs hM.1 hr).mono fun e w' ⟨v,h1,h2,h3⟩=>⟨v,h1,h2,Fr.oY h3 (Nat.le_refl _),fun h=>by cases h⟩⟩
theorem aG.vU{P:Program}{f:FuncId}{ds:List D}{r:D}(hf:iy P f=true)
  (h: ∀(w:World) (M:Addr->Prop) (vs:List Value),jU w M->Rs w M ds vs->Calls P f vs.toArray w fun e w'=> ∃v,e= .returned v/\R w' M r v/\Below w.heap.size w w'):aG P f none ds r [] :=
 ⟨hf,fun w M g vs hM hr _=>(h w M vs hM hr).mono fun e w' ⟨v,h1,h2,h3⟩=>⟨v,h1,h2,Fr.oY h3 (Nat.le_refl _),fun h=>by cases h⟩⟩
inductive qv:List (List D->Prop)->List (List D->Prop)->Prop
 | nil:qv [] []
 | cons {p q:List D->Prop} {L L':List (List D->Prop)} (h: ∀ys,p ys->q ys) (t:qv L L'):qv (p::L) (q::L')
theorem qv.refl: ∀L,qv L L
 | []=> .nil
 | _::L=> .cons (fun _ h=>h) (qv.refl L)
theorem qv.get{L L':List (List D->Prop)}(h:qv L L'): ∀{d:Nat} {p:List D->Prop},L[d]? =some p-> ∃q,L'[d]? =some q/\ ∀ys,p ys->q ys:=by
 induction h with
 | nil=>intro d p hp;simp at hp
 | cons h t ih =>
  intro d p hp
  cases d with
  | zero=>simp at hp;subst hp;exact ⟨_,rfl,h⟩
  | succ d=>simp at hp;simpa using ih hp
theorem VC.pW{P:Program}{tab:Nat->List CT}{Q Q':D->List D->Prop}(hQ: ∀d bs,Q d bs->Q' d bs): ∀(V:VC) (env:List D) {L L':List (List D->Prop)},qv L L'->V.den P tab env Q L->V.den P tab env Q' L'
 | .fail _,_,_,_,_,h=>h.elim
 | .ret e bs,env,_,_,_,h=>hQ _ _ h
 | .rq (.cond gs c) k,env,_,_,hL,⟨h1,h2⟩=>⟨h1,VC.pW hQ k env hL h2⟩
 | .rq (.call gs f bx args vt nb) k,env,_,_,hL,⟨d,cs,h1,h2,h3,h4⟩=>⟨d,cs,h1,h2,h3,VC.pW hQ k _ hL h4⟩
 | .rq (.gW f bx args vt nb rt) k,env,_,_,hL,⟨d,cs,h1,h2,h3,h4⟩=>⟨d,cs,h1,h2,h3,VC.pW hQ k _ hL h4⟩
 | .rq (.cm gs e args vt) k,env,_,_,hL,⟨d,h1,h3,h4⟩=>⟨d,h1,h3,VC.pW hQ k _ hL h4⟩
 | .rq (.nV g vt ix) k,env,_,_,hL,⟨d,h1,h2,h3,h4⟩=>⟨d,h1,h2,h3,VC.pW hQ k _ hL h4⟩
 | .rq (.new f args nb) k,env,_,_,hL,⟨cs,h2,h3,h4⟩=>⟨cs,h2,h3,VC.pW hQ k _ hL h4⟩
 | .ite c a b,env,_,_,hL,⟨h1,h2⟩=>⟨fun h=>VC.pW hQ a env hL (h1 h),fun h=>VC.pW hQ b env hL (h2 h)⟩
 | .loop dh inits body,env,_,_,hL,⟨I,μ,h1,h2⟩=>⟨I,μ,h1,fun xs q1 q2 q3=>VC.pW hQ body _ (.cons (fun _ h=>h) hL) (h2 xs q1 q2 q3)⟩
 | .again d es,env,L,L',hL,h=>by
  simp only [VC.den] at h ⊢
  cases hd:L[d]? with
  | none=>rw [hd] at h;exact h.elim
  | some p =>
   rw [hd] at h
   obtain ⟨q,h1,h2⟩:=hL.get hd
   rw [h1];exact h2 _ h
class bC(α:Type) extends Inhabited α where
 cells:α->List D
def nth{α:Type}[Inhabited α](l:List α)(k:Nat):α:=l.getD k default
def enc{α:Type}[bC α](x:α):D:= .agg (bC.cells x)
def bg{α:Type}[bC α](l:List α):D:= .sl (l.map bC.cells)
theorem Ei{α:Type}[bC α](l:List α)(k:Nat){z:List D}(h:bC.cells (default:α)=z):D.agg (((l.map bC.cells)[k]?).getD z)=enc (nth l k):=by
 unfold enc nth
 rw [List.getD_eq_getElem?_getD,List.getElem?_map]
 cases l[k]? <;>simp [h]
@[simp] theorem iP {α:Type} [bC α] (l:List α):(bg l).mc=l.map bC.cells:=rfl
@[simp] theorem iO {α:Type} [bC α] (l:List α):jd (bg l)=l.length:=by simp [bg,jd]
@[simp] theorem ig {α:Type} [bC α] (x:α):(enc x).il=bC.cells x:=rfl
theorem qg(r:List (List D)):jd (.sl r)=r.length:=rfl
theorem Og(n:Nat):jd (.mem n)=n:=rfl
theorem CM{P:Program}{tab:Nat->List CT}{env:List D}{Q:D->List D->Prop}{L:List (List D->Prop)}{dh:List VT}{inits:List E}{body:VC}
  (St:Type) (e:St->List D) (I:St->Prop) (μ:St->Nat) (s0:St) (Zb: ∀s s',e s=e s'->μ s=μ s') (h0:inits.map (·.den env)=e s0) (hI:I s0)
  (hs: ∀s,I s->eB (e s)->body.den P tab (env++e s) Q ((fun ys=> ∃s',ys=e s'/\I s'/\μ s'<μ s)::L)):(VC.loop dh inits body).den P tab env Q L:=by
 classical
 let m:List D->Nat:=fun xs=>if h: ∃s,xs=e s then μ h.choose else 0
 have hm: ∀s,m (e s)=μ s:=by
  intro s
  have hx: ∃s',e s=e s':=⟨s,rfl⟩
  show (if h: ∃s',e s=e s' then μ h.choose else 0)=μ s
  rw [dif_pos hx]
  exact (Zb _ _ hx.choose_spec).symm
 refine ⟨fun xs=> ∃s,xs=e s/\I s,m,⟨s0,h0,hI⟩,?_⟩
 rintro xs _ hf ⟨s,rfl,XB⟩
 have:=hs s XB hf
 have he:(fun ys=>(∃s,ys=e s/\I s)/\m ys<m (e s))=(fun ys=> ∃s',ys=e s'/\I s'/\μ s'<μ s):=by
  funext ys
  apply propext
  constructor
  ·rintro ⟨⟨s',rfl,h⟩,h2⟩;exact ⟨s',rfl,h,by rwa [hm,hm] at h2⟩
  ·rintro ⟨s',rfl,h,h2⟩;exact ⟨⟨s',rfl,h⟩,by rwa [hm,hm]⟩
 rw [he]
 exact this
theorem wrap_i64{n:Int}(h1: -9223372036854775808<=n)(h2:n<=9223372036854775807):IntKind.i64.wrap n=n:=by
 simp only [IntKind.wrap,IntKind.bits,IntKind.signed]
 simp
 omega
theorem bD{P:Program}{tab:Nat->List CT}{env:List D}{Q:D->List D->Prop}{L:List (List D->Prop)}{gs:Gd}{f:FuncId}{args:List E}{vt:VT}{k:VC}{r:D}{xs:List D}
  (ha:args.map (·.den env)=xs) (hc:aG P f none xs r []) (hty:bX tab vt r) (hk:k.den P tab (env++[r]) Q L):(VC.rq (.call gs f none args vt []) k).den P tab env Q L :=
 ⟨r,[],hty,trivial,fun _=>ha▸hc,hk⟩
theorem nS{P:Program}{tab:Nat->List CT}{env:List D}{Q:D->List D->Prop}{L:List (List D->Prop)}{f:FuncId}{args:List E}{vt:VT}{rt:List (Nat×Nat)}{k:VC}{r:D}{xs:List D}
  (ha:args.map (·.den env)=xs) (hc:dw P f none xs r [] rt) (hty:bX tab vt r) (hk:k.den P tab (env++[r]) Q L):(VC.rq (.gW f none args vt [] rt) k).den P tab env Q L :=
 ⟨r,[],hty,trivial,ha▸hc,hk⟩
theorem Wr{P:Program}{tab:Nat->List CT}{env:List D}{Q:D->List D->Prop}{L:List (List D->Prop)}{gs:Gd}{f:FuncId}{args:List E}{vt:VT}{k:VC}{r:D}{xs:List D}
  (ha:args.map (·.den env)=xs) (hc:bE env gs->aG P f none xs r []) (hty:bX tab vt r) (hk:k.den P tab (env++[r]) Q L):(VC.rq (.call gs f none args vt []) k).den P tab env Q L :=
 ⟨r,[],hty,trivial,fun h=>ha▸hc h,hk⟩
theorem bH{P:Program}{tab:Nat->List CT}{env:List D}{Q:D->List D->Prop}{L:List (List D->Prop)}{gs:Gd}{c:E}{k:VC}
  (h:bE env gs->c.den env= .bool true) (hk:k.den P tab env Q L):(VC.rq (.cond gs c) k).den P tab env Q L:=⟨h,hk⟩
theorem aL{P:Program}{tab:Nat->List CT}{env:List D}{Q:D->List D->Prop}{L:List (List D->Prop)}{c:E}{a b:VC}
  (h1:(c.den env).jf=true->a.den P tab env Q L) (h2:(c.den env).jf=false->b.den P tab env Q L):(VC.ite c a b).den P tab env Q L:=⟨h1,h2⟩
theorem aK{P:Program}{tab:Nat->List CT}{env:List D}{L:List (List D->Prop)}{e:E}{r:D}(h:e.den env=r):(VC.ret e []).den P tab env (fun d bs=>d=r/\bs=[]) L:=⟨h,rfl⟩
theorem Fz{P:Program}{tab:Nat->List CT}{env:List D}{Q:D->List D->Prop}{L:List (List D->Prop)}{es:List E}{St:Type}{e:St->List D}{I:St->Prop}{μ:St->Nat}{m:Nat}(s':St)
  (h:es.map (·.den env)=e s') (hI:I s') (hm:μ s'<m):(VC.again 0 es).den P tab env Q ((fun ys=> ∃s',ys=e s'/\I s'/\μ s'<m)::L):=⟨s',h,hI,hm⟩
theorem aG.tz{f:FuncId}{V:VC}{Γ:List VT}{ds:List D}{T:D->Prop}(hV:bA Tryz.prog aD bi f none=V)(hok:V.ok=true)(aB:bz Tryz.prog aD f none=Γ)(hty:fH aD.tab Γ ds)(r0:D)(hT:T r0)
  (iF:eB ds->V.den Tryz.prog aD.tab ds (fun d bs=>T d/\bs=[]) []): ∃r,T r/\aG Tryz.prog f none ds r []:=by
 obtain ⟨⟨r,bs⟩,⟨q1,q2⟩,q3⟩:=aG.ex (T:=fun d bs=>T d/\bs=[]) (r0:=(r0,[])) hV hok aB BN mo ⟨hT,rfl⟩ (bc:=none) rfl (by simpa using hty) (fun _ d bs h=>h.2) (fun h _=>by simpa using iF h)
 simp only at q2;subst q2
 exact ⟨r,q1,q3⟩
theorem zU{P:Program}{tab:Nat->List CT}{env:List D}{Q:D->List D->Prop}{L:List (List D->Prop)}{gs:Gd}{f:FuncId}{args:List E}{vt:VT}{k:VC}{T:D->Prop}{xs:List D}
  (ha:args.map (·.den env)=xs) (hc: ∃r,T r/\aG P f none xs r []) (hty: ∀r,T r->bX tab vt r) (hk: ∀r,T r->k.den P tab (env++[r]) Q L):(VC.rq (.call gs f none args vt []) k).den P tab env Q L:=by
 obtain ⟨r,h1,h2⟩:=hc
 exact ⟨r,[],hty r h1,trivial,fun _=>ha▸h2,hk r h1⟩
theorem gJ{P:Program}{tab:Nat->List CT}{env:List D}{Q:D->List D->Prop}{L:List (List D->Prop)}{dh:List VT}{inits:List E}{body:VC}
  (n:Nat) (st:Nat->List D) (I:Nat->Prop) (h0:inits.map (·.den env)=st 0) (hI:I 0)
  (hs: ∀k,k<=n->I k->eB (st k)->body.den P tab (env++st k) Q ((fun ys=>k<n/\ys=st (k+1)/\I (k+1))::L)):(VC.loop dh inits body).den P tab env Q L:=by
 classical
 let last:List D->Nat->Nat:=fun xs m=>Nat.rec 0 (fun j r=>if xs=st (j+1)/\I (j+1) then j+1 else r) m
 have ZT: ∀xs m,last xs m<=m:=by
  intro xs m
  induction m with
  | zero=>exact Nat.le_refl _
  | succ m ih =>
   show (if xs=st (m+1)/\I (m+1) then m+1 else last xs m)<=m+1
   split<;>omega
 have ZR: ∀xs m k,k<=m->xs=st k->I k->k<=last xs m:=by
  intro xs m
  induction m with
  | zero=>intro k hk _ _;omega
  | succ m ih =>
   intro k hk hx hi
   show k<=(if xs=st (m+1)/\I (m+1) then m+1 else last xs m)
   by_cases h:k=m+1
   ·subst h;rw [if_pos ⟨hx,hi⟩];exact Nat.le_refl _
   ·have:=ih k (by omega) hx hi
    split<;>omega
 have ZS: ∀xs m k,k<=m->xs=st k->I k->xs=st (last xs m)/\I (last xs m):=by
  intro xs m
  induction m with
  | zero =>
   intro k hk hx hi
   have:k=0:=by omega
   subst this;exact ⟨hx,hi⟩
  | succ m ih =>
   intro k hk hx hi
   show xs=st (if xs=st (m+1)/\I (m+1) then m+1 else last xs m)/\I (if xs=st (m+1)/\I (m+1) then m+1 else last xs m)
   by_cases h:xs=st (m+1)/\I (m+1)
   ·rw [if_pos h];exact h
   ·rw [if_neg h]
    refine ih k ?_ hx hi
    rcases Nat.lt_or_ge k (m+1) with hlt|hge
    ·omega
    ·have:k=m+1:=by omega
     subst this;exact absurd ⟨hx,hi⟩ h
 refine ⟨fun xs=> ∃k,k<=n/\xs=st k/\I k,fun xs=>n-last xs n,⟨0,Nat.zero_le _,h0,hI⟩,?_⟩
 rintro xs _ hf ⟨k,hk,hx,hi⟩
 obtain ⟨h1,h2⟩:=ZS xs n k hk hx hi
 have h3:=ZT xs n
 generalize hj:last xs n=j at *
 subst h1
 have:=hs j h3 h2 hf
 refine VC.pW (fun _ _ h=>h) _ _ ?_ this
 refine .cons (fun ys hys=> ?_) (.refl _)
 obtain ⟨q1,q2,q3⟩:=hys
 refine ⟨⟨j+1,by omega,q2,q3⟩,?_⟩
 have:=ZR ys n (j+1) (by omega) q2 q3
 show n-last ys n<n-last (st j) n
 rw [hj];omega
theorem fT{P:Program}{tab:Nat->List CT}{env:List D}{Q:D->List D->Prop}{L:List (List D->Prop)}{es:List E}{xs:List D}{p q:Prop}
  (hp:p) (h:es.map (·.den env)=xs) (hq:q):(VC.again 0 es).den P tab env Q ((fun ys=>p/\ys=xs/\q)::L):=⟨hp,h,hq⟩
def ix(k:Nat):List D:=[.int .i64 k]
theorem eM{x y:Int}(h1: -9223372036854775808<=x+y)(h2:x+y<=9223372036854775807):cP .add .i64 x y=x+y:=wrap_i64 h1 h2
theorem kA{x y:Int}(h1: -9223372036854775808<=x-y)(h2:x-y<=9223372036854775807):cP .sub .i64 x y=x-y:=wrap_i64 h1 h2
theorem BD{α:Type}[bC α]{tab:Nat->List CT}{ts:List CT}(h: ∀x:α,ba tab ts (bC.cells x))(l:List α):dI tab ts (l.map bC.cells) :=
 dI.of (by intro r hr;obtain ⟨x,_,rfl⟩:=List.mem_map.1 hr;exact h x)
theorem qL{α:Type}[bC α]{l:List α}(h:Fits (bg l)):l.length<=maxLen:=by
 unfold bg Fits at h;simpa using h.1
theorem iz(x y:Int):bb .lss x y=decide (x<y):=rfl
theorem Fv(x y:Int):bb .leq x y=decide (x<=y):=rfl
theorem V6(x y:Int):bb .gtr x y=decide (x>y):=rfl
theorem V5(x y:Int):bb .geq x y=decide (x>=y):=rfl
theorem Fu(x y:Int):bb .eql x y=(x==y):=rfl
theorem V7(x y:Int):bb .neq x y=(x != y):=rfl
theorem aa:(∀{α β:Type} {f:α->β} {a:α} {l:List α},List.map f (a::l)=f a::List.map f l)/\(∀{α β:Type} {f:α->β},List.map f []=[])/\(∀{α β:Type} (f:α->β),Option.map f none=none)/\(∀{α β:Type} (a:α) (f:α->β),Option.map f (some a)=some (f a)) /\
  (∀{α:Type} {x:α} {xs:List α} {d:α},(x::xs).getD 0 d=x)/\(∀{α:Type} {x:α} {xs:List α} {n:Nat} {d:α},(x::xs).getD (n+1) d=xs.getD n d)/\(∀{α:Type} {a:α} {r s:List α},(a::r)++s=a::(r++s))/\(∀{α:Type} (r:List α),[]++r=r)/\(∀{α:Type} (r:List α),r++[]=r) /\
  (∀{α:Type} {a:α} {l:List α} {i:Nat},(a::l).drop (i+1)=l.drop i)/\(∀{α:Type} {l:List α},l.drop 0=l)/\(∀{α:Type} {a:α} {l:List α} {i:Nat},(a::l).take (i+1)=a::l.take i)/\(∀{α:Type} {l:List α},l.take 0=[]) /\
  (∀(k:IntKind) (n:Int),(D.int k n).cC=n)/\(∀b:Bool,(D.bool b).jf=b)/\(∀s:ByteArray,(D.str s).rQ=s)/\(∀l:List D,(D.agg l).il=l)/\(∀l:List D,(D.aE l).Ex=l)/\(∀l:List (List D),(D.sl l).mc=l) /\
  (∀{α:Type} [bC α] (x:α),(enc x).il=bC.cells x)/\(∀{α:Type} [bC α] (l:List α),(bg l).mc=l.map bC.cells)/\(∀{α:Type} [bC α] (l:List α),jd (bg l)=l.length) :=
 ⟨by simp,by simp,by simp,by simp,by simp,by simp,by simp,by simp,by simp,by simp,by simp,by simp,by simp,by simp,by simp,by simp,by simp,by simp,by simp,by simp,by simp,by simp⟩
theorem aj:(∀x y:Int,bb .lss x y=decide (x<y))/\(∀x y:Int,bb .leq x y=decide (x<=y))/\(∀x y:Int,bb .gtr x y=decide (x>y))/\(∀x y:Int,bb .geq x y=decide (x>=y))/\(∀x y:Int,bb .eql x y=(x==y))/\(∀x y:Int,bb .neq x y=(x != y))/\(∀n:Nat,(n:Int).toNat=n)/\(0:Int).toNat=0 :=
 ⟨iz,Fv,V6,V5,Fu,V7,Int.toNat_natCast,rfl⟩
end
section
open Go.RowKit Go
variable [GC]
instance :bC ByteArray:={cells:=fun s=>[.str s]}
instance :bC Int:={cells:=fun n=>[.int .i64 n]}
theorem jg(s:ByteArray):bC.cells s=[.str s]:=rfl
theorem Ky(n:Int):bC.cells n=[.int .i64 n]:=rfl
theorem lD(l:List ByteArray)(k:Nat):D.agg (((l.map bC.cells)[k]?).getD [jy CT.str])=enc (nth l k):=Ei l k rfl
theorem PF(l:List Int)(k:Nat):D.agg (((l.map bC.cells)[k]?).getD [jy (CT.int .i64)])=enc (nth l k):=Ei l k rfl
def sZ(s:ByteArray)(k:Nat):Int:=((s[k]?).map fun (c:UInt8)=>(c.toNat:Int)).getD 0
theorem JU(s:ByteArray)(k:Nat):((s[k]?).map fun (c:UInt8)=>(c.toNat:Int)).getD 0=sZ s k:=rfl
theorem tA{s:ByteArray}(h:Fits (.str s)):s.size<=9223372036854775807:=by simpa [Fits,maxLen] using h
theorem fJ(s:ByteArray):jd (.str s)=s.size:=rfl
theorem af5(s:ByteArray):ba aD.tab [.str] (bC.cells s):=by simp [jg,ba,bW]
theorem adq:aD.tab 9=[.str]:=by kernel_rfl
theorem rS(l:List ByteArray):bW aD.tab (.sl 9) (bg l):=by
 show dI _ (aD.tab _) _
 rw [adq];exact BD af5 l
theorem Fy{α:Type}[bC α]{tab:Nat->List CT}{ts:List CT}(h: ∀row,ba tab ts row-> ∃x:α,row=bC.cells x): ∀{rows:List (List D)},dI tab ts rows-> ∃l:List α,rows=l.map bC.cells
 | [],_=>⟨[],rfl⟩
 | r::rows,hr=>by
  simp only [dI] at hr
  obtain ⟨x,rfl⟩:=h r hr.1
  obtain ⟨l,rfl⟩:=Fy h hr.2
  exact ⟨x::l,rfl⟩
theorem wM(a b:ByteArray):(a.toList==b.toList)=decide (a=b):=by
 rw [Bool.eq_iff_iff]
 simp only [beq_iff_eq,decide_eq_true_eq]
 refine ⟨fun h=> ?_,fun h=>by rw [h]⟩
 rw [ByteArray.toList_eq,ByteArray.toList_eq] at h
 cases a;cases b;simp_all [Array.toList_inj]
theorem fR(a b:ByteArray):fQ .eql a b=decide (a=b):=wM a b
theorem gG(a b:ByteArray):fQ .neq a b= !decide (a=b):=by rw [<-wM];rfl
def gx(a b:ByteArray):Bool:=Op.bytesLess a.toList b.toList
theorem V9(a b:ByteArray):fQ .lss a b=gx a b:=rfl
theorem V8(a b:ByteArray):fQ .geq a b= !gx a b:=rfl
theorem ak:(∀s:ByteArray,jd (.str s)=s.size)/\(∀(s:ByteArray) (k:Nat),((s[k]?).map fun (c:UInt8)=>(c.toNat:Int)).getD 0=sZ s k)/\(∀a b:ByteArray,fQ .eql a b=decide (a=b))/\(∀a b:ByteArray,fQ .neq a b= !decide (a=b))/\(∀a b:ByteArray,fQ .lss a b=gx a b)/\(∀a b:ByteArray,fQ .geq a b= !gx a b):=⟨fJ,JU,fR,gG,V9,V8⟩
structure fZ where
 name:ByteArray
 count:Int
 deriving DecidableEq,Inhabited
instance :bC fZ:={cells:=fun v=>[.str v.name,.int .i64 v.count]}
theorem jC(v:fZ):bC.cells v=[.str v.name,.int .i64 v.count]:=rfl
theorem oB(l:List fZ)(k:Nat):D.agg (((l.map bC.cells)[k]?).getD [jy (CT.str),jy (CT.int .i64)])=enc (nth l k):=Ei l k rfl
theorem WT(v u:fZ):v=u↔v.name=u.name/\v.count=u.count:=⟨fun h=>by subst h;simp,fun h=>by cases v;cases u;simp_all⟩
theorem EA(v:fZ):ba aD.tab [.str,.int .i64] (bC.cells v):=⟨trivial,rfl,trivial⟩
theorem IY:aD.tab 86=[.str,.int .i64]:=by kernel_rfl
theorem EB(l:List fZ):bW aD.tab (.sl 86) (bg l):=by
 show dI _ (aD.tab _) _
 rw [IY];exact BD EA l
theorem I6(v:fZ):ba aD.tab [.str,.int .i64] (bC.cells v):=⟨trivial,rfl,trivial⟩
theorem Qw:aD.tab 83=[.str,.int .i64]:=by kernel_rfl
theorem I7(l:List fZ):bW aD.tab (.sl 83) (bg l):=by
 show dI _ (aD.tab _) _
 rw [Qw];exact BD I6 l
theorem Wp(row:List D)(h:ba aD.tab [.str,.int .i64] row): ∃x:fZ,row=bC.cells x:=by
 match row,h with
 | [a0,a1],h =>
  obtain ⟨b0,rfl⟩:=mB (h.1)
  obtain ⟨b1,rfl⟩:=nX (h.2.1)
  exact ⟨⟨b0,b1⟩,rfl⟩
theorem Wk{d:D}(h:bW aD.tab (.sl 83) d): ∃l:List fZ,d=bg l:=by
 obtain ⟨rows,rfl,hr⟩:=nY h
 rw [Qw] at hr
 obtain ⟨l,rfl⟩:=Fy Wp hr
 exact ⟨l,rfl⟩
structure Cell where
 key:ByteArray
 val:Int
 deriving DecidableEq,Inhabited
instance :bC Cell:={cells:=fun v=>[.str v.key,.int .i64 v.val]}
theorem dR(v:Cell):bC.cells v=[.str v.key,.int .i64 v.val]:=rfl
theorem gC(l:List Cell)(k:Nat):D.agg (((l.map bC.cells)[k]?).getD [jy (CT.str),jy (CT.int .i64)])=enc (nth l k):=Ei l k rfl
theorem WQ(v u:Cell):v=u↔v.key=u.key/\v.val=u.val:=⟨fun h=>by subst h;simp,fun h=>by cases v;cases u;simp_all⟩
theorem Ez(v:Cell):ba aD.tab [.str,.int .i64] (bC.cells v):=⟨trivial,rfl,trivial⟩
theorem IX:aD.tab 118=[.str,.int .i64]:=by kernel_rfl
theorem nK(l:List Cell):bW aD.tab (.sl 118) (bg l):=by
 show dI _ (aD.tab _) _
 rw [IX];exact BD Ez l
theorem I5(v:Cell):ba aD.tab [.str,.int .i64] (bC.cells v):=⟨trivial,rfl,trivial⟩
theorem Qv:aD.tab 110=[.str,.int .i64]:=by kernel_rfl
theorem EC(l:List Cell):bW aD.tab (.sl 110) (bg l):=by
 show dI _ (aD.tab _) _
 rw [Qv];exact BD I5 l
theorem Wo(row:List D)(h:ba aD.tab [.str,.int .i64] row): ∃x:Cell,row=bC.cells x:=by
 match row,h with
 | [a0,a1],h =>
  obtain ⟨b0,rfl⟩:=mB (h.1)
  obtain ⟨b1,rfl⟩:=nX (h.2.1)
  exact ⟨⟨b0,b1⟩,rfl⟩
theorem Wj{d:D}(h:bW aD.tab (.sl 110) d): ∃l:List Cell,d=bg l:=by
 obtain ⟨rows,rfl,hr⟩:=nY h
 rw [Qv] at hr
 obtain ⟨l,rfl⟩:=Fy Wo hr
 exact ⟨l,rfl⟩
structure Core where
 kind:ByteArray
 on:Bool
 broken:Bool
 cells:List Cell
 count:Int
 deriving DecidableEq,Inhabited
instance :bC Core:={cells:=fun v=>[.str v.kind,.bool v.on,.bool v.broken,bg v.cells,.int .i64 v.count]}
theorem bR(v:Core):bC.cells v=[.str v.kind,.bool v.on,.bool v.broken,bg v.cells,.int .i64 v.count]:=rfl
theorem WR(v u:Core):v=u↔v.kind=u.kind/\v.on=u.on/\v.broken=u.broken/\v.cells=u.cells/\v.count=u.count:=⟨fun h=>by subst h;simp,fun h=>by cases v;cases u;simp_all⟩
theorem j9(v:Core):ba aD.tab [.str,.bool,.bool,.sl 118,.int .i64] (bC.cells v):=⟨trivial,trivial,trivial,nK _,rfl,trivial⟩
theorem QI(v:Core):ba aD.tab [.str,.bool,.bool,.sl 110,.int .i64] (bC.cells v):=⟨trivial,trivial,trivial,EC _,rfl,trivial⟩
structure Call where
 method:ByteArray
 key:ByteArray
 val:Int
 text:ByteArray
 deriving DecidableEq,Inhabited
instance :bC Call:={cells:=fun v=>[.str v.method,.str v.key,.int .i64 v.val,.str v.text]}
theorem cF(v:Call):bC.cells v=[.str v.method,.str v.key,.int .i64 v.val,.str v.text]:=rfl
theorem BS(v:Call):ba aD.tab [.str,.str,.int .i64,.str] (bC.cells v):=⟨trivial,trivial,rfl,trivial,trivial⟩
theorem QH(v:Call):ba aD.tab [.str,.str,.int .i64,.str] (bC.cells v):=⟨trivial,trivial,rfl,trivial,trivial⟩
theorem Wn(row:List D)(h:ba aD.tab [.str,.str,.int .i64,.str] row): ∃x:Call,row=bC.cells x:=by
 match row,h with
 | [a0,a1,a2,a3],h =>
  obtain ⟨b0,rfl⟩:=mB (h.1)
  obtain ⟨b1,rfl⟩:=mB (h.2.1)
  obtain ⟨b2,rfl⟩:=nX (h.2.2.1)
  obtain ⟨b3,rfl⟩:=mB (h.2.2.2.1)
  exact ⟨⟨b0,b1,b2,b3⟩,rfl⟩
theorem Wl{d:D}(h:bX aD.tab (.one (.agg [.str,.str,.int .i64,.str])) d): ∃x:Call,d=enc x:=by
 obtain ⟨l,rfl,hl⟩:=gX h
 obtain ⟨x,rfl⟩:=Wn l hl
 exact ⟨x,rfl⟩
structure dW where
 code:Int
 val:Int
 text:ByteArray
 want:Int
 had:Int
 deriving DecidableEq,Inhabited
instance :bC dW:={cells:=fun v=>[.int .i64 v.code,.int .i64 v.val,.str v.text,.int .i64 v.want,.int .i64 v.had]}
theorem pU(v:dW):bC.cells v=[.int .i64 v.code,.int .i64 v.val,.str v.text,.int .i64 v.want,.int .i64 v.had]:=rfl
theorem WV(v u:dW):v=u↔v.code=u.code/\v.val=u.val/\v.text=u.text/\v.want=u.want/\v.had=u.had:=⟨fun h=>by subst h;simp,fun h=>by cases v;cases u;simp_all⟩
theorem zk(v:dW):ba aD.tab [.int .i64,.int .i64,.str,.int .i64,.int .i64] (bC.cells v):=⟨rfl,rfl,trivial,rfl,rfl,trivial⟩
structure Part where
 core:Core
 af:List fZ
 deriving DecidableEq,Inhabited
instance :bC Part:={cells:=fun v=>[.str v.core.kind,.bool v.core.on,.bool v.core.broken,bg v.core.cells,.int .i64 v.core.count,bg v.af]}
theorem dS(v:Part):bC.cells v=[.str v.core.kind,.bool v.core.on,.bool v.core.broken,bg v.core.cells,.int .i64 v.core.count,bg v.af]:=rfl
theorem WU(v u:Part):v=u↔v.core=u.core/\v.af=u.af:=⟨fun h=>by subst h;simp,fun h=>by cases v;cases u;simp_all⟩
theorem qt(v:Part):ba aD.tab [.str,.bool,.bool,.sl 118,.int .i64,.sl 86] (bC.cells v):=⟨trivial,trivial,trivial,nK _,rfl,EB _,trivial⟩
theorem QJ(v:Part):ba aD.tab [.str,.bool,.bool,.sl 110,.int .i64,.sl 83] (bC.cells v):=⟨trivial,trivial,trivial,EC _,rfl,I7 _,trivial⟩
theorem Wq(row:List D)(h:ba aD.tab [.str,.bool,.bool,.sl 110,.int .i64,.sl 83] row): ∃x:Part,row=bC.cells x:=by
 match row,h with
 | [a0,a1,a2,a3,a4,a5],h =>
  obtain ⟨b0,rfl⟩:=mB (h.1)
  obtain ⟨b1,rfl⟩:=nk (h.2.1)
  obtain ⟨b2,rfl⟩:=nk (h.2.2.1)
  obtain ⟨b3,rfl⟩:=Wj (h.2.2.2.1)
  obtain ⟨b4,rfl⟩:=nX (h.2.2.2.2.1)
  obtain ⟨b5,rfl⟩:=Wk (h.2.2.2.2.2.1)
  exact ⟨⟨⟨b0,b1,b2,b3,b4⟩,b5⟩,rfl⟩
theorem Wm{d:D}(h:bX aD.tab (.one (.agg [.str,.bool,.bool,.sl 110,.int .i64,.sl 83])) d): ∃x:Part,d=enc x:=by
 obtain ⟨l,rfl,hl⟩:=gX h
 obtain ⟨x,rfl⟩:=Wq l hl
 exact ⟨x,rfl⟩
theorem yY{α:Type}[Inhabited α]{l:List α}{k:Nat}(h:k<l.length):nth l k∈l:=by
 simp [nth,List.getD,List.getElem?_eq_getElem h]
theorem LJ{α:Type}[Inhabited α]{l l':List α}(hl:l.length=l'.length)(h: ∀i,i<l.length->nth l i=nth l' i):l=l':=by
 refine List.ext_getElem hl fun i h1 h2=> ?_
 have:=h i h1
 simpa [nth,List.getD,List.getElem?_eq_getElem h1,List.getElem?_eq_getElem h2] using this
def iX(p:Nat->Bool):Nat->Bool
 | 0=>true
 | n+1=>iX p n&&p n
theorem uJ{p:Nat->Bool}: ∀{n:Nat},iX p n=true↔ ∀i,i<n->p i=true
 | 0=>by simp [iX]
 | n+1=>by
  simp only [iX,Bool.and_eq_true,uJ]
  exact ⟨fun ⟨h1,h2⟩ i hi=>by
   by_cases e:i=n
   ·subst e;exact h2
   ·exact h1 i (by omega),fun h=>⟨fun i hi=>h i (by omega),h n (by omega)⟩⟩
theorem uI{p:Nat->Bool}{n k:Nat}(hk:k<n)(h:p k=false):iX p n=false:=by
 rcases hb:iX p n with _|_
 ·rfl
 ·have:=uJ.1 hb k hk;rw [h] at this;cases this
end
section
open Go.RowKit
variable [GC]
def own(M:Addr->Prop)(g:Nat):Addr->Prop:=fun p=>M p\/p.block=g
section
variable {w w1:World}{M:Addr->Prop}{g:Nat}{T:TypeId}{len n k:Nat}{rows:List (List D)}
end
end
end Go.Proofs.YtimickglpboilaaGreatDoor
