/- Conditions of functions of this seat's program. Written by fun.py. -/
import Derived.Test.YtimickglpboilaaGreatDoorG9
import Derived.Test.YtimickglpboilaaGreatDoorG0
set_option linter.unusedVariables false
set_option linter.unusedSimpArgs false
set_option linter.unusedSectionVars false
set_option maxRecDepth 100000
namespace Go.Proofs.YtimickglpboilaaGreatDoor
section
open Go
set_option maxRecDepth 1000000
def aeN:List VT:=[(.one (.agg [.str,.bool,.bool,(.sl 110),(.int .i64),(.sl 83)])),(.one (.c (.sl 29)))]
def RU:VC:=(.ret (.var 0) [])
theorem ahT:bq Tryz.prog ay ba 9 none=RU:=by kernel_rfl
def afB:List VT:=[(.one qD)]
theorem afE:bp Tryz.prog ay 9 none=afB:=by kernel_rfl
def RI:VC:=(.rq (.call [] 46 none [(.sub (.var 0) 0 5),(.var 1)] bg []) (.ite (.ic .lss (.var 2) (.li .i64 0)) (.ret (.li .i64 (-1)) []) (.rq (.call [] 47 none [(.cell (.var 0) 5),(.var 2)] bg []) (.ite (.ic .lss (.var 3) (.li .i64 0)) (.ret (.li .i64 (-1)) []) (.ret (.var 3) [])))))
theorem ahH:bq Tryz.prog ay ba 14 none=RI:=by kernel_rfl
def afe:List VT:=[(.one (.agg [.str,.bool,.bool,(.sl 118),(.int .i64),(.sl 86)])),bg]
theorem aff:bp Tryz.prog ay 14 none=afe:=by kernel_rfl
def Q1:VC:=(.rq (.gA 35 none [(.var 0)] (.one (.agg [.str,.bool,.bool,(.sl 118),(.int .i64),(.sl 86)])) [] [(3,2),(5,2)]) (.loop [(.one (.c (.sl 39))),bg,dR,dq,dq,(.one (.c (.sl 118))),bg,(.one (.c (.sl 86)))] [(.bw 39),(.li .i64 0),(.cell (.var 2) 0),(.cell (.var 2) 1),(.cell (.var 2) 2),(.cell (.var 2) 3),(.cell (.var 2) 4),(.cell (.var 2) 5)] (.ite (.ic .lss (.var 4) (.len (.var 1))) (.rq (.cond [] (.bP (.var 1) (.var 4))) (.rq (.gA 10 none [(.cat (.ah (.var 5)) (.cat (.ah (.var 6)) (.cat (.ah (.var 7)) (.cat (.ah (.var 8)) (.cat (.ah (.var 9)) (.cat (.ah (.var 10)) .cB)))))),(.row [.str,.str,(.int .i64),.str] (.var 1) (.var 4))] (.aC [(.agg [.str,.bool,.bool,(.sl 118),(.int .i64),(.sl 86)]),uz]) [] [(3,2),(5,2)]) (.rq (.cond [] (.few (.var 3) (.put (.bw 39) (.proj (.var 11) 1)))) (.ite (.ic .eql (.cell (.proj (.var 11) 1) 0) (.li .i64 1)) (.ret (.aI (.aI .bH (.proj (.var 11) 0)) (.app (.var 3) (.put (.bw 39) (.proj (.var 11) 1)))) []) (.again 0 [(.app (.var 3) (.put (.bw 39) (.proj (.var 11) 1))),(.ar .add .i64 (.var 4) (.li .i64 1)),(.cell (.proj (.var 11) 0) 0),(.cell (.proj (.var 11) 0) 1),(.cell (.proj (.var 11) 0) 2),(.cell (.proj (.var 11) 0) 3),(.cell (.proj (.var 11) 0) 4),(.cell (.proj (.var 11) 0) 5)]))))) (.ret (.aI (.aI .bH (.cat (.ah (.var 5)) (.cat (.ah (.var 6)) (.cat (.ah (.var 7)) (.cat (.ah (.var 8)) (.cat (.ah (.var 9)) (.cat (.ah (.var 10)) .cB))))))) (.var 3)) []))))
theorem ag8:bq Tryz.prog ay ba 18 none=Q1:=by kernel_rfl
def aea:List VT:=[(.one (.agg [.str,.bool,.bool,(.sl 118),(.int .i64),(.sl 86)])),(.one (.c (.sl 43)))]
theorem aeb:bp Tryz.prog ay 18 none=aea:=by kernel_rfl
theorem acq:ba.get 18=[(3,2),(5,2),(6,5)]:=by kernel_rfl
def RQ:VC:=(.ite (.ic .lss (.ar .sub .i64 (.var 1) (.len (.cell (.var 0) 0))) (.li .i64 0)) (.ret (.li .i64 (-1)) []) (.rq (.call [] 50 none [(.cell (.var 0) 3),(.ar .sub .i64 (.var 1) (.len (.cell (.var 0) 0)))] bg []) (.ite (.ic .lss (.var 2) (.li .i64 0)) (.ret (.li .i64 (-1)) []) (.ret (.var 2) []))))
theorem ahO:bq Tryz.prog ay ba 24 none=RQ:=by kernel_rfl
def afs:List VT:=[(.one (.agg [.str,.bool,.bool,(.sl 110),(.int .i64)])),bg]
theorem aft:bp Tryz.prog ay 24 none=afs:=by kernel_rfl
def Sh:VC:=(.rq (.call [] 31 none [(.cell (.var 0) 0)] bg []) (.rq (.call [((.ic .eql (.var 1) (.li .i64 0)),false),((.or (.sc .eql (.cell (.var 0) 0) (.ls ⟨#[71,101,116]⟩)) (.sc .eql (.cell (.var 0) 0) (.ls ⟨#[80,117,116]⟩))),true)] 56 none [(.cell (.var 0) 1)] dq []) (.ite (.or (.or (.or (.ic .eql (.var 1) (.li .i64 0)) (.an (.or (.sc .eql (.cell (.var 0) 0) (.ls ⟨#[71,101,116]⟩)) (.sc .eql (.cell (.var 0) 0) (.ls ⟨#[80,117,116]⟩))) (.no (.var 2)))) (.an (.no (.or (.sc .eql (.cell (.var 0) 0) (.ls ⟨#[71,101,116]⟩)) (.sc .eql (.cell (.var 0) 0) (.ls ⟨#[80,117,116]⟩)))) (.sc .neq (.cell (.var 0) 1) (.ls ⟨#[]⟩)))) (.an (.sc .neq (.cell (.var 0) 3) (.ls ⟨#[]⟩)) (.sc .neq (.cell (.var 0) 0) (.ls ⟨#[76,111,97,100]⟩)))) (.ret (.lb false) []) (.ret (.or (.ic .eql (.cell (.var 0) 2) (.li .i64 0)) (.an (.an (.or (.sc .eql (.cell (.var 0) 0) (.ls ⟨#[80,117,116]⟩)) (.sc .eql (.cell (.var 0) 0) (.ls ⟨#[72,101,97,114]⟩))) (.ic .gtr (.cell (.var 0) 2) (.li .i64 0))) (.ic .leq (.cell (.var 0) 2) (.li .i64 999)))) []))))
theorem ah5:bq Tryz.prog ay ba 28 none=Sh:=by kernel_rfl
def af1:List VT:=[(.one qD)]
theorem af2:bp Tryz.prog ay 28 none=af1:=by kernel_rfl
def Rc:VC:=(.rq (.call [] 65 none [(.sub (.var 0) 0 5)] dq []) (.ite (.or (.no (.var 1)) (.ic .gtr (.len (.cell (.var 0) 5)) (.li .i64 3))) (.ret (.lb false) []) (.loop [bg] [(.li .i64 0)] (.ite (.ic .lss (.var 2) (.len (.cell (.var 0) 5))) (.rq (.cond [] (.bP (.cell (.var 0) 5) (.var 2))) (.rq (.call [] 66 none [(.cell (.row [.str,(.int .i64)] (.cell (.var 0) 5) (.var 2)) 0)] (.aC [(.c (.int .i64)),(.c (.int .i64)),(.c .bool)]) []) (.rq (.call [((.no (.proj (.var 3) 2)),false)] 67 none [(.var 0),(.var 2)] bg []) (.rq (.call [((.no (.proj (.var 3) 2)),false)] 40 none [(.var 4),(.proj (.var 3) 0)] dq []) (.rq (.call [((.or (.no (.proj (.var 3) 2)) (.no (.var 5))),false)] 68 none [(.cell (.row [.str,(.int .i64)] (.cell (.var 0) 5) (.var 2)) 1)] dq []) (.ite (.or (.or (.or (.no (.proj (.var 3) 2)) (.no (.var 5))) (.no (.var 6))) (.an (.an (.ic .neq (.cell (.row [.str,(.int .i64)] (.cell (.var 0) 5) (.var 2)) 1) (.li .i64 0)) (.sc .neq (.cell (.row [.str,(.int .i64)] (.cell (.var 0) 5) (.var 2)) 0) (.ls ⟨#[99,111,117,110,116,115]⟩))) (.sc .neq (.cell (.row [.str,(.int .i64)] (.cell (.var 0) 5) (.var 2)) 0) (.ls ⟨#[104,101,97,114,115]⟩)))) (.ret (.lb false) []) (.again 0 [(.ar .add .i64 (.var 2) (.li .i64 1))]))))))) (.ret (.lb true) [])))))
theorem ahh:bq Tryz.prog ay ba 36 none=Rc:=by kernel_rfl
def aeq:List VT:=[(.one (.agg [.str,.bool,.bool,(.sl 118),(.int .i64),(.sl 86)]))]
theorem aer:bp Tryz.prog ay 36 none=aeq:=by kernel_rfl
def Rg:VC:=(.rq (.call [] 71 none [(.var 0)] dq []) (.rq (.call [((.var 2),true)] 71 none [(.var 1)] dq []) (.ret (.an (.an (.var 2) (.var 3)) (.ic .eql (.ar .andNot .i64 (.var 1) (.var 0)) (.li .i64 0))) [])))
theorem ahk:bq Tryz.prog ay ba 40 none=Rg:=by kernel_rfl
def QL:List VT:=[bg,bg]
theorem aew:bp Tryz.prog ay 40 none=QL:=by kernel_rfl
def RG:VC:=(.rq (.call [] 78 none [(.cell (.var 0) 3),(.var 1)] bg []) (.ite (.ic .lss (.var 2) (.li .i64 0)) (.ret (.li .i64 (-1)) []) (.ret (.var 2) [])))
theorem ahF:bq Tryz.prog ay ba 46 none=RG:=by kernel_rfl
def afa:List VT:=[(.one (.agg [.str,.bool,.bool,(.sl 118),(.int .i64)])),bg]
theorem afb:bp Tryz.prog ay 46 none=afa:=by kernel_rfl
def RP:VC:=(.ite (.ic .lss (.ar .sub .i64 (.var 1) (.len (.var 0))) (.li .i64 0)) (.ret (.li .i64 (-1)) []) (.loop [bg,bg] [(.ar .sub .i64 (.var 1) (.len (.var 0))),(.li .i64 0)] (.ite (.ic .lss (.var 3) (.len (.var 0))) (.rq (.cond [] (.bP (.var 0) (.var 3))) (.rq (.call [] 79 none [(.row [.str,(.int .i64)] (.var 0) (.var 3)),(.var 2)] bg []) (.ite (.ic .lss (.var 4) (.li .i64 0)) (.ret (.li .i64 (-1)) []) (.again 0 [(.var 4),(.ar .add .i64 (.var 3) (.li .i64 1))])))) (.ret (.var 2) []))))
theorem ahM:bq Tryz.prog ay ba 50 none=RP:=by kernel_rfl
def afp:List VT:=[(.one (.c (.sl 110))),bg]
theorem afq:bp Tryz.prog ay 50 none=afp:=by kernel_rfl
def Sq:VC:=(.rq (.call [] 82 none [(.var 0)] (.aC [(.c (.int .i64)),(.c (.int .i64)),(.c .bool)]) []) (.ret (.aI (.aI .bH (.proj (.var 1) 0)) (.proj (.var 1) 2)) []))
theorem aie:bq Tryz.prog ay ba 54 none=Sq:=by kernel_rfl
def agh:List VT:=[dR]
theorem agi:bp Tryz.prog ay 54 none=agh:=by kernel_rfl
def SA:VC:=(.rq (.cond [] (.ic .geq (.var 1) (.li .i64 0))) (.rq (.cond [] (.ic .neq (.li .i64 2) (.li .i64 0))) (.ret (.ic .eql (.ar .rem .i64 (.ar .shr .i64 (.var 0) (.var 1)) (.li .i64 2)) (.li .i64 1)) [])))
theorem aio:bq Tryz.prog ay ba 58 none=SA:=by kernel_rfl
def QV:List VT:=[bg,bg]
theorem agz:bp Tryz.prog ay 58 none=QV:=by kernel_rfl
def RZ:VC:=(.ret (.var 0) [])
theorem ahY:bq Tryz.prog ay ba 63 none=RZ:=by kernel_rfl
def afL:List VT:=[(.one (.agg [.str,(.int .i64)]))]
theorem afO:bp Tryz.prog ay 63 none=afL:=by kernel_rfl
def Rn:VC:=(.ite (.ic .eql (.var 1) (.li .i64 0)) (.rq (.call [] 90 none [(.cell (.var 0) 0)] (.aC [(.c (.int .i64)),(.c .bool)]) []) (.ret (.proj (.var 2) 0) [])) (.rq (.cond [] (.bP (.cell (.var 0) 5) (.ar .sub .i64 (.var 1) (.li .i64 1)))) (.rq (.call [] 66 none [(.cell (.row [.str,(.int .i64)] (.cell (.var 0) 5) (.ar .sub .i64 (.var 1) (.li .i64 1))) 0)] (.aC [(.c (.int .i64)),(.c (.int .i64)),(.c .bool)]) []) (.ret (.proj (.var 2) 1) []))))
theorem ahp:bq Tryz.prog ay ba 67 none=Rn:=by kernel_rfl
def aeF:List VT:=[(.one (.agg [.str,.bool,.bool,(.sl 118),(.int .i64),(.sl 86)])),bg]
theorem aeG:bp Tryz.prog ay 67 none=aeF:=by kernel_rfl
def Ra:VC:=(.ret (.an (.ic .geq (.var 0) (.li .i64 0)) (.ic .leq (.var 0) (.li .i64 63))) [])
theorem ahf:bq Tryz.prog ay ba 71 none=Ra:=by kernel_rfl
def QK:List VT:=[bg]
theorem aen:bp Tryz.prog ay 71 none=QK:=by kernel_rfl
def RF:VC:=(.loop [bg,bg] [(.var 1),(.li .i64 0)] (.ite (.ic .lss (.var 3) (.len (.var 0))) (.rq (.cond [] (.bP (.var 0) (.var 3))) (.rq (.call [] 49 none [(.var 2)] dR []) (.ite (.sc .neq (.cell (.row [.str,(.int .i64)] (.var 0) (.var 3)) 0) (.var 4)) (.ret (.li .i64 (-1)) []) (.rq (.cond [] (.bP (.var 0) (.var 3))) (.ite (.ic .neq (.cell (.row [.str,(.int .i64)] (.var 0) (.var 3)) 1) (.ar .add .i64 (.var 2) (.li .i64 1))) (.ret (.li .i64 (-1)) []) (.again 0 [(.ar .add .i64 (.ar .add .i64 (.var 2) (.li .i64 1)) (.li .i64 1)),(.ar .add .i64 (.var 3) (.li .i64 1))])))))) (.ret (.var 2) [])))
theorem ahE:bq Tryz.prog ay ba 78 none=RF:=by kernel_rfl
def ae8:List VT:=[(.one (.c (.sl 118))),bg]
theorem ae9:bp Tryz.prog ay 78 none=ae8:=by kernel_rfl
def aiz:VC:=(.loop [bg] [(.li .i64 0)] (.ite (.ic .lss (.var 1) (.len (.put (.put (.put (.put (.put (.put (.put (.put (.put (.bw 9) (.ah (.ls ⟨#[112,108,97,105,110]⟩))) (.ah (.ls ⟨#[114,117,110,115]⟩))) (.ah (.ls ⟨#[107,101,101,112,115]⟩))) (.ah (.ls ⟨#[99,111,117,110,116,115]⟩))) (.ah (.ls ⟨#[108,97,122,121]⟩))) (.ah (.ls ⟨#[114,101,97,100,115]⟩))) (.ah (.ls ⟨#[104,101,97,114,115]⟩))) (.ah (.ls ⟨#[104,101,97,108,115]⟩))) (.ah (.ls ⟨#[116,119,105,99,101]⟩))))) (.rq (.cond [] (.bP (.put (.put (.put (.put (.put (.put (.put (.put (.put (.bw 9) (.ah (.ls ⟨#[112,108,97,105,110]⟩))) (.ah (.ls ⟨#[114,117,110,115]⟩))) (.ah (.ls ⟨#[107,101,101,112,115]⟩))) (.ah (.ls ⟨#[99,111,117,110,116,115]⟩))) (.ah (.ls ⟨#[108,97,122,121]⟩))) (.ah (.ls ⟨#[114,101,97,100,115]⟩))) (.ah (.ls ⟨#[104,101,97,114,115]⟩))) (.ah (.ls ⟨#[104,101,97,108,115]⟩))) (.ah (.ls ⟨#[116,119,105,99,101]⟩))) (.var 1))) (.ite (.sc .eql (.cell (.row [.str] (.put (.put (.put (.put (.put (.put (.put (.put (.put (.bw 9) (.ah (.ls ⟨#[112,108,97,105,110]⟩))) (.ah (.ls ⟨#[114,117,110,115]⟩))) (.ah (.ls ⟨#[107,101,101,112,115]⟩))) (.ah (.ls ⟨#[99,111,117,110,116,115]⟩))) (.ah (.ls ⟨#[108,97,122,121]⟩))) (.ah (.ls ⟨#[114,101,97,100,115]⟩))) (.ah (.ls ⟨#[104,101,97,114,115]⟩))) (.ah (.ls ⟨#[104,101,97,108,115]⟩))) (.ah (.ls ⟨#[116,119,105,99,101]⟩))) (.var 1)) 0) (.var 0)) (.rq (.cond [] (.bP (.put (.put (.put (.put (.put (.put (.put (.put (.put (.bw 3) (.ah (.li .i64 0))) (.ah (.li .i64 1))) (.ah (.li .i64 2))) (.ah (.li .i64 2))) (.ah (.li .i64 3))) (.ah (.li .i64 2))) (.ah (.li .i64 1))) (.ah (.li .i64 1))) (.ah (.li .i64 4))) (.var 1))) (.rq (.cond [] (.bP (.put (.put (.put (.put (.put (.put (.put (.put (.put (.bw 3) (.ah (.li .i64 0))) (.ah (.li .i64 1))) (.ah (.li .i64 2))) (.ah (.li .i64 6))) (.ah (.li .i64 3))) (.ah (.li .i64 2))) (.ah (.li .i64 9))) (.ah (.li .i64 33))) (.ah (.li .i64 4))) (.var 1))) (.ret (.aI (.aI (.aI .bH (.cell (.row [(.int .i64)] (.put (.put (.put (.put (.put (.put (.put (.put (.put (.bw 3) (.ah (.li .i64 0))) (.ah (.li .i64 1))) (.ah (.li .i64 2))) (.ah (.li .i64 2))) (.ah (.li .i64 3))) (.ah (.li .i64 2))) (.ah (.li .i64 1))) (.ah (.li .i64 1))) (.ah (.li .i64 4))) (.var 1)) 0)) (.cell (.row [(.int .i64)] (.put (.put (.put (.put (.put (.put (.put (.put (.put (.bw 3) (.ah (.li .i64 0))) (.ah (.li .i64 1))) (.ah (.li .i64 2))) (.ah (.li .i64 6))) (.ah (.li .i64 3))) (.ah (.li .i64 2))) (.ah (.li .i64 9))) (.ah (.li .i64 33))) (.ah (.li .i64 4))) (.var 1)) 0)) (.lb true)) []))) (.again 0 [(.ar .add .i64 (.var 1) (.li .i64 1))]))) (.ret (.aI (.aI (.aI .bH (.li .i64 0)) (.li .i64 0)) (.lb false)) [])))
theorem aiA:bq Tryz.prog ay ba 82 none=aiz:=by kernel_rfl
def agU:List VT:=[dR]
theorem agV:bp Tryz.prog ay 82 none=agU:=by kernel_rfl
def SF:VC:=(.ite (.an (.an (.cell (.var 0) 2) (.sc .neq (.cell (.var 1) 0) (.ls ⟨#[72,101,97,108]⟩))) (.sc .neq (.cell (.var 1) 0) (.ls ⟨#[84,101,108,108]⟩))) (.ret (.aI (.aI .bH (.var 0)) (.cat (.ah (.li .i64 3)) (.cat (.ah (.li .i64 0)) (.cat (.ah (.ls ⟨#[]⟩)) (.cat (.ah (.li .i64 0)) (.cat (.ah (.li .i64 0)) .cB)))))) []) (.ite (.sc .eql (.cell (.var 1) 0) (.ls ⟨#[71,101,116]⟩)) (.ite (.sc .eql (.cell (.var 1) 0) (.ls ⟨#[71,101,116]⟩)) (.rq (.call [] 98 none [(.var 0),(.var 1),(.var 2)] (.aC [(.agg [.str,.bool,.bool,(.sl 118),(.int .i64)]),uz]) []) (.ret (.aI (.aI .bH (.proj (.var 3) 0)) (.proj (.var 3) 1)) [])) (.ite (.sc .eql (.cell (.var 1) 0) (.ls ⟨#[84,101,108,108]⟩)) (.ret (.aI (.aI .bH (.var 0)) (.cat (.ah (.li .i64 0)) (.cat (.ah (.cell (.var 0) 4)) (.cat (.ah (.ls ⟨#[]⟩)) (.cat (.ah (.li .i64 0)) (.cat (.ah (.li .i64 0)) .cB)))))) []) (.ite (.sc .eql (.cell (.var 1) 0) (.ls ⟨#[72,101,97,114]⟩)) (.rq (.call [] 87 none [(.cell (.var 0) 4)] bg []) (.ret (.aI (.aI .bH (.cat (.ah (.cell (.var 0) 0)) (.cat (.ah (.or (.ic .eql (.cell (.var 1) 2) (.li .i64 1)) (.an (.cell (.var 0) 1) (.ic .neq (.cell (.var 1) 2) (.li .i64 0))))) (.cat (.ah (.cell (.var 0) 2)) (.cat (.ah (.cell (.var 0) 3)) (.cat (.ah (.var 3)) .cB)))))) (.cat (.ah (.li .i64 0)) (.cat (.ah (.var 3)) (.cat (.ah (.ls ⟨#[]⟩)) (.cat (.ah (.li .i64 0)) (.cat (.ah (.li .i64 0)) .cB)))))) [])) (.ite (.sc .eql (.cell (.var 1) 0) (.ls ⟨#[83,97,118,101]⟩)) (.rq (.call [] 99 none [(.cell (.var 0) 3)] dR []) (.ret (.aI (.aI .bH (.var 0)) (.cat (.ah (.li .i64 0)) (.cat (.ah (.li .i64 0)) (.cat (.ah (.var 3)) (.cat (.ah (.li .i64 0)) (.cat (.ah (.li .i64 0)) .cB)))))) [])) (.ite (.sc .eql (.cell (.var 1) 0) (.ls ⟨#[76,111,97,100]⟩)) (.rq (.gA 100 none [(.cell (.var 1) 3)] (.aC [(.c (.sl 118)),(.c .bool)]) [] [(0,2)]) (.ite (.no (.proj (.var 3) 1)) (.ret (.aI (.aI .bH (.var 0)) (.cat (.ah (.li .i64 6)) (.cat (.ah (.li .i64 0)) (.cat (.ah (.ls ⟨#[]⟩)) (.cat (.ah (.li .i64 0)) (.cat (.ah (.li .i64 0)) .cB)))))) []) (.ret (.aI (.aI .bH (.cat (.ah (.cell (.var 0) 0)) (.cat (.ah (.cell (.var 0) 1)) (.cat (.ah (.cell (.var 0) 2)) (.cat (.ah (.proj (.var 3) 0)) (.cat (.ah (.cell (.var 0) 4)) .cB)))))) (.cat (.ah (.li .i64 0)) (.cat (.ah (.len (.proj (.var 3) 0))) (.cat (.ah (.ls ⟨#[]⟩)) (.cat (.ah (.li .i64 0)) (.cat (.ah (.li .i64 0)) .cB)))))) []))) (.rq (.call [] 101 none [(.var 0),(.cell (.var 1) 0)] (.aC [(.agg [.str,.bool,.bool,(.sl 118),(.int .i64)]),uz]) []) (.ret (.aI (.aI .bH (.proj (.var 3) 0)) (.proj (.var 3) 1)) []))))))) (.ite (.sc .eql (.cell (.var 1) 0) (.ls ⟨#[80,117,116]⟩)) (.rq (.call [] 98 none [(.var 0),(.var 1),(.var 2)] (.aC [(.agg [.str,.bool,.bool,(.sl 118),(.int .i64)]),uz]) []) (.ret (.aI (.aI .bH (.proj (.var 3) 0)) (.proj (.var 3) 1)) [])) (.ite (.sc .eql (.cell (.var 1) 0) (.ls ⟨#[84,101,108,108]⟩)) (.ret (.aI (.aI .bH (.var 0)) (.cat (.ah (.li .i64 0)) (.cat (.ah (.cell (.var 0) 4)) (.cat (.ah (.ls ⟨#[]⟩)) (.cat (.ah (.li .i64 0)) (.cat (.ah (.li .i64 0)) .cB)))))) []) (.ite (.sc .eql (.cell (.var 1) 0) (.ls ⟨#[72,101,97,114]⟩)) (.rq (.call [] 87 none [(.cell (.var 0) 4)] bg []) (.ret (.aI (.aI .bH (.cat (.ah (.cell (.var 0) 0)) (.cat (.ah (.or (.ic .eql (.cell (.var 1) 2) (.li .i64 1)) (.an (.cell (.var 0) 1) (.ic .neq (.cell (.var 1) 2) (.li .i64 0))))) (.cat (.ah (.cell (.var 0) 2)) (.cat (.ah (.cell (.var 0) 3)) (.cat (.ah (.var 3)) .cB)))))) (.cat (.ah (.li .i64 0)) (.cat (.ah (.var 3)) (.cat (.ah (.ls ⟨#[]⟩)) (.cat (.ah (.li .i64 0)) (.cat (.ah (.li .i64 0)) .cB)))))) [])) (.ite (.sc .eql (.cell (.var 1) 0) (.ls ⟨#[83,97,118,101]⟩)) (.rq (.call [] 99 none [(.cell (.var 0) 3)] dR []) (.ret (.aI (.aI .bH (.var 0)) (.cat (.ah (.li .i64 0)) (.cat (.ah (.li .i64 0)) (.cat (.ah (.var 3)) (.cat (.ah (.li .i64 0)) (.cat (.ah (.li .i64 0)) .cB)))))) [])) (.ite (.sc .eql (.cell (.var 1) 0) (.ls ⟨#[76,111,97,100]⟩)) (.rq (.gA 100 none [(.cell (.var 1) 3)] (.aC [(.c (.sl 118)),(.c .bool)]) [] [(0,2)]) (.ite (.no (.proj (.var 3) 1)) (.ret (.aI (.aI .bH (.var 0)) (.cat (.ah (.li .i64 6)) (.cat (.ah (.li .i64 0)) (.cat (.ah (.ls ⟨#[]⟩)) (.cat (.ah (.li .i64 0)) (.cat (.ah (.li .i64 0)) .cB)))))) []) (.ret (.aI (.aI .bH (.cat (.ah (.cell (.var 0) 0)) (.cat (.ah (.cell (.var 0) 1)) (.cat (.ah (.cell (.var 0) 2)) (.cat (.ah (.proj (.var 3) 0)) (.cat (.ah (.cell (.var 0) 4)) .cB)))))) (.cat (.ah (.li .i64 0)) (.cat (.ah (.len (.proj (.var 3) 0))) (.cat (.ah (.ls ⟨#[]⟩)) (.cat (.ah (.li .i64 0)) (.cat (.ah (.li .i64 0)) .cB)))))) []))) (.rq (.call [] 101 none [(.var 0),(.cell (.var 1) 0)] (.aC [(.agg [.str,.bool,.bool,(.sl 118),(.int .i64)]),uz]) []) (.ret (.aI (.aI .bH (.proj (.var 3) 0)) (.proj (.var 3) 1)) [])))))))))
theorem ais:bq Tryz.prog ay ba 86 none=SF:=by kernel_rfl
def agG:List VT:=[(.one (.agg [.str,.bool,.bool,(.sl 118),(.int .i64)])),(.one qD),dq]
theorem agH:bp Tryz.prog ay 86 none=agG:=by kernel_rfl
def Rf:VC:=(.ite (.sc .eql (.var 0) (.ls ⟨#[115,116,111,110,101]⟩)) (.ret (.aI (.aI .bH (.li .i64 0)) (.lb true)) []) (.ite (.sc .eql (.var 0) (.ls ⟨#[108,97,109,112]⟩)) (.ret (.aI (.aI .bH (.li .i64 1)) (.lb true)) []) (.ite (.sc .eql (.var 0) (.ls ⟨#[115,104,101,108,102]⟩)) (.ret (.aI (.aI .bH (.li .i64 2)) (.lb true)) []) (.ite (.sc .eql (.var 0) (.ls ⟨#[109,101,116,101,114]⟩)) (.ret (.aI (.aI .bH (.li .i64 5)) (.lb true)) []) (.ite (.sc .eql (.var 0) (.ls ⟨#[100,114,97,119,101,114]⟩)) (.ret (.aI (.aI .bH (.li .i64 3)) (.lb true)) []) (.ite (.sc .eql (.var 0) (.ls ⟨#[104,111,114,110]⟩)) (.ret (.aI (.aI .bH (.li .i64 9)) (.lb true)) []) (.ite (.sc .eql (.var 0) (.ls ⟨#[118,97,117,108,116]⟩)) (.ret (.aI (.aI .bH (.li .i64 19)) (.lb true)) []) (.ite (.sc .eql (.var 0) (.ls ⟨#[114,111,98,111,116]⟩)) (.ret (.aI (.aI .bH (.li .i64 63)) (.lb true)) []) (.ret (.aI (.aI .bH (.li .i64 0)) (.lb false)) [])))))))))
theorem ahj:bq Tryz.prog ay ba 90 none=Rf:=by kernel_rfl
def aeu:List VT:=[dR]
theorem aev:bp Tryz.prog ay 90 none=aeu:=by kernel_rfl
def Rh:VC:=(.ite (.sc .eql (.var 0) (.ls ⟨#[45]⟩)) (.ret (.aI (.aI .bH (.bw 118)) (.lb true)) []) (.rq (.gA 104 none [(.var 0),(.ls ⟨#[44]⟩)] (.one (.c (.sl 9))) [] [(0,1)]) (.loop [(.one (.c (.sl 118))),bg] [(.bw 118),(.li .i64 0)] (.ite (.ic .lss (.var 3) (.len (.var 1))) (.rq (.cond [] (.bP (.var 1) (.var 3))) (.rq (.call [] 105 none [(.cell (.row [.str] (.var 1) (.var 3)) 0),(.ls ⟨#[61]⟩)] (.aC [(.c .str),(.c .str),(.c .bool)]) []) (.rq (.call [] 106 none [(.proj (.var 4) 1)] (.aC [(.c (.int .i64)),(.c .bool)]) []) (.ite (.or (.or (.no (.proj (.var 4) 2)) (.no (.proj (.var 5) 1))) (.ic .geq (.len (.var 2)) (.li .i64 4))) (.ret (.aI (.aI .bH (.bw 118)) (.lb false)) []) (.rq (.cond [] (.few (.var 2) (.put (.bw 118) (.cat (.ah (.proj (.var 4) 0)) (.cat (.ah (.proj (.var 5) 0)) .cB))))) (.again 0 [(.app (.var 2) (.put (.bw 118) (.cat (.ah (.proj (.var 4) 0)) (.cat (.ah (.proj (.var 5) 0)) .cB)))),(.ar .add .i64 (.var 3) (.li .i64 1))])))))) (.rq (.call [] 91 none [(.var 2)] dq []) (.ite (.no (.var 4)) (.ret (.aI (.aI .bH (.bw 118)) (.lb false)) []) (.ret (.aI (.aI .bH (.var 2)) (.lb true)) [])))))))
theorem ahl:bq Tryz.prog ay ba 96 none=Rh:=by kernel_rfl
def aex:List VT:=[dR]
theorem aey:bp Tryz.prog ay 96 none=aex:=by kernel_rfl
theorem acr:ba.get 96=[(0,2)]:=by kernel_rfl
def Ss:VC:=(.ite (.sc .eql (.var 0) (.ls ⟨#[45]⟩)) (.ret (.aI (.aI .bH (.bw 118)) (.lb true)) []) (.rq (.gA 111 none [(.var 0),(.ls ⟨#[44]⟩)] (.one (.c (.sl 9))) [] [(0,1)]) (.loop [(.one (.c (.sl 118))),bg] [(.bw 118),(.li .i64 0)] (.ite (.ic .lss (.var 3) (.len (.var 1))) (.rq (.cond [] (.bP (.var 1) (.var 3))) (.rq (.gA 111 none [(.cell (.row [.str] (.var 1) (.var 3)) 0),(.ls ⟨#[61]⟩)] (.one (.c (.sl 9))) [] [(0,1)]) (.ite (.ic .neq (.len (.var 4)) (.li .i64 2)) (.ret (.aI (.aI .bH (.bw 118)) (.lb false)) []) (.rq (.cond [] (.bP (.var 4) (.li .i64 1))) (.rq (.call [] 112 none [(.cell (.row [.str] (.var 4) (.li .i64 1)) 0)] (.aC [(.c (.int .i64)),(.c .bool)]) []) (.ite (.no (.proj (.var 5) 1)) (.ret (.aI (.aI .bH (.bw 118)) (.lb false)) []) (.rq (.cond [] (.bP (.var 4) (.li .i64 0))) (.rq (.cond [] (.few (.var 2) (.put (.bw 118) (.cat (.ah (.cell (.row [.str] (.var 4) (.li .i64 0)) 0)) (.cat (.ah (.proj (.var 5) 0)) .cB))))) (.again 0 [(.app (.var 2) (.put (.bw 118) (.cat (.ah (.cell (.row [.str] (.var 4) (.li .i64 0)) 0)) (.cat (.ah (.proj (.var 5) 0)) .cB)))),(.ar .add .i64 (.var 3) (.li .i64 1))]))))))))) (.rq (.call [] 81 none [(.var 2)] dq []) (.ite (.no (.var 4)) (.ret (.aI (.aI .bH (.bw 118)) (.lb false)) []) (.ret (.aI (.aI .bH (.var 2)) (.lb true)) [])))))))
theorem aih:bq Tryz.prog ay ba 100 none=Ss:=by kernel_rfl
def agl:List VT:=[dR]
theorem agm:bp Tryz.prog ay 100 none=agl:=by kernel_rfl
theorem acC:ba.get 100=[(0,2)]:=by kernel_rfl
def Sp:VC:=(.loop [dR,bg] [(.ls ⟨#[]⟩),(.li .i64 0)] (.ite (.ic .lss (.var 3) (.len (.var 0))) (.rq (.cond [] (.bP (.var 0) (.var 3))) (.ite (.ic .gtr (.var 3) (.li .i64 0)) (.rq (.cond [] (.kE (.var 2) (.var 1))) (.rq (.cond [] (.kE (.iG (.var 2) (.var 1)) (.cell (.row [.str] (.var 0) (.var 3)) 0))) (.again 0 [(.iG (.iG (.var 2) (.var 1)) (.cell (.row [.str] (.var 0) (.var 3)) 0)),(.ar .add .i64 (.var 3) (.li .i64 1))]))) (.rq (.cond [] (.kE (.var 2) (.cell (.row [.str] (.var 0) (.var 3)) 0))) (.again 0 [(.iG (.var 2) (.cell (.row [.str] (.var 0) (.var 3)) 0)),(.ar .add .i64 (.var 3) (.li .i64 1))])))) (.ret (.var 2) [])))
theorem aib:bq Tryz.prog ay ba 110 none=Sp:=by kernel_rfl
def agc:List VT:=[(.one (.c (.sl 9))),dR]
theorem agd:bp Tryz.prog ay 110 none=agc:=by kernel_rfl
end
section
open Go
set_option maxRecDepth 1000000
def RT:VC:=(.rq (.call [] 24 none [(.sub (.var 0) 0 5),(.var 1)] bg []) (.ite (.ic .lss (.var 2) (.li .i64 0)) (.ret (.li .i64 (-1)) []) (.rq (.call [] 25 none [(.cell (.var 0) 5),(.var 2)] bg []) (.ite (.ic .lss (.var 3) (.li .i64 0)) (.ret (.li .i64 (-1)) []) (.ret (.var 3) [])))))
theorem ahR:bq Tryz.prog ay ba 5 none=RT:=by kernel_rfl
def afy:List VT:=[(.one (.agg [.str,.bool,.bool,(.sl 110),(.int .i64),(.sl 83)])),bg]
theorem afA:bp Tryz.prog ay 5 none=afy:=by kernel_rfl
def RC:VC:=(.rq (.call [] 42 none [(.sub (.var 0) 0 5),(.sub (.var 1) 0 5)] dq []) (.ite (.no (.var 2)) (.ret (.lb false) []) (.rq (.call [] 43 none [(.cell (.var 0) 5),(.cell (.var 1) 5)] dq []) (.ite (.no (.var 3)) (.ret (.lb false) []) (.ret (.lb true) [])))))
theorem ahB:bq Tryz.prog ay ba 11 none=RC:=by kernel_rfl
def ae2:List VT:=[(.one (.agg [.str,.bool,.bool,(.sl 118),(.int .i64),(.sl 86)])),(.one (.agg [.str,.bool,.bool,(.sl 118),(.int .i64),(.sl 86)]))]
theorem ae3:bp Tryz.prog ay 11 none=ae2:=by kernel_rfl
def RN:VC:=(.ite (.ic .lss (.ar .sub .i64 (.var 1) (.len (.var 0))) (.li .i64 0)) (.ret (.li .i64 (-1)) []) (.loop [bg,bg] [(.ar .sub .i64 (.var 1) (.len (.var 0))),(.li .i64 0)] (.ite (.ic .lss (.var 3) (.len (.var 0))) (.rq (.cond [] (.bP (.var 0) (.var 3))) (.rq (.call [] 6 none [(.row [.str,.str,(.int .i64),.str] (.var 0) (.var 3)),(.var 2)] bg []) (.ite (.ic .lss (.var 4) (.li .i64 0)) (.ret (.li .i64 (-1)) []) (.again 0 [(.var 4),(.ar .add .i64 (.var 3) (.li .i64 1))])))) (.ret (.var 2) []))))
theorem ahK:bq Tryz.prog ay ba 15 none=RN:=by kernel_rfl
def afl:List VT:=[(.one (.c (.sl 29))),bg]
theorem afm:bp Tryz.prog ay 15 none=afl:=by kernel_rfl
def RE:VC:=(.ite (.ic .neq (.len (.var 0)) (.len (.var 1))) (.ret (.lb false) []) (.loop [bg] [(.li .i64 0)] (.ite (.ic .lss (.var 2) (.len (.var 0))) (.rq (.cond [] (.bP (.var 0) (.var 2))) (.rq (.cond [] (.bP (.var 1) (.var 2))) (.rq (.call [] 12 none [(.row [(.int .i64),(.int .i64),.str,(.int .i64),(.int .i64)] (.var 0) (.var 2)),(.row [(.int .i64),(.int .i64),.str,(.int .i64),(.int .i64)] (.var 1) (.var 2))] dq []) (.ite (.no (.var 3)) (.ret (.lb false) []) (.again 0 [(.ar .add .i64 (.var 2) (.li .i64 1))]))))) (.ret (.lb true) []))))
theorem ahC:bq Tryz.prog ay ba 19 none=RE:=by kernel_rfl
def ae5:List VT:=[(.one (.c (.sl 39))),(.one (.c (.sl 39)))]
theorem ae6:bp Tryz.prog ay 19 none=ae5:=by kernel_rfl
def RS:VC:=(.ite (.ic .lss (.ar .sub .i64 (.var 1) (.len (.var 0))) (.li .i64 0)) (.ret (.li .i64 (-1)) []) (.loop [bg,bg] [(.ar .sub .i64 (.var 1) (.len (.var 0))),(.li .i64 0)] (.ite (.ic .lss (.var 3) (.len (.var 0))) (.rq (.cond [] (.bP (.var 0) (.var 3))) (.rq (.call [] 51 none [(.row [.str,(.int .i64)] (.var 0) (.var 3)),(.var 2)] bg []) (.ite (.ic .lss (.var 4) (.li .i64 0)) (.ret (.li .i64 (-1)) []) (.again 0 [(.var 4),(.ar .add .i64 (.var 3) (.li .i64 1))])))) (.ret (.var 2) []))))
theorem ahP:bq Tryz.prog ay ba 25 none=RS:=by kernel_rfl
def afv:List VT:=[(.one (.c (.sl 83))),bg]
theorem afw:bp Tryz.prog ay 25 none=afv:=by kernel_rfl
def Sr:VC:=(.rq (.call [] 57 none [(.var 0)] dq []) (.rq (.call [((.no (.var 2)),false)] 57 none [(.var 1)] dq []) (.ite (.or (.no (.var 2)) (.no (.var 3))) (.ret (.lb false) []) (.loop [bg] [(.li .i64 0)] (.ite (.ic .lss (.var 4) (.li .i64 6)) (.rq (.call [] 58 none [(.var 1),(.var 4)] dq []) (.rq (.call [((.var 5),true)] 58 none [(.var 0),(.var 4)] dq []) (.ite (.an (.var 5) (.no (.var 6))) (.ret (.lb false) []) (.again 0 [(.ar .add .i64 (.var 4) (.li .i64 1))])))) (.ret (.lb true) []))))))
theorem aif:bq Tryz.prog ay ba 29 none=Sr:=by kernel_rfl
def agj:List VT:=[bg,bg]
theorem agk:bp Tryz.prog ay 29 none=agj:=by kernel_rfl
def RY:VC:=(.rq (.gA 62 none [(.cell (.var 0) 3)] (.one (.c (.sl 118))) [] [(0,2)]) (.ret (.cat (.ah (.cell (.var 0) 0)) (.cat (.ah (.cell (.var 0) 1)) (.cat (.ah (.cell (.var 0) 2)) (.cat (.ah (.var 1)) (.cat (.ah (.cell (.var 0) 4)) .cB))))) []))
theorem ahW:bq Tryz.prog ay ba 33 none=RY:=by kernel_rfl
def afJ:List VT:=[(.one (.agg [.str,.bool,.bool,(.sl 110),(.int .i64)]))]
theorem afK:bp Tryz.prog ay 33 none=afJ:=by kernel_rfl
theorem acx:ba.get 33=[(3,2)]:=by kernel_rfl
def Q5:VC:=(.rq (.call [] 69 none [(.cell (.var 0) 0)] bg []) (.ite (.or (.ic .lss (.var 1) (.li .i64 0)) (.an (.sc .neq (.cell (.var 0) 3) (.ls ⟨#[]⟩)) (.sc .neq (.cell (.var 0) 0) (.ls ⟨#[76,111,97,100]⟩)))) (.ret (.lb false) []) (.ite (.sc .eql (.cell (.var 0) 0) (.ls ⟨#[71,101,116]⟩)) (.rq (.call [] 70 none [(.cell (.var 0) 1)] dq []) (.ret (.an (.var 2) (.ic .eql (.cell (.var 0) 2) (.li .i64 0))) [])) (.ite (.sc .eql (.cell (.var 0) 0) (.ls ⟨#[80,117,116]⟩)) (.rq (.call [] 70 none [(.cell (.var 0) 1)] dq []) (.rq (.call [((.var 2),true)] 68 none [(.cell (.var 0) 2)] dq []) (.ret (.an (.var 2) (.var 3)) []))) (.ite (.sc .eql (.cell (.var 0) 0) (.ls ⟨#[72,101,97,114]⟩)) (.rq (.call [((.sc .eql (.cell (.var 0) 1) (.ls ⟨#[]⟩)),true)] 68 none [(.cell (.var 0) 2)] dq []) (.ret (.an (.sc .eql (.cell (.var 0) 1) (.ls ⟨#[]⟩)) (.var 2)) [])) (.ret (.an (.sc .eql (.cell (.var 0) 1) (.ls ⟨#[]⟩)) (.ic .eql (.cell (.var 0) 2) (.li .i64 0))) []))))))
theorem ahc:bq Tryz.prog ay ba 37 none=Q5:=by kernel_rfl
def aeh:List VT:=[(.one qD)]
theorem aei:bp Tryz.prog ay 37 none=aeh:=by kernel_rfl
def Ry:VC:=(.ite (.sc .neq (.cell (.var 0) 0) (.cell (.var 1) 0)) (.ret (.lb false) []) (.ite (.no (.bc (.cell (.var 0) 1) (.cell (.var 1) 1))) (.ret (.lb false) []) (.ite (.no (.bc (.cell (.var 0) 2) (.cell (.var 1) 2))) (.ret (.lb false) []) (.rq (.call [] 75 none [(.cell (.var 0) 3),(.cell (.var 1) 3)] dq []) (.ite (.no (.var 2)) (.ret (.lb false) []) (.ite (.ic .neq (.cell (.var 0) 4) (.cell (.var 1) 4)) (.ret (.lb false) []) (.ret (.lb true) [])))))))
theorem ahy:bq Tryz.prog ay ba 42 none=Ry:=by kernel_rfl
def aeW:List VT:=[(.one (.agg [.str,.bool,.bool,(.sl 118),(.int .i64)])),(.one (.agg [.str,.bool,.bool,(.sl 118),(.int .i64)]))]
theorem aeX:bp Tryz.prog ay 42 none=aeW:=by kernel_rfl
def RH:VC:=(.loop [bg,bg] [(.var 1),(.li .i64 0)] (.ite (.ic .lss (.var 3) (.len (.var 0))) (.rq (.cond [] (.bP (.var 0) (.var 3))) (.rq (.call [] 49 none [(.var 2)] dR []) (.ite (.sc .neq (.cell (.row [.str,(.int .i64)] (.var 0) (.var 3)) 0) (.var 4)) (.ret (.li .i64 (-1)) []) (.rq (.cond [] (.bP (.var 0) (.var 3))) (.ite (.ic .neq (.cell (.row [.str,(.int .i64)] (.var 0) (.var 3)) 1) (.ar .add .i64 (.var 2) (.li .i64 1))) (.ret (.li .i64 (-1)) []) (.again 0 [(.ar .add .i64 (.ar .add .i64 (.var 2) (.li .i64 1)) (.li .i64 1)),(.ar .add .i64 (.var 3) (.li .i64 1))])))))) (.ret (.var 2) [])))
theorem ahG:bq Tryz.prog ay ba 47 none=RH:=by kernel_rfl
def afc:List VT:=[(.one (.c (.sl 86))),bg]
theorem afd:bp Tryz.prog ay 47 none=afc:=by kernel_rfl
def RR:VC:=(.ite (.ic .lss (.ar .sub .i64 (.var 1) (.len (.cell (.var 0) 0))) (.li .i64 0)) (.ret (.li .i64 (-1)) []) (.ret (.ar .sub .i64 (.var 1) (.len (.cell (.var 0) 0))) []))
theorem ahQ:bq Tryz.prog ay ba 51 none=RR:=by kernel_rfl
def afu:List VT:=[(.one (.agg [.str,(.int .i64)])),bg]
theorem afx:bp Tryz.prog ay 51 none=afu:=by kernel_rfl
def SL:VC:=(.ite (.ic .eql (.var 1) (.li .i64 0)) (.rq (.call [] 80 none [(.cell (.var 0) 0)] (.aC [(.c (.int .i64)),(.c .bool)]) []) (.ret (.proj (.var 2) 0) [])) (.rq (.cond [] (.bP (.cell (.var 0) 5) (.ar .sub .i64 (.var 1) (.li .i64 1)))) (.rq (.call [] 82 none [(.cell (.row [.str,(.int .i64)] (.cell (.var 0) 5) (.ar .sub .i64 (.var 1) (.li .i64 1))) 0)] (.aC [(.c (.int .i64)),(.c (.int .i64)),(.c .bool)]) []) (.ret (.proj (.var 2) 1) []))))
theorem aiy:bq Tryz.prog ay ba 55 none=SL:=by kernel_rfl
def agS:List VT:=[(.one (.agg [.str,.bool,.bool,(.sl 118),(.int .i64),(.sl 86)])),bg]
theorem agT:bp Tryz.prog ay 55 none=agS:=by kernel_rfl
def R4:VC:=(.loop [bg] [(.li .i64 0)] (.ite (.ic .lss (.var 1) (.li .i64 6)) (.rq (.gA 85 none [(.var 1)] (.one (.c (.sl 9))) [] [(0,1)]) (.rq (.call [] 84 none [(.var 2),(.var 0)] dq []) (.ite (.var 3) (.ret (.var 1) []) (.again 0 [(.ar .add .i64 (.var 1) (.li .i64 1))])))) (.ret (.li .i64 (-1)) [])))
theorem ah0:bq Tryz.prog ay ba 59 none=R4:=by kernel_rfl
def afR:List VT:=[dR]
theorem afS:bp Tryz.prog ay 59 none=afR:=by kernel_rfl
def Rl:VC:=(.rq (.cond [] (.few (.bw 118) (.cell (.var 0) 3))) (.ret (.cat (.ah (.cell (.var 0) 0)) (.cat (.ah (.cell (.var 0) 1)) (.cat (.ah (.cell (.var 0) 2)) (.cat (.ah (.app (.bw 118) (.cell (.var 0) 3))) (.cat (.ah (.cell (.var 0) 4)) .cB))))) []))
theorem ahn:bq Tryz.prog ay ba 64 none=Rl:=by kernel_rfl
def aeB:List VT:=[(.one (.agg [.str,.bool,.bool,(.sl 118),(.int .i64)]))]
theorem aeC:bp Tryz.prog ay 64 none=aeB:=by kernel_rfl
theorem acs:ba.get 64=[(3,2)]:=by kernel_rfl
def ahr:VC:=(.ret (.an (.ic .geq (.var 0) (.li .i64 0)) (.ic .leq (.var 0) (.li .i64 999))) [])
theorem ahs:bq Tryz.prog ay ba 68 none=ahr:=by kernel_rfl
def aeJ:List VT:=[bg]
theorem aeK:bp Tryz.prog ay 68 none=aeJ:=by kernel_rfl
def RO:VC:=(.ite (.ic .lss (.ar .sub .i64 (.var 1) (.len (.cell (.var 0) 0))) (.li .i64 0)) (.ret (.li .i64 (-1)) []) (.ret (.ar .sub .i64 (.var 1) (.len (.cell (.var 0) 0))) []))
theorem ahN:bq Tryz.prog ay ba 79 none=RO:=by kernel_rfl
def afo:List VT:=[(.one (.agg [.str,(.int .i64)])),bg]
theorem afr:bp Tryz.prog ay 79 none=afo:=by kernel_rfl
def Sy:VC:=(.ret (.or (.an (.ic .geq (.var 0) (.li .u8 97)) (.ic .leq (.var 0) (.li .u8 122))) (.an (.an (.no (.var 1)) (.ic .geq (.var 0) (.li .u8 48))) (.ic .leq (.var 0) (.li .u8 57)))) [])
theorem aim:bq Tryz.prog ay ba 83 none=Sy:=by kernel_rfl
def agv:List VT:=[(.one (.c (.int .u8))),dq]
theorem agw:bp Tryz.prog ay 83 none=agv:=by kernel_rfl
def SJ:VC:=(.ite (.ic .geq (.var 0) (.li .i64 999)) (.ret (.var 0) []) (.ret (.ar .add .i64 (.var 0) (.li .i64 1)) []))
theorem aiw:bq Tryz.prog ay ba 87 none=SJ:=by kernel_rfl
def agO:List VT:=[bg]
theorem agP:bp Tryz.prog ay 87 none=agO:=by kernel_rfl
def Q8:VC:=(.ite (.ic .gtr (.len (.var 0)) (.li .i64 4)) (.ret (.lb false) []) (.loop [bg] [(.li .i64 0)] (.ite (.ic .lss (.var 1) (.len (.var 0))) (.rq (.cond [] (.bP (.var 0) (.var 1))) (.rq (.call [] 70 none [(.cell (.row [.str,(.int .i64)] (.var 0) (.var 1)) 0)] dq []) (.rq (.call [((.no (.var 2)),false)] 68 none [(.cell (.row [.str,(.int .i64)] (.var 0) (.var 1)) 1)] dq []) (.rq (.cond [((.or (.no (.var 2)) (.no (.var 3))),false),((.ic .gtr (.var 1) (.li .i64 0)),true)] (.bP (.var 0) (.ar .sub .i64 (.var 1) (.li .i64 1)))) (.ite (.or (.or (.no (.var 2)) (.no (.var 3))) (.an (.ic .gtr (.var 1) (.li .i64 0)) (.sc .geq (.cell (.row [.str,(.int .i64)] (.var 0) (.ar .sub .i64 (.var 1) (.li .i64 1))) 0) (.cell (.row [.str,(.int .i64)] (.var 0) (.var 1)) 0)))) (.ret (.lb false) []) (.again 0 [(.ar .add .i64 (.var 1) (.li .i64 1))])))))) (.ret (.lb true) []))))
theorem ahd:bq Tryz.prog ay ba 91 none=Q8:=by kernel_rfl
def aej:List VT:=[(.one (.c (.sl 118)))]
theorem aek:bp Tryz.prog ay 91 none=aej:=by kernel_rfl
def Rv:VC:=(.ite (.sc .neq (.cell (.var 0) 0) (.cell (.var 1) 0)) (.ret (.lb false) []) (.ite (.ic .neq (.cell (.var 0) 1) (.cell (.var 1) 1)) (.ret (.lb false) []) (.ret (.lb true) [])))
theorem ahx:bq Tryz.prog ay ba 97 none=Rv:=by kernel_rfl
def aeS:List VT:=[(.one (.agg [.str,(.int .i64)])),(.one (.agg [.str,(.int .i64)]))]
theorem aeV:bp Tryz.prog ay 97 none=aeS:=by kernel_rfl
def SI:VC:=(.ite (.sc .eql (.var 1) (.ls ⟨#[72,101,97,108]⟩)) (.ret (.aI (.aI .bH (.cat (.ah (.cell (.var 0) 0)) (.cat (.ah (.lb false)) (.cat (.ah (.lb false)) (.cat (.ah (.cell (.var 0) 3)) (.cat (.ah (.cell (.var 0) 4)) .cB)))))) (.cat (.ah (.li .i64 0)) (.cat (.ah (.li .i64 0)) (.cat (.ah (.ls ⟨#[]⟩)) (.cat (.ah (.li .i64 0)) (.cat (.ah (.li .i64 0)) .cB)))))) []) (.ite (.an (.sc .eql (.var 1) (.ls ⟨#[83,116,111,112]⟩)) (.no (.cell (.var 0) 1))) (.ret (.aI (.aI .bH (.var 0)) (.cat (.ah (.li .i64 2)) (.cat (.ah (.li .i64 0)) (.cat (.ah (.ls ⟨#[]⟩)) (.cat (.ah (.li .i64 0)) (.cat (.ah (.li .i64 0)) .cB)))))) []) (.ite (.sc .eql (.var 1) (.ls ⟨#[83,116,111,112]⟩)) (.ret (.aI (.aI .bH (.cat (.ah (.cell (.var 0) 0)) (.cat (.ah (.lb false)) (.cat (.ah (.cell (.var 0) 2)) (.cat (.ah (.cell (.var 0) 3)) (.cat (.ah (.cell (.var 0) 4)) .cB)))))) (.cat (.ah (.li .i64 0)) (.cat (.ah (.li .i64 0)) (.cat (.ah (.ls ⟨#[]⟩)) (.cat (.ah (.li .i64 0)) (.cat (.ah (.li .i64 0)) .cB)))))) []) (.ite (.cell (.var 0) 1) (.ret (.aI (.aI .bH (.cat (.ah (.cell (.var 0) 0)) (.cat (.ah (.lb false)) (.cat (.ah (.lb true)) (.cat (.ah (.cell (.var 0) 3)) (.cat (.ah (.cell (.var 0) 4)) .cB)))))) (.cat (.ah (.li .i64 3)) (.cat (.ah (.li .i64 0)) (.cat (.ah (.ls ⟨#[]⟩)) (.cat (.ah (.li .i64 0)) (.cat (.ah (.li .i64 0)) .cB)))))) []) (.rq (.call [] 87 none [(.cell (.var 0) 4)] bg []) (.ret (.aI (.aI .bH (.cat (.ah (.cell (.var 0) 0)) (.cat (.ah (.lb true)) (.cat (.ah (.cell (.var 0) 2)) (.cat (.ah (.cell (.var 0) 3)) (.cat (.ah (.var 2)) .cB)))))) (.cat (.ah (.li .i64 0)) (.cat (.ah (.li .i64 0)) (.cat (.ah (.ls ⟨#[]⟩)) (.cat (.ah (.li .i64 0)) (.cat (.ah (.li .i64 0)) .cB)))))) []))))))
theorem aiv:bq Tryz.prog ay ba 101 none=SI:=by kernel_rfl
def agM:List VT:=[(.one (.agg [.str,.bool,.bool,(.sl 118),(.int .i64)])),dR]
theorem agN:bp Tryz.prog ay 101 none=agM:=by kernel_rfl
def SD:VC:=(.loop [bg] [(.li .i64 0)] (.ite (.ic .lss (.var 2) (.len (.var 0))) (.rq (.cond [] (.bP (.var 0) (.var 2))) (.ite (.sc .eql (.cell (.row [.str,(.int .i64)] (.var 0) (.var 2)) 0) (.var 1)) (.ret (.var 2) []) (.again 0 [(.ar .add .i64 (.var 2) (.li .i64 1))]))) (.ret (.li .i64 (-1)) [])))
theorem aiq:bq Tryz.prog ay ba 107 none=SD:=by kernel_rfl
def agC:List VT:=[(.one (.c (.sl 118))),dR]
theorem agD:bp Tryz.prog ay 107 none=agC:=by kernel_rfl
def Sv:VC:=(.loop [(.one (.c (.sl 9))),bg,bg] [(.bw 9),(.li .i64 0),(.li .i64 0)] (.ite (.an (.sc .neq (.var 1) (.ls ⟨#[]⟩)) (.ic .leq (.ar .add .i64 (.var 4) (.len (.var 1))) (.len (.var 0)))) (.rq (.cond [] (.inc (.var 0) (.var 4) (.ar .add .i64 (.var 4) (.len (.var 1))))) (.ite (.sc .eql (.cut (.var 0) (.var 4) (.ar .add .i64 (.var 4) (.len (.var 1)))) (.var 1)) (.rq (.cond [] (.inc (.var 0) (.var 3) (.var 4))) (.rq (.cond [] (.few (.var 2) (.put (.bw 9) (.ah (.cut (.var 0) (.var 3) (.var 4)))))) (.again 0 [(.app (.var 2) (.put (.bw 9) (.ah (.cut (.var 0) (.var 3) (.var 4))))),(.ar .add .i64 (.var 4) (.len (.var 1))),(.ar .add .i64 (.var 4) (.len (.var 1)))]))) (.again 0 [(.var 2),(.var 3),(.ar .add .i64 (.var 4) (.li .i64 1))]))) (.rq (.cond [] (.inc (.var 0) (.var 3) (.len (.var 0)))) (.rq (.cond [] (.few (.var 2) (.put (.bw 9) (.ah (.cut (.var 0) (.var 3) (.len (.var 0))))))) (.ret (.app (.var 2) (.put (.bw 9) (.ah (.cut (.var 0) (.var 3) (.len (.var 0)))))) [])))))
theorem aij:bq Tryz.prog ay ba 111 none=Sv:=by kernel_rfl
def QU:List VT:=[dR,dR]
theorem agp:bp Tryz.prog ay 111 none=QU:=by kernel_rfl
theorem acD:ba.get 111=[(0,1)]:=by kernel_rfl
end
section
open Go.RowKit
variable [GC]
section
open Classical
variable {P:Program}{tab:Nat->List CT}{T:D->List D->Prop}
abbrev Out:=List D->D×List D
theorem VC.exact{r0:D×List D}(hT:T r0.1 r0.2): ∀(V:VC) (env:List D) (L:List ((List D->Prop)×Out)),(∀x∈L,∀ys,T (x.2 ys).1 (x.2 ys).2)->V.den P tab env T (L.map (·.1)) ->
  ∃r:D×List D,T r.1 r.2/\V.den P tab env (fun d bs=>d=r.1/\bs=r.2) (L.map fun x=>fun ys=>x.1 ys/\x.2 ys=r)
 | .fail _,_,_,_,h=>h.elim
 | .ret e bs,env,L,_,h=>by
  simp only [VC.den] at h
  exact ⟨(e.den env,bs.map (fun x=>x.den env)),h,⟨rfl,rfl⟩⟩
 | .rq (.cond gs c) k,env,L,hL,⟨h1,h2⟩=>by
  obtain ⟨r,q1,q2⟩:=VC.exact hT k env L hL h2
  exact ⟨r,q1,h1,q2⟩
 | .rq (.call gs f bx args vt nb) k,env,L,hL,⟨d,cs,h1,h2,h3,h4⟩=>by
  obtain ⟨r,q1,q2⟩:=VC.exact hT k _ L hL h4
  exact ⟨r,q1,d,cs,h1,h2,h3,q2⟩
 | .rq (.gA f bx args vt nb rt) k,env,L,hL,⟨d,cs,h1,h2,h3,h4⟩=>by
  obtain ⟨r,q1,q2⟩:=VC.exact hT k _ L hL h4
  exact ⟨r,q1,d,cs,h1,h2,h3,q2⟩
 | .rq (.dL gs e args vt) k,env,L,hL,⟨d,h1,h3,h4⟩=>by
  obtain ⟨r,q1,q2⟩:=VC.exact hT k _ L hL h4
  exact ⟨r,q1,d,h1,h3,q2⟩
 | .rq (.oy g vt ix) k,env,L,hL,⟨d,h1,h2,h3,h4⟩=>by
  obtain ⟨r,q1,q2⟩:=VC.exact hT k _ L hL h4
  exact ⟨r,q1,d,h1,h2,h3,q2⟩
 | .rq (.new f args nb) k,env,L,hL,⟨cs,h2,h3,h4⟩=>by
  obtain ⟨r,q1,q2⟩:=VC.exact hT k _ L hL h4
  exact ⟨r,q1,cs,h2,h3,q2⟩
 | .ite c a b,env,L,hL,⟨h1,h2⟩=>by
  cases hc:(c.den env).iZ with
  | true =>
   obtain ⟨r,q1,q2⟩:=VC.exact hT a env L hL (h1 hc)
   exact ⟨r,q1,⟨fun _=>q2,fun h=>absurd (hc.symm.trans h) (by simp)⟩⟩
  | false =>
   obtain ⟨r,q1,q2⟩:=VC.exact hT b env L hL (h2 hc)
   exact ⟨r,q1,⟨fun h=>absurd (hc.symm.trans h) (by simp),fun _=>q2⟩⟩
 | .again d es,env,L,hL,h=>by
  simp only [VC.den,List.getElem?_map] at h
  cases hd:L[d]? with
  | none=>rw [hd] at h;exact h.elim
  | some x =>
   rw [hd] at h
   refine ⟨x.2 (es.map (·.den env)),hL x (List.mem_of_getElem? hd) _,?_⟩
   simp only [VC.den,List.getElem?_map,hd]
   exact ⟨h,rfl⟩
 | .loop cT inits body,env,L,hL,⟨I,μ,hI,hb⟩=>by
  let D1 (xs:List D) (o:Out) (r:D×List D):Prop:=T r.1 r.2/\body.den P tab (env++xs) (fun d bs=>d=r.1/\bs=r.2) ((fun ys=>(I ys/\μ ys<μ xs)/\o ys=r)::L.map fun x=>fun ys=>x.1 ys/\x.2 ys=r)
  let G:(xs:List D)->((ys:List D)->μ ys<μ xs->D×List D)->D×List D:=fun xs rec =>
   if h: ∃r,D1 xs (fun ys=>if hy:μ ys<μ xs then rec ys hy else r0) r then h.choose else r0
  let o:Out:=(measure μ).wf.fix G
  have ho: ∀xs,o xs=if h: ∃r,D1 xs (fun ys=>if μ ys<μ xs then o ys else r0) r then h.choose else r0:=fun xs=>by
   show (measure μ).wf.fix G xs=_
   rw [WellFounded.fix_eq]
   rfl
  have Nc: ∀xs,T (o xs).1 (o xs).2:=fun xs=>by
   rw [ho]
   split
   ·rename_i h;exact h.choose_spec.1
   ·exact hT
  have hbody: ∀xs,fz tab cT xs->dU xs->I xs->body.den P tab (env++xs) (fun d bs=>d=(o xs).1/\bs=(o xs).2) ((fun ys=>(I ys/\o ys=o xs)/\μ ys<μ xs)::L.map fun x=>fun ys=>x.1 ys/\x.2 ys=o xs):=by
   intro xs h1 h2 h3
   have hex: ∃r,D1 xs (fun ys=>if μ ys<μ xs then o ys else r0) r:=by
    refine VC.exact hT body (env++xs) ((fun ys=>I ys/\μ ys<μ xs,fun ys=>if μ ys<μ xs then o ys else r0)::L) ?_ (hb xs h1 h2 h3)
    intro x hx ys
    rcases List.mem_cons.1 hx with rfl|hx
    ·simp only;split
     ·exact Nc ys
     ·exact hT
    ·exact hL x hx ys
   have YJ:o xs=hex.choose:=by rw [ho,dif_pos hex]
   have hs:=hex.choose_spec.2
   rw [<-YJ] at hs
   have he:(fun ys=>(I ys/\μ ys<μ xs)/\(if μ ys<μ xs then o ys else r0)=o xs)=(fun ys=>(I ys/\o ys=o xs)/\μ ys<μ xs):=by
    funext ys
    apply propext
    by_cases hy:μ ys<μ xs<;>simp [hy]
   rw [he] at hs
   exact hs
  refine ⟨o (inits.map (·.den env)),Nc _,fun xs=>I xs/\o xs=o (inits.map (·.den env)),μ,⟨hI,rfl⟩,?_⟩
  rintro xs h1 h2 ⟨h3,h4⟩
  have:=hbody xs h1 h2 h3
  rw [h4] at this
  exact this
theorem cM.ex{f:FuncId}{tb:TB}{rb:RB}{bx:Option (List CT)}{V:VC}{Γ:List VT}(hV:bq P tb rb f bx=V)(hok:V.ok=true)(aB:bp P tb f bx=Γ)(pF:cD P tb tb=true)(hm:P.follows .mixedOrders=true)
  {bc:Option (List D)} {ds:List D} {r0:D×List D} (hT:T r0.1 r0.2) (hbc:bc.map List.length=bx.map List.length) (hty:fz tb.tab Γ (ds++bc.getD [])) (rE:bx=none-> ∀d bs,T d bs->bs=[])
  (iB:dU ds->dU (bc.getD [])->V.den P tb.tab (ds++bc.getD []) T []): ∃r:D×List D,T r.1 r.2/\cM P f bc ds r.1 r.2 (rb.get f):=by
 by_cases hf:dU ds/\dU (bc.getD [])
 ·obtain ⟨r,q1,q2⟩:=VC.exact hT V _ [] (by simp) (iB hf.1 hf.2)
  exact ⟨r,q1,cM.of hV hok aB pF hm hbc hty (fun h=>rE h _ _ q1) fun _ _=>q2⟩
 ·exact ⟨r0,hT,cM.of hV hok aB pF hm hbc hty (fun h=>rE h _ _ hT) fun h1 h2=>absurd ⟨h1,h2⟩ hf⟩
theorem aD.ex{f:FuncId}{tb:TB}{rb:RB}{bx:Option (List CT)}{V:VC}{Γ:List VT}(hV:bq P tb rb f bx=V)(hok:V.ok=true)(aB:bp P tb f bx=Γ)(pF:cD P tb tb=true)(hm:P.follows .mixedOrders=true)
  {bc:Option (List D)} {ds:List D} {r0:D×List D} (hT:T r0.1 r0.2) (hbc:bc.map List.length=bx.map List.length) (hty:fz tb.tab Γ (ds++bc.getD [])) (rE:bx=none-> ∀d bs,T d bs->bs=[])
  (iB:dU ds->dU (bc.getD [])->V.den P tb.tab (ds++bc.getD []) T []): ∃r:D×List D,T r.1 r.2/\aD P f bc ds r.1 r.2:=by
 obtain ⟨r,h1,h2⟩:=cM.ex hV hok aB pF hm hT hbc hty rE iB
 exact ⟨r,h1,.Ia h2⟩
end
end
section
open Go.RowKit Go
variable [GC]
theorem cA:(∀{α:Type} {a:α} {r s:List α},(a::r)++s=a::(r++s))/\(∀{α:Type} (r:List α),[]++r=r):=⟨by simp,by simp⟩
theorem gE:(∀{α:Type} {a b:α} {l:List α},a∈b::l↔a=b\/a∈l)/\(∀{α:Type} {a:α},¬a∈([]:List α))/\(∀(p:Prop),(p\/False)=p)/\(∀{α:Type} {p:α->Prop} {q:α->Prop} {a:α},(∀x,x=a\/q x->p x)↔p a/\ ∀x,q x->p x)/\(∀{α:Type} {p:α->Prop} {a:α},(∀x,x=a->p x)↔p a):=⟨List.mem_cons,List.not_mem_nil,or_false,forall_eq_or_imp,forall_eq⟩
theorem mo:Tryz.prog.follows .mixedOrders=true:=by kernel_rfl
theorem cM.bK{f:FuncId}{V:VC}{Γ:List VT}(hV:bq Tryz.prog ay ba f none=V)(aB:bp Tryz.prog ay f none=Γ){rt:List (Nat×Nat)}(dw:ba.get f=rt)(hok:V.ok=true){ds:List D}{r:D}
  (hty:fz ay.tab Γ ds) (iB:dU ds->V.den Tryz.prog ay.tab ds (fun d bs=>d=r/\bs=[]) []):cM Tryz.prog f none ds r [] rt :=
 dw▸cM.of hV hok aB zm mo rfl (by simpa using hty) (fun _=>rfl) (fun h _=>by simpa using iB h)
theorem aD.bK{f:FuncId}{V:VC}{Γ:List VT}(hV:bq Tryz.prog ay ba f none=V)(aB:bp Tryz.prog ay f none=Γ)(hok:V.ok=true){ds:List D}{r:D}
  (hty:fz ay.tab Γ ds) (iB:dU ds->V.den Tryz.prog ay.tab ds (fun d bs=>d=r/\bs=[]) []):aD Tryz.prog f none ds r [] :=
 aD.of hV hok aB zm mo rfl (by simpa using hty) (fun _=>rfl) (fun h _=>by simpa using iB h)
theorem aD.abA{P:Program}{f:FuncId}{ds:List D}{r:D}(hf:iy P f=true)
  (h: ∀(w:World) (M:Addr->Prop) (vs:List Value),(∀p,M p->p.block<w.heap.size)->Rs w M ds vs->Calls P f vs.toArray w fun e w'=> ∃v,e= .returned v/\R w' M r v/\Below w.heap.size w w'):aD P f none ds r [] :=
 ⟨hf,fun w M g vs hM hr _=>(h w M vs hM.1 hr).mono fun e w' ⟨v,h1,h2,h3⟩=>⟨v,h1,h2,Fr.pJ h3 (Nat.le_refl _),fun h=>by cases h⟩⟩
theorem aD.v8{P:Program}{f:FuncId}{ds:List D}{r:D}(hf:iy P f=true)
  (h: ∀(w:World) (M:Addr->Prop) (vs:List Value),kf w M->Rs w M ds vs->Calls P f vs.toArray w fun e w'=> ∃v,e= .returned v/\R w' M r v/\Below w.heap.size w w'):aD P f none ds r [] :=
 ⟨hf,fun w M g vs hM hr _=>(h w M vs hM hr).mono fun e w' ⟨v,h1,h2,h3⟩=>⟨v,h1,h2,Fr.pJ h3 (Nat.le_refl _),fun h=>by cases h⟩⟩
inductive qF:List (List D->Prop)->List (List D->Prop)->Prop
 | nil:qF [] []
 | cons {p q:List D->Prop} {L L':List (List D->Prop)} (h: ∀ys,p ys->q ys) (t:qF L L'):qF (p::L) (q::L')
theorem qF.refl: ∀L,qF L L
 | []=> .nil
 | _::L=> .cons (fun _ h=>h) (qF.refl L)
theorem qF.get{L L':List (List D->Prop)}(h:qF L L'): ∀{d:Nat} {p:List D->Prop},L[d]? =some p-> ∃q,L'[d]? =some q/\ ∀ys,p ys->q ys:=by
 induction h with
 | nil=>intro d p hp;simp at hp
 | cons h t ih =>
  intro d p hp
  cases d with
  | zero=>simp at hp;subst hp;exact ⟨_,rfl,h⟩
  | succ d=>simp at hp;simpa using ih hp
theorem VC.qf{P:Program}{tab:Nat->List CT}{Q Q':D->List D->Prop}(hQ: ∀d bs,Q d bs->Q' d bs): ∀(V:VC) (env:List D) {L L':List (List D->Prop)},qF L L'->V.den P tab env Q L->V.den P tab env Q' L'
 | .fail _,_,_,_,_,h=>h.elim
 | .ret e bs,env,_,_,_,h=>hQ _ _ h
 | .rq (.cond gs c) k,env,_,_,hL,⟨h1,h2⟩=>⟨h1,VC.qf hQ k env hL h2⟩
 | .rq (.call gs f bx args vt nb) k,env,_,_,hL,⟨d,cs,h1,h2,h3,h4⟩=>⟨d,cs,h1,h2,h3,VC.qf hQ k _ hL h4⟩
 | .rq (.gA f bx args vt nb rt) k,env,_,_,hL,⟨d,cs,h1,h2,h3,h4⟩=>⟨d,cs,h1,h2,h3,VC.qf hQ k _ hL h4⟩
 | .rq (.dL gs e args vt) k,env,_,_,hL,⟨d,h1,h3,h4⟩=>⟨d,h1,h3,VC.qf hQ k _ hL h4⟩
 | .rq (.oy g vt ix) k,env,_,_,hL,⟨d,h1,h2,h3,h4⟩=>⟨d,h1,h2,h3,VC.qf hQ k _ hL h4⟩
 | .rq (.new f args nb) k,env,_,_,hL,⟨cs,h2,h3,h4⟩=>⟨cs,h2,h3,VC.qf hQ k _ hL h4⟩
 | .ite c a b,env,_,_,hL,⟨h1,h2⟩=>⟨fun h=>VC.qf hQ a env hL (h1 h),fun h=>VC.qf hQ b env hL (h2 h)⟩
 | .loop cT inits body,env,_,_,hL,⟨I,μ,h1,h2⟩=>⟨I,μ,h1,fun xs q1 q2 q3=>VC.qf hQ body _ (.cons (fun _ h=>h) hL) (h2 xs q1 q2 q3)⟩
 | .again d es,env,L,L',hL,h=>by
  simp only [VC.den] at h ⊢
  cases hd:L[d]? with
  | none=>rw [hd] at h;exact h.elim
  | some p =>
   rw [hd] at h
   obtain ⟨q,h1,h2⟩:=hL.get hd
   rw [h1];exact h2 _ h
class aZ(α:Type) extends Inhabited α where
 cells:α->List D
def nth{α:Type}[Inhabited α](l:List α)(k:Nat):α:=l.getD k default
def enc{α:Type}[aZ α](x:α):D:= .agg (aZ.cells x)
def aN{α:Type}[aZ α](l:List α):D:= .sl (l.map aZ.cells)
theorem zg{α:Type}[aZ α](l:List α)(k:Nat){z:List D}(h:aZ.cells (default:α)=z):D.agg (((l.map aZ.cells)[k]?).getD z)=enc (nth l k):=by
 unfold enc nth
 rw [List.getD_eq_getElem?_getD,List.getElem?_map]
 cases l[k]? <;>simp [h]
@[simp] theorem gR {α:Type} [aZ α] (l:List α):(aN l).mc=l.map aZ.cells:=rfl
@[simp] theorem gQ {α:Type} [aZ α] (l:List α):iX (aN l)=l.length:=by simp [aN,iX]
@[simp] theorem fX {α:Type} [aZ α] (x:α):(enc x).il=aZ.cells x:=rfl
theorem jS(r:List (List D)):iX (.sl r)=r.length:=rfl
theorem Ht(n:Nat):iX (.mem n)=n:=rfl
theorem zW{P:Program}{tab:Nat->List CT}{env:List D}{Q:D->List D->Prop}{L:List (List D->Prop)}{cT:List VT}{inits:List E}{body:VC}
  (St:Type) (e:St->List D) (I:St->Prop) (μ:St->Nat) (s0:St) (Zq: ∀s s',e s=e s'->μ s=μ s') (h0:inits.map (·.den env)=e s0) (hI:I s0)
  (hs: ∀s,I s->dU (e s)->body.den P tab (env++e s) Q ((fun ys=> ∃s',ys=e s'/\I s'/\μ s'<μ s)::L)):(VC.loop cT inits body).den P tab env Q L:=by
 classical
 let m:List D->Nat:=fun xs=>if h: ∃s,xs=e s then μ h.choose else 0
 have hm: ∀s,m (e s)=μ s:=by
  intro s
  have hx: ∃s',e s=e s':=⟨s,rfl⟩
  show (if h: ∃s',e s=e s' then μ h.choose else 0)=μ s
  rw [dif_pos hx]
  exact (Zq _ _ hx.choose_spec).symm
 refine ⟨fun xs=> ∃s,xs=e s/\I s,m,⟨s0,h0,hI⟩,?_⟩
 rintro xs _ hf ⟨s,rfl,XO⟩
 have:=hs s XO hf
 have he:(fun ys=>(∃s,ys=e s/\I s)/\m ys<m (e s))=(fun ys=> ∃s',ys=e s'/\I s'/\μ s'<μ s):=by
  funext ys
  apply propext
  constructor
  ·rintro ⟨⟨s',rfl,h⟩,h2⟩;exact ⟨s',rfl,h,by rwa [hm,hm] at h2⟩
  ·rintro ⟨s',rfl,h,h2⟩;exact ⟨⟨s',rfl,h⟩,by rwa [hm,hm]⟩
 rw [he]
 exact this
theorem wrap_i64{n:Int}(h1: -9223372036854775808<=n)(h2:n<=9223372036854775807):IntKind.i64.wrap n=n:=by
 simp only [IntKind.wrap,IntKind.bits,IntKind.signed]
 simp
 omega
theorem bu{P:Program}{tab:Nat->List CT}{env:List D}{Q:D->List D->Prop}{L:List (List D->Prop)}{gs:Gd}{f:FuncId}{args:List E}{vt:VT}{k:VC}{r:D}{xs:List D}
  (ha:args.map (·.den env)=xs) (hc:aD P f none xs r []) (hty:bU tab vt r) (hk:k.den P tab (env++[r]) Q L):(VC.rq (.call gs f none args vt []) k).den P tab env Q L :=
 ⟨r,[],hty,trivial,fun _=>ha▸hc,hk⟩
theorem mr{P:Program}{tab:Nat->List CT}{env:List D}{Q:D->List D->Prop}{L:List (List D->Prop)}{f:FuncId}{args:List E}{vt:VT}{rt:List (Nat×Nat)}{k:VC}{r:D}{xs:List D}
  (ha:args.map (·.den env)=xs) (hc:cM P f none xs r [] rt) (hty:bU tab vt r) (hk:k.den P tab (env++[r]) Q L):(VC.rq (.gA f none args vt [] rt) k).den P tab env Q L :=
 ⟨r,[],hty,trivial,ha▸hc,hk⟩
theorem WJ{P:Program}{tab:Nat->List CT}{env:List D}{Q:D->List D->Prop}{L:List (List D->Prop)}{gs:Gd}{f:FuncId}{args:List E}{vt:VT}{k:VC}{r:D}{xs:List D}
  (ha:args.map (·.den env)=xs) (hc:bB env gs->aD P f none xs r []) (hty:bU tab vt r) (hk:k.den P tab (env++[r]) Q L):(VC.rq (.call gs f none args vt []) k).den P tab env Q L :=
 ⟨r,[],hty,trivial,fun h=>ha▸hc h,hk⟩
theorem bh{P:Program}{tab:Nat->List CT}{env:List D}{Q:D->List D->Prop}{L:List (List D->Prop)}{gs:Gd}{c:E}{k:VC}
  (h:bB env gs->c.den env= .bool true) (hk:k.den P tab env Q L):(VC.rq (.cond gs c) k).den P tab env Q L:=⟨h,hk⟩
theorem aG{P:Program}{tab:Nat->List CT}{env:List D}{Q:D->List D->Prop}{L:List (List D->Prop)}{c:E}{a b:VC}
  (h1:(c.den env).iZ=true->a.den P tab env Q L) (h2:(c.den env).iZ=false->b.den P tab env Q L):(VC.ite c a b).den P tab env Q L:=⟨h1,h2⟩
theorem aF{P:Program}{tab:Nat->List CT}{env:List D}{L:List (List D->Prop)}{e:E}{r:D}(h:e.den env=r):(VC.ret e []).den P tab env (fun d bs=>d=r/\bs=[]) L:=⟨h,rfl⟩
theorem Fj{P:Program}{tab:Nat->List CT}{env:List D}{Q:D->List D->Prop}{L:List (List D->Prop)}{es:List E}{St:Type}{e:St->List D}{I:St->Prop}{μ:St->Nat}{m:Nat}(s':St)
  (h:es.map (·.den env)=e s') (hI:I s') (hm:μ s'<m):(VC.again 0 es).den P tab env Q ((fun ys=> ∃s',ys=e s'/\I s'/\μ s'<m)::L):=⟨s',h,hI,hm⟩
theorem aD.qU{f:FuncId}{V:VC}{Γ:List VT}{ds:List D}{T:D->Prop}(hV:bq Tryz.prog ay ba f none=V)(hok:V.ok=true)(aB:bp Tryz.prog ay f none=Γ)(hty:fz ay.tab Γ ds)(r0:D)(hT:T r0)
  (iB:dU ds->V.den Tryz.prog ay.tab ds (fun d bs=>T d/\bs=[]) []): ∃r,T r/\aD Tryz.prog f none ds r []:=by
 obtain ⟨⟨r,bs⟩,⟨q1,q2⟩,q3⟩:=aD.ex (T:=fun d bs=>T d/\bs=[]) (r0:=(r0,[])) hV hok aB zm mo ⟨hT,rfl⟩ (bc:=none) rfl (by simpa using hty) (fun _ d bs h=>h.2) (fun h _=>by simpa using iB h)
 simp only at q2;subst q2
 exact ⟨r,q1,q3⟩
theorem xB{P:Program}{tab:Nat->List CT}{env:List D}{Q:D->List D->Prop}{L:List (List D->Prop)}{gs:Gd}{f:FuncId}{args:List E}{vt:VT}{k:VC}{T:D->Prop}{xs:List D}
  (ha:args.map (·.den env)=xs) (hc: ∃r,T r/\aD P f none xs r []) (hty: ∀r,T r->bU tab vt r) (hk: ∀r,T r->k.den P tab (env++[r]) Q L):(VC.rq (.call gs f none args vt []) k).den P tab env Q L:=by
 obtain ⟨r,h1,h2⟩:=hc
 exact ⟨r,[],hty r h1,trivial,fun _=>ha▸h2,hk r h1⟩
theorem fp{P:Program}{tab:Nat->List CT}{env:List D}{Q:D->List D->Prop}{L:List (List D->Prop)}{cT:List VT}{inits:List E}{body:VC}
  (n:Nat) (st:Nat->List D) (I:Nat->Prop) (h0:inits.map (·.den env)=st 0) (hI:I 0)
  (hs: ∀k,k<=n->I k->dU (st k)->body.den P tab (env++st k) Q ((fun ys=>k<n/\ys=st (k+1)/\I (k+1))::L)):(VC.loop cT inits body).den P tab env Q L:=by
 classical
 let last:List D->Nat->Nat:=fun xs m=>Nat.rec 0 (fun j r=>if xs=st (j+1)/\I (j+1) then j+1 else r) m
 have Z9: ∀xs m,last xs m<=m:=by
  intro xs m
  induction m with
  | zero=>exact Nat.le_refl _
  | succ m ih =>
   show (if xs=st (m+1)/\I (m+1) then m+1 else last xs m)<=m+1
   split<;>omega
 have Z7: ∀xs m k,k<=m->xs=st k->I k->k<=last xs m:=by
  intro xs m
  induction m with
  | zero=>intro k hk _ _;omega
  | succ m ih =>
   intro k hk hx hi
   show k<=(if xs=st (m+1)/\I (m+1) then m+1 else last xs m)
   by_cases h:k=m+1
   ·subst h;rw [if_pos ⟨hx,hi⟩];exact Nat.le_refl _
   ·have:=ih k (by omega) hx hi
    split<;>omega
 have Z8: ∀xs m k,k<=m->xs=st k->I k->xs=st (last xs m)/\I (last xs m):=by
  intro xs m
  induction m with
  | zero =>
   intro k hk hx hi
   have:k=0:=by omega
   subst this;exact ⟨hx,hi⟩
  | succ m ih =>
   intro k hk hx hi
   show xs=st (if xs=st (m+1)/\I (m+1) then m+1 else last xs m)/\I (if xs=st (m+1)/\I (m+1) then m+1 else last xs m)
   by_cases h:xs=st (m+1)/\I (m+1)
   ·rw [if_pos h];exact h
   ·rw [if_neg h]
    refine ih k ?_ hx hi
    rcases Nat.lt_or_ge k (m+1) with hlt|hge
    ·omega
    ·have:k=m+1:=by omega
     subst this;exact absurd ⟨hx,hi⟩ h
 refine ⟨fun xs=> ∃k,k<=n/\xs=st k/\I k,fun xs=>n-last xs n,⟨0,Nat.zero_le _,h0,hI⟩,?_⟩
 rintro xs _ hf ⟨k,hk,hx,hi⟩
 obtain ⟨h1,h2⟩:=Z8 xs n k hk hx hi
 have h3:=Z9 xs n
 generalize hj:last xs n=j at *
 subst h1
 have:=hs j h3 h2 hf
 refine VC.qf (fun _ _ h=>h) _ _ ?_ this
 refine .cons (fun ys hys=> ?_) (.refl _)
 obtain ⟨q1,q2,q3⟩:=hys
 refine ⟨⟨j+1,by omega,q2,q3⟩,?_⟩
 have:=Z7 ys n (j+1) (by omega) q2 q3
 show n-last ys n<n-last (st j) n
 rw [hj];omega
theorem eH{P:Program}{tab:Nat->List CT}{env:List D}{Q:D->List D->Prop}{L:List (List D->Prop)}{es:List E}{xs:List D}{p q:Prop}
  (hp:p) (h:es.map (·.den env)=xs) (hq:q):(VC.again 0 es).den P tab env Q ((fun ys=>p/\ys=xs/\q)::L):=⟨hp,h,hq⟩
def ix(k:Nat):List D:=[.int .i64 k]
theorem db{x y:Int}(h1: -9223372036854775808<=x+y)(h2:x+y<=9223372036854775807):cv .add .i64 x y=x+y:=wrap_i64 h1 h2
theorem jO{x y:Int}(h1: -9223372036854775808<=x-y)(h2:x-y<=9223372036854775807):cv .sub .i64 x y=x-y:=wrap_i64 h1 h2
theorem uo{α:Type}[aZ α]{tab:Nat->List CT}{ts:List CT}(h: ∀x:α,bf tab ts (aZ.cells x))(l:List α):cV tab ts (l.map aZ.cells) :=
 cV.of (by intro r hr;obtain ⟨x,_,rfl⟩:=List.mem_map.1 hr;exact h x)
theorem ow{α:Type}[aZ α]{l:List α}(h:Fits (aN l)):l.length<=maxLen:=by
 unfold aN Fits at h;simpa using h.1
theorem gF(x y:Int):aS .lss x y=decide (x<y):=rfl
theorem Fc(x y:Int):aS .leq x y=decide (x<=y):=rfl
theorem Wn(x y:Int):aS .gtr x y=decide (x>y):=rfl
theorem Wm(x y:Int):aS .geq x y=decide (x>=y):=rfl
theorem Fb(x y:Int):aS .eql x y=(x==y):=rfl
theorem Wo(x y:Int):aS .neq x y=(x != y):=rfl
theorem aa:(∀{α β:Type} {f:α->β} {a:α} {l:List α},List.map f (a::l)=f a::List.map f l)/\(∀{α β:Type} {f:α->β},List.map f []=[])/\(∀{α β:Type} (f:α->β),Option.map f none=none)/\(∀{α β:Type} (a:α) (f:α->β),Option.map f (some a)=some (f a)) /\
  (∀{α:Type} {x:α} {xs:List α} {d:α},(x::xs).getD 0 d=x)/\(∀{α:Type} {x:α} {xs:List α} {n:Nat} {d:α},(x::xs).getD (n+1) d=xs.getD n d)/\(∀{α:Type} {a:α} {r s:List α},(a::r)++s=a::(r++s))/\(∀{α:Type} (r:List α),[]++r=r)/\(∀{α:Type} (r:List α),r++[]=r) /\
  (∀{α:Type} {a:α} {l:List α} {i:Nat},(a::l).drop (i+1)=l.drop i)/\(∀{α:Type} {l:List α},l.drop 0=l)/\(∀{α:Type} {a:α} {l:List α} {i:Nat},(a::l).take (i+1)=a::l.take i)/\(∀{α:Type} {l:List α},l.take 0=[]) /\
  (∀(k:IntKind) (n:Int),(D.int k n).cw=n)/\(∀b:Bool,(D.bool b).iZ=b)/\(∀s:ByteArray,(D.str s).r9=s)/\(∀l:List D,(D.agg l).il=l)/\(∀l:List D,(D.aC l).Eh=l)/\(∀l:List (List D),(D.sl l).mc=l) /\
  (∀{α:Type} [aZ α] (x:α),(enc x).il=aZ.cells x)/\(∀{α:Type} [aZ α] (l:List α),(aN l).mc=l.map aZ.cells)/\(∀{α:Type} [aZ α] (l:List α),iX (aN l)=l.length) :=
 ⟨by simp,by simp,by simp,by simp,by simp,by simp,by simp,by simp,by simp,by simp,by simp,by simp,by simp,by simp,by simp,by simp,by simp,by simp,by simp,by simp,by simp,by simp⟩
theorem ai:(∀x y:Int,aS .lss x y=decide (x<y))/\(∀x y:Int,aS .leq x y=decide (x<=y))/\(∀x y:Int,aS .gtr x y=decide (x>y))/\(∀x y:Int,aS .geq x y=decide (x>=y))/\(∀x y:Int,aS .eql x y=(x==y))/\(∀x y:Int,aS .neq x y=(x != y))/\(∀n:Nat,(n:Int).toNat=n)/\(0:Int).toNat=0 :=
 ⟨gF,Fc,Wn,Wm,Fb,Wo,Int.toNat_natCast,rfl⟩
end
section
open Go.RowKit Go
variable [GC]
instance :aZ ByteArray:={cells:=fun s=>[.str s]}
instance :aZ Int:={cells:=fun n=>[.int .i64 n]}
theorem ja(s:ByteArray):aZ.cells s=[.str s]:=rfl
theorem KC(n:Int):aZ.cells n=[.int .i64 n]:=rfl
theorem kV(l:List ByteArray)(k:Nat):D.agg (((l.map aZ.cells)[k]?).getD [fU CT.str])=enc (nth l k):=zg l k rfl
theorem PF(l:List Int)(k:Nat):D.agg (((l.map aZ.cells)[k]?).getD [fU (CT.int .i64)])=enc (nth l k):=zg l k rfl
def tu(s:ByteArray)(k:Nat):Int:=((s[k]?).map fun (c:UInt8)=>(c.toNat:Int)).getD 0
theorem JW(s:ByteArray)(k:Nat):((s[k]?).map fun (c:UInt8)=>(c.toNat:Int)).getD 0=tu s k:=rfl
theorem tH{s:ByteArray}(h:Fits (.str s)):s.size<=9223372036854775807:=by simpa [Fits,maxLen] using h
theorem eQ(s:ByteArray):iX (.str s)=s.size:=rfl
theorem agW(s:ByteArray):bf ay.tab [.str] (aZ.cells s):=by simp [ja,bf,bM]
theorem ad0:ay.tab 9=[.str]:=by kernel_rfl
theorem su(l:List ByteArray):bM ay.tab (.sl 9) (aN l):=by
 show cV _ (ay.tab _) _
 rw [ad0];exact uo agW l
theorem CB{α:Type}[aZ α]{tab:Nat->List CT}{ts:List CT}(h: ∀row,bf tab ts row-> ∃x:α,row=aZ.cells x): ∀{rows:List (List D)},cV tab ts rows-> ∃l:List α,rows=l.map aZ.cells
 | [],_=>⟨[],rfl⟩
 | r::rows,hr=>by
  simp only [cV] at hr
  obtain ⟨x,rfl⟩:=h r hr.1
  obtain ⟨l,rfl⟩:=CB h hr.2
  exact ⟨x::l,rfl⟩
theorem wM(a b:ByteArray):(a.toList==b.toList)=decide (a=b):=by
 rw [Bool.eq_iff_iff]
 simp only [beq_iff_eq,decide_eq_true_eq]
 refine ⟨fun h=> ?_,fun h=>by rw [h]⟩
 rw [ByteArray.toList_eq,ByteArray.toList_eq] at h
 cases a;cases b;simp_all [Array.toList_inj]
theorem fN(a b:ByteArray):fM .eql a b=decide (a=b):=wM a b
theorem eG(a b:ByteArray):fM .neq a b= !decide (a=b):=by rw [<-wM];rfl
def gj(a b:ByteArray):Bool:=Op.bytesLess a.toList b.toList
theorem Wq(a b:ByteArray):fM .lss a b=gj a b:=rfl
theorem Wp(a b:ByteArray):fM .geq a b= !gj a b:=rfl
theorem aj:(∀s:ByteArray,iX (.str s)=s.size)/\(∀(s:ByteArray) (k:Nat),((s[k]?).map fun (c:UInt8)=>(c.toNat:Int)).getD 0=tu s k)/\(∀a b:ByteArray,fM .eql a b=decide (a=b))/\(∀a b:ByteArray,fM .neq a b= !decide (a=b))/\(∀a b:ByteArray,fM .lss a b=gj a b)/\(∀a b:ByteArray,fM .geq a b= !gj a b):=⟨eQ,JW,fN,eG,Wq,Wp⟩
structure fV where
 name:ByteArray
 count:Int
 deriving DecidableEq,Inhabited
instance :aZ fV:={cells:=fun v=>[.str v.name,.int .i64 v.count]}
theorem ju(v:fV):aZ.cells v=[.str v.name,.int .i64 v.count]:=rfl
theorem oL(l:List fV)(k:Nat):D.agg (((l.map aZ.cells)[k]?).getD [fU (CT.str),fU (CT.int .i64)])=enc (nth l k):=zg l k rfl
theorem Xf(v u:fV):v=u↔v.name=u.name/\v.count=u.count:=⟨fun h=>by subst h;simp,fun h=>by cases v;cases u;simp_all⟩
theorem El(v:fV):bf ay.tab [.str,.int .i64] (aZ.cells v):=⟨trivial,rfl,trivial⟩
theorem IW:ay.tab 86=[.str,.int .i64]:=by kernel_rfl
theorem Em(l:List fV):bM ay.tab (.sl 86) (aN l):=by
 show cV _ (ay.tab _) _
 rw [IW];exact uo El l
theorem I5(v:fV):bf ay.tab [.str,.int .i64] (aZ.cells v):=⟨trivial,rfl,trivial⟩
theorem Qz:ay.tab 83=[.str,.int .i64]:=by kernel_rfl
theorem I6(l:List fV):bM ay.tab (.sl 83) (aN l):=by
 show cV _ (ay.tab _) _
 rw [Qz];exact uo I5 l
theorem WH(row:List D)(h:bf ay.tab [.str,.int .i64] row): ∃x:fV,row=aZ.cells x:=by
 match row,h with
 | [a0,a1],h =>
  obtain ⟨b0,rfl⟩:=mD (h.1)
  obtain ⟨b1,rfl⟩:=oA (h.2.1)
  exact ⟨⟨b0,b1⟩,rfl⟩
theorem WC{d:D}(h:bM ay.tab (.sl 83) d): ∃l:List fV,d=aN l:=by
 obtain ⟨rows,rfl,hr⟩:=nG h
 rw [Qz] at hr
 obtain ⟨l,rfl⟩:=CB WH hr
 exact ⟨l,rfl⟩
structure Cell where
 key:ByteArray
 val:Int
 deriving DecidableEq,Inhabited
instance :aZ Cell:={cells:=fun v=>[.str v.key,.int .i64 v.val]}
theorem dH(v:Cell):aZ.cells v=[.str v.key,.int .i64 v.val]:=rfl
theorem gu(l:List Cell)(k:Nat):D.agg (((l.map aZ.cells)[k]?).getD [fU (CT.str),fU (CT.int .i64)])=enc (nth l k):=zg l k rfl
theorem Xd(v u:Cell):v=u↔v.key=u.key/\v.val=u.val:=⟨fun h=>by subst h;simp,fun h=>by cases v;cases u;simp_all⟩
theorem Ek(v:Cell):bf ay.tab [.str,.int .i64] (aZ.cells v):=⟨trivial,rfl,trivial⟩
theorem IV:ay.tab 118=[.str,.int .i64]:=by kernel_rfl
theorem nX(l:List Cell):bM ay.tab (.sl 118) (aN l):=by
 show cV _ (ay.tab _) _
 rw [IV];exact uo Ek l
theorem I4(v:Cell):bf ay.tab [.str,.int .i64] (aZ.cells v):=⟨trivial,rfl,trivial⟩
theorem Qy:ay.tab 110=[.str,.int .i64]:=by kernel_rfl
theorem En(l:List Cell):bM ay.tab (.sl 110) (aN l):=by
 show cV _ (ay.tab _) _
 rw [Qy];exact uo I4 l
theorem WG(row:List D)(h:bf ay.tab [.str,.int .i64] row): ∃x:Cell,row=aZ.cells x:=by
 match row,h with
 | [a0,a1],h =>
  obtain ⟨b0,rfl⟩:=mD (h.1)
  obtain ⟨b1,rfl⟩:=oA (h.2.1)
  exact ⟨⟨b0,b1⟩,rfl⟩
theorem WB{d:D}(h:bM ay.tab (.sl 110) d): ∃l:List Cell,d=aN l:=by
 obtain ⟨rows,rfl,hr⟩:=nG h
 rw [Qy] at hr
 obtain ⟨l,rfl⟩:=CB WG hr
 exact ⟨l,rfl⟩
structure Core where
 kind:ByteArray
 on:Bool
 broken:Bool
 cells:List Cell
 count:Int
 deriving DecidableEq,Inhabited
instance :aZ Core:={cells:=fun v=>[.str v.kind,.bool v.on,.bool v.broken,aN v.cells,.int .i64 v.count]}
theorem bN(v:Core):aZ.cells v=[.str v.kind,.bool v.on,.bool v.broken,aN v.cells,.int .i64 v.count]:=rfl
theorem Xe(v u:Core):v=u↔v.kind=u.kind/\v.on=u.on/\v.broken=u.broken/\v.cells=u.cells/\v.count=u.count:=⟨fun h=>by subst h;simp,fun h=>by cases v;cases u;simp_all⟩
theorem jY(v:Core):bf ay.tab [.str,.bool,.bool,.sl 118,.int .i64] (aZ.cells v):=⟨trivial,trivial,trivial,nX _,rfl,trivial⟩
theorem QN(v:Core):bf ay.tab [.str,.bool,.bool,.sl 110,.int .i64] (aZ.cells v):=⟨trivial,trivial,trivial,En _,rfl,trivial⟩
structure Call where
 method:ByteArray
 key:ByteArray
 val:Int
 text:ByteArray
 deriving DecidableEq,Inhabited
instance :aZ Call:={cells:=fun v=>[.str v.method,.str v.key,.int .i64 v.val,.str v.text]}
theorem bY(v:Call):aZ.cells v=[.str v.method,.str v.key,.int .i64 v.val,.str v.text]:=rfl
theorem BC(l:List Call)(k:Nat):D.agg (((l.map aZ.cells)[k]?).getD [fU (CT.str),fU (CT.str),fU (CT.int .i64),fU (CT.str)])=enc (nth l k):=zg l k rfl
theorem Xc(v u:Call):v=u↔v.method=u.method/\v.key=u.key/\v.val=u.val/\v.text=u.text:=⟨fun h=>by subst h;simp,fun h=>by cases v;cases u;simp_all⟩
theorem sn(v:Call):bf ay.tab [.str,.str,.int .i64,.str] (aZ.cells v):=⟨trivial,trivial,rfl,trivial,trivial⟩
theorem adZ:ay.tab 43=[.str,.str,.int .i64,.str]:=by kernel_rfl
theorem Ej(l:List Call):bM ay.tab (.sl 43) (aN l):=by
 show cV _ (ay.tab _) _
 rw [adZ];exact uo sn l
theorem I0(v:Call):bf ay.tab [.str,.str,.int .i64,.str] (aZ.cells v):=⟨trivial,trivial,rfl,trivial,trivial⟩
theorem Qx:ay.tab 29=[.str,.str,.int .i64,.str]:=by kernel_rfl
theorem QM(l:List Call):bM ay.tab (.sl 29) (aN l):=by
 show cV _ (ay.tab _) _
 rw [Qx];exact uo I0 l
theorem WE(row:List D)(h:bf ay.tab [.str,.str,.int .i64,.str] row): ∃x:Call,row=aZ.cells x:=by
 match row,h with
 | [a0,a1,a2,a3],h =>
  obtain ⟨b0,rfl⟩:=mD (h.1)
  obtain ⟨b1,rfl⟩:=mD (h.2.1)
  obtain ⟨b2,rfl⟩:=oA (h.2.2.1)
  obtain ⟨b3,rfl⟩:=mD (h.2.2.2.1)
  exact ⟨⟨b0,b1,b2,b3⟩,rfl⟩
theorem WA{d:D}(h:bM ay.tab (.sl 29) d): ∃l:List Call,d=aN l:=by
 obtain ⟨rows,rfl,hr⟩:=nG h
 rw [Qx] at hr
 obtain ⟨l,rfl⟩:=CB WE hr
 exact ⟨l,rfl⟩
structure da where
 code:Int
 val:Int
 text:ByteArray
 want:Int
 had:Int
 deriving DecidableEq,Inhabited
instance :aZ da:={cells:=fun v=>[.int .i64 v.code,.int .i64 v.val,.str v.text,.int .i64 v.want,.int .i64 v.had]}
theorem lH(v:da):aZ.cells v=[.int .i64 v.code,.int .i64 v.val,.str v.text,.int .i64 v.want,.int .i64 v.had]:=rfl
theorem acj(l:List da)(k:Nat):D.agg (((l.map aZ.cells)[k]?).getD [fU (CT.int .i64),fU (CT.int .i64),fU (CT.str),fU (CT.int .i64),fU (CT.int .i64)])=enc (nth l k):=zg l k rfl
theorem Xh(v u:da):v=u↔v.code=u.code/\v.val=u.val/\v.text=u.text/\v.want=u.want/\v.had=u.had:=⟨fun h=>by subst h;simp,fun h=>by cases v;cases u;simp_all⟩
theorem sr(v:da):bf ay.tab [.int .i64,.int .i64,.str,.int .i64,.int .i64] (aZ.cells v):=⟨rfl,rfl,trivial,rfl,rfl,trivial⟩
theorem Qw:ay.tab 39=[.int .i64,.int .i64,.str,.int .i64,.int .i64]:=by kernel_rfl
theorem QI(l:List da):bM ay.tab (.sl 39) (aN l):=by
 show cV _ (ay.tab _) _
 rw [Qw];exact uo sr l
structure Part where
 core:Core
 af:List fV
 deriving DecidableEq,Inhabited
instance :aZ Part:={cells:=fun v=>[.str v.core.kind,.bool v.core.on,.bool v.core.broken,aN v.core.cells,.int .i64 v.core.count,aN v.af]}
theorem dh(v:Part):aZ.cells v=[.str v.core.kind,.bool v.core.on,.bool v.core.broken,aN v.core.cells,.int .i64 v.core.count,aN v.af]:=rfl
theorem Xg(v u:Part):v=u↔v.core=u.core/\v.af=u.af:=⟨fun h=>by subst h;simp,fun h=>by cases v;cases u;simp_all⟩
theorem kX(v:Part):bf ay.tab [.str,.bool,.bool,.sl 118,.int .i64,.sl 86] (aZ.cells v):=⟨trivial,trivial,trivial,nX _,rfl,Em _,trivial⟩
theorem QO(v:Part):bf ay.tab [.str,.bool,.bool,.sl 110,.int .i64,.sl 83] (aZ.cells v):=⟨trivial,trivial,trivial,En _,rfl,I6 _,trivial⟩
theorem WI(row:List D)(h:bf ay.tab [.str,.bool,.bool,.sl 110,.int .i64,.sl 83] row): ∃x:Part,row=aZ.cells x:=by
 match row,h with
 | [a0,a1,a2,a3,a4,a5],h =>
  obtain ⟨b0,rfl⟩:=mD (h.1)
  obtain ⟨b1,rfl⟩:=nF (h.2.1)
  obtain ⟨b2,rfl⟩:=nF (h.2.2.1)
  obtain ⟨b3,rfl⟩:=WB (h.2.2.2.1)
  obtain ⟨b4,rfl⟩:=oA (h.2.2.2.2.1)
  obtain ⟨b5,rfl⟩:=WC (h.2.2.2.2.2.1)
  exact ⟨⟨⟨b0,b1,b2,b3,b4⟩,b5⟩,rfl⟩
theorem WD{d:D}(h:bU ay.tab (.one (.agg [.str,.bool,.bool,.sl 110,.int .i64,.sl 83])) d): ∃x:Part,d=enc x:=by
 obtain ⟨l,rfl,hl⟩:=gV h
 obtain ⟨x,rfl⟩:=WI l hl
 exact ⟨x,rfl⟩
theorem uh{α:Type}[Inhabited α]{l:List α}{k:Nat}(h:k<l.length):nth l k∈l:=by
 simp [nth,List.getD,List.getElem?_eq_getElem h]
theorem CQ{α:Type}[Inhabited α]{l l':List α}(hl:l.length=l'.length)(h: ∀i,i<l.length->nth l i=nth l' i):l=l':=by
 refine List.ext_getElem hl fun i h1 h2=> ?_
 have:=h i h1
 simpa [nth,List.getD,List.getElem?_eq_getElem h1,List.getElem?_eq_getElem h2] using this
def iT(p:Nat->Bool):Nat->Bool
 | 0=>true
 | n+1=>iT p n&&p n
theorem uQ{p:Nat->Bool}: ∀{n:Nat},iT p n=true↔ ∀i,i<n->p i=true
 | 0=>by simp [iT]
 | n+1=>by
  simp only [iT,Bool.and_eq_true,uQ]
  exact ⟨fun ⟨h1,h2⟩ i hi=>by
   by_cases e:i=n
   ·subst e;exact h2
   ·exact h1 i (by omega),fun h=>⟨fun i hi=>h i (by omega),h n (by omega)⟩⟩
theorem uP{p:Nat->Bool}{n k:Nat}(hk:k<n)(h:p k=false):iT p n=false:=by
 rcases hb:iT p n with _|_
 ·rfl
 ·have:=uQ.1 hb k hk;rw [h] at this;cases this
end
section
open Go.RowKit
variable [GC]
def own(M:Addr->Prop)(g:Nat):Addr->Prop:=fun p=>M p\/p.block=g
section
variable {w w1:World}{M:Addr->Prop}{g:Nat}{T:TypeId}{len n k:Nat}{rows:List (List D)}
end
end
end Go.Proofs.YtimickglpboilaaGreatDoor
