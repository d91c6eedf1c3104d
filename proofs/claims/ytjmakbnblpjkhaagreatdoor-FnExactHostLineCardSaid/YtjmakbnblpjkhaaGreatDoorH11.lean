/- Conditions of functions of this seat's program. Written by fun.py. -/
import Derived.Test.YtjmakbnblpjkhaaGreatDoorH9
import Derived.Test.YtjmakbnblpjkhaaGreatDoorH10
set_option linter.unusedVariables false
set_option linter.unusedSimpArgs false
set_option linter.unusedSectionVars false
namespace Go.Proofs.YtjmakbnblpjkhaaGreatDoor
open Go
set_option maxRecDepth 1000000
def vc_impl_HostLine : VC := (.rq (.call [] 33 none [(.cell (.var 0) 0), (.var 1)] tyI []) (.rq (.call [] 34 none [(.var 0)] tyB []) (.ite (.or (.no (.var 3)) (.ic .lss (.var 2) (.li .i64 0))) (.ret (.ls ⟨#[]⟩) []) (.rq (.call [] 35 none [(.cell (.var 0) 2), (.var 1)] tyB []) (.ite (.var 4) (.rq (.cond [] (.inb (.cell (.var 0) 1) (.var 2))) (.ite (.cell (.sub (.row [.str, .bool, .bool, (.sl 123), (.int .i64), (.sl 160)] (.cell (.var 0) 1) (.var 2)) 0 5) 1) (.rq (.call [] 37 none [(.cell (.sub (.row [.str, .bool, .bool, (.sl 123), (.int .i64), (.sl 160)] (.cell (.var 0) 1) (.var 2)) 0 5) 3)] tyS []) (.rq (.call [] 36 none [(.put (.put (.put (.put (.nilS 9) (.ag1 (.var 1))) (.ag1 (.ls ⟨#[117, 112]⟩))) (.ag1 (.ls ⟨#[111, 110]⟩))) (.ag1 (.var 5))), (.ls ⟨#[32]⟩)] tyS []) (.ret (.var 6) []))) (.ite (.cell (.sub (.row [.str, .bool, .bool, (.sl 123), (.int .i64), (.sl 160)] (.cell (.var 0) 1) (.var 2)) 0 5) 2) (.rq (.call [] 37 none [(.cell (.sub (.row [.str, .bool, .bool, (.sl 123), (.int .i64), (.sl 160)] (.cell (.var 0) 1) (.var 2)) 0 5) 3)] tyS []) (.rq (.call [] 36 none [(.put (.put (.put (.put (.nilS 9) (.ag1 (.var 1))) (.ag1 (.ls ⟨#[117, 112]⟩))) (.ag1 (.ls ⟨#[98, 114, 111, 107, 101, 110]⟩))) (.ag1 (.var 5))), (.ls ⟨#[32]⟩)] tyS []) (.ret (.var 6) []))) (.rq (.call [] 37 none [(.cell (.sub (.row [.str, .bool, .bool, (.sl 123), (.int .i64), (.sl 160)] (.cell (.var 0) 1) (.var 2)) 0 5) 3)] tyS []) (.rq (.call [] 36 none [(.put (.put (.put (.put (.nilS 9) (.ag1 (.var 1))) (.ag1 (.ls ⟨#[117, 112]⟩))) (.ag1 (.ls ⟨#[111, 102, 102]⟩))) (.ag1 (.var 5))), (.ls ⟨#[32]⟩)] tyS []) (.ret (.var 6) [])))))) (.rq (.call [] 35 none [(.cell (.var 0) 3), (.var 1)] tyB []) (.ite (.var 5) (.rq (.cond [] (.inb (.cell (.var 0) 1) (.var 2))) (.ite (.cell (.sub (.row [.str, .bool, .bool, (.sl 123), (.int .i64), (.sl 160)] (.cell (.var 0) 1) (.var 2)) 0 5) 1) (.rq (.call [] 37 none [(.cell (.sub (.row [.str, .bool, .bool, (.sl 123), (.int .i64), (.sl 160)] (.cell (.var 0) 1) (.var 2)) 0 5) 3)] tyS []) (.rq (.call [] 36 none [(.put (.put (.put (.put (.nilS 9) (.ag1 (.var 1))) (.ag1 (.ls ⟨#[115, 104, 117, 116]⟩))) (.ag1 (.ls ⟨#[111, 110]⟩))) (.ag1 (.var 6))), (.ls ⟨#[32]⟩)] tyS []) (.ret (.var 7) []))) (.ite (.cell (.sub (.row [.str, .bool, .bool, (.sl 123), (.int .i64), (.sl 160)] (.cell (.var 0) 1) (.var 2)) 0 5) 2) (.rq (.call [] 37 none [(.cell (.sub (.row [.str, .bool, .bool, (.sl 123), (.int .i64), (.sl 160)] (.cell (.var 0) 1) (.var 2)) 0 5) 3)] tyS []) (.rq (.call [] 36 none [(.put (.put (.put (.put (.nilS 9) (.ag1 (.var 1))) (.ag1 (.ls ⟨#[115, 104, 117, 116]⟩))) (.ag1 (.ls ⟨#[98, 114, 111, 107, 101, 110]⟩))) (.ag1 (.var 6))), (.ls ⟨#[32]⟩)] tyS []) (.ret (.var 7) []))) (.rq (.call [] 37 none [(.cell (.sub (.row [.str, .bool, .bool, (.sl 123), (.int .i64), (.sl 160)] (.cell (.var 0) 1) (.var 2)) 0 5) 3)] tyS []) (.rq (.call [] 36 none [(.put (.put (.put (.put (.nilS 9) (.ag1 (.var 1))) (.ag1 (.ls ⟨#[115, 104, 117, 116]⟩))) (.ag1 (.ls ⟨#[111, 102, 102]⟩))) (.ag1 (.var 6))), (.ls ⟨#[32]⟩)] tyS []) (.ret (.var 7) [])))))) (.rq (.cond [] (.inb (.cell (.var 0) 1) (.var 2))) (.ite (.cell (.sub (.row [.str, .bool, .bool, (.sl 123), (.int .i64), (.sl 160)] (.cell (.var 0) 1) (.var 2)) 0 5) 1) (.rq (.call [] 37 none [(.cell (.sub (.row [.str, .bool, .bool, (.sl 123), (.int .i64), (.sl 160)] (.cell (.var 0) 1) (.var 2)) 0 5) 3)] tyS []) (.rq (.call [] 36 none [(.put (.put (.put (.put (.nilS 9) (.ag1 (.var 1))) (.ag1 (.ls ⟨#[100, 111, 119, 110]⟩))) (.ag1 (.ls ⟨#[111, 110]⟩))) (.ag1 (.var 6))), (.ls ⟨#[32]⟩)] tyS []) (.ret (.var 7) []))) (.ite (.cell (.sub (.row [.str, .bool, .bool, (.sl 123), (.int .i64), (.sl 160)] (.cell (.var 0) 1) (.var 2)) 0 5) 2) (.rq (.call [] 37 none [(.cell (.sub (.row [.str, .bool, .bool, (.sl 123), (.int .i64), (.sl 160)] (.cell (.var 0) 1) (.var 2)) 0 5) 3)] tyS []) (.rq (.call [] 36 none [(.put (.put (.put (.put (.nilS 9) (.ag1 (.var 1))) (.ag1 (.ls ⟨#[100, 111, 119, 110]⟩))) (.ag1 (.ls ⟨#[98, 114, 111, 107, 101, 110]⟩))) (.ag1 (.var 6))), (.ls ⟨#[32]⟩)] tyS []) (.ret (.var 7) []))) (.rq (.call [] 37 none [(.cell (.sub (.row [.str, .bool, .bool, (.sl 123), (.int .i64), (.sl 160)] (.cell (.var 0) 1) (.var 2)) 0 5) 3)] tyS []) (.rq (.call [] 36 none [(.put (.put (.put (.put (.nilS 9) (.ag1 (.var 1))) (.ag1 (.ls ⟨#[100, 111, 119, 110]⟩))) (.ag1 (.ls ⟨#[111, 102, 102]⟩))) (.ag1 (.var 6))), (.ls ⟨#[32]⟩)] tyS []) (.ret (.var 7) [])))))))))))))
theorem vc_impl_HostLine_ok : vcOf Tryz.prog tbl rbt 9 none = vc_impl_HostLine := by kernel_rfl
def ty_impl_HostLine : List VT := [(.one (.agg [(.sl 51), (.sl 67), (.sl 9), (.sl 9), (.sl 41)])), tyS]
theorem ty_impl_HostLine_ok : tyOf Tryz.prog tbl 9 none = ty_impl_HostLine := by kernel_rfl
def vc_laws_eqEvent : VC := (.ite (.ic .neq (.cell (.var 0) 0) (.cell (.var 1) 0)) (.ret (.lb false) []) (.ite (.sc .neq (.cell (.var 0) 1) (.cell (.var 1) 1)) (.ret (.lb false) []) (.rq (.call [] 52 none [(.sub (.var 0) 2 4), (.sub (.var 1) 2 4)] tyB []) (.ite (.no (.var 2)) (.ret (.lb false) []) (.rq (.call [] 40 none [(.cell (.var 0) 6), (.cell (.var 1) 6)] tyB []) (.ite (.no (.var 3)) (.ret (.lb false) []) (.ret (.lb true) [])))))))
theorem vc_laws_eqEvent_ok : vcOf Tryz.prog tbl rbt 13 none = vc_laws_eqEvent := by kernel_rfl
def ty_laws_eqEvent : List VT := [(.one (.agg [(.int .i64), .str, .str, .str, (.int .i64), .str, (.sl 9)])), (.one (.agg [(.int .i64), .str, .str, .str, (.int .i64), .str, (.sl 9)]))]
theorem ty_laws_eqEvent_ok : tyOf Tryz.prog tbl 13 none = ty_laws_eqEvent := by kernel_rfl
def vc_laws_szEntryS : VC := (.ite (.ic .lss (.ar .sub .i64 (.var 1) (.len (.var 0))) (.li .i64 0)) (.ret (.li .i64 (-1)) []) (.loop [tyI, tyI] [(.ar .sub .i64 (.var 1) (.len (.var 0))), (.li .i64 0)] (.ite (.ic .lss (.var 3) (.len (.var 0))) (.rq (.cond [] (.inb (.var 0) (.var 3))) (.rq (.call [] 66 none [(.row [.str, (.sl 9), (.int .i64), (.int .i64), (.sl 193)] (.var 0) (.var 3)), (.var 2)] tyI []) (.ite (.ic .lss (.var 4) (.li .i64 0)) (.ret (.li .i64 (-1)) []) (.again 0 [(.var 4), (.ar .add .i64 (.var 3) (.li .i64 1))])))) (.ret (.var 2) []))))
theorem vc_laws_szEntryS_ok : vcOf Tryz.prog tbl rbt 21 none = vc_laws_szEntryS := by kernel_rfl
def ty_laws_szEntryS : List VT := [(.one (.c (.sl 104))), tyI]
theorem ty_laws_szEntryS_ok : tyOf Tryz.prog tbl 21 none = ty_laws_szEntryS := by kernel_rfl
def vc_spec_FindEntry : VC := (.loop [tyI] [(.li .i64 0)] (.ite (.ic .lss (.var 2) (.len (.var 0))) (.rq (.cond [] (.inb (.var 0) (.var 2))) (.ite (.sc .eql (.cell (.row [.str, (.sl 9), (.int .i64), (.int .i64), (.sl 91)] (.var 0) (.var 2)) 0) (.var 1)) (.ret (.var 2) []) (.again 0 [(.ar .add .i64 (.var 2) (.li .i64 1))]))) (.ret (.li .i64 (-1)) [])))
theorem vc_spec_FindEntry_ok : vcOf Tryz.prog tbl rbt 25 none = vc_spec_FindEntry := by kernel_rfl
def ty_spec_FindEntry : List VT := [(.one (.c (.sl 51))), tyS]
theorem ty_spec_FindEntry_ok : tyOf Tryz.prog tbl 25 none = ty_spec_FindEntry := by kernel_rfl
def vc_laws_toStringS : VC := (.rq (.cond [] (.an (.ic .leq (.li .i64 0) (.len (.var 0))) (.ic .leq (.len (.var 0)) (.li .i64 4294967296)))) (.loop [tyI, (.one (.c (.sl 9)))] [(.li .i64 0), (.rep 9 [.str] (.len (.var 0)))] (.ite (.ic .lss (.var 1) (.len (.var 0))) (.rq (.cond [] (.inb (.var 0) (.var 1))) (.rq (.cond [] (.inb (.mem (.len (.var 0))) (.var 1))) (.again 0 [(.ar .add .i64 (.var 1) (.li .i64 1)), (.upd (.var 2) (.var 1) (.ag1 (.cell (.row [.str] (.var 0) (.var 1)) 0)) 0)]))) (.ret (.var 2) []))))
theorem vc_laws_toStringS_ok : vcOf Tryz.prog tbl rbt 31 none = vc_laws_toStringS := by kernel_rfl
def ty_laws_toStringS : List VT := [(.one (.c (.sl 9)))]
theorem ty_laws_toStringS_ok : tyOf Tryz.prog tbl 31 none = ty_laws_toStringS := by kernel_rfl
theorem rt_laws_toStringS_ok : rbt.get 31 = [(0, 1)] := by kernel_rfl
def vc_impl_JoinWith : VC := (.rq (.call [] 89 none [(.var 0), (.var 1)] tyS []) (.ret (.var 2) []))
theorem vc_impl_JoinWith_ok : vcOf Tryz.prog tbl rbt 36 none = vc_impl_JoinWith := by kernel_rfl
def ty_impl_JoinWith : List VT := [(.one (.c (.sl 9))), tyS]
theorem ty_impl_JoinWith_ok : tyOf Tryz.prog tbl 36 none = ty_impl_JoinWith := by kernel_rfl
def vc_laws_eqStringS : VC := (.ite (.ic .neq (.len (.var 0)) (.len (.var 1))) (.ret (.lb false) []) (.loop [tyI] [(.li .i64 0)] (.ite (.ic .lss (.var 2) (.len (.var 0))) (.rq (.cond [] (.inb (.var 0) (.var 2))) (.rq (.cond [] (.inb (.var 1) (.var 2))) (.ite (.sc .neq (.cell (.row [.str] (.var 0) (.var 2)) 0) (.cell (.row [.str] (.var 1) (.var 2)) 0)) (.ret (.lb false) []) (.again 0 [(.ar .add .i64 (.var 2) (.li .i64 1))])))) (.ret (.lb true) []))))
theorem vc_laws_eqStringS_ok : vcOf Tryz.prog tbl rbt 40 none = vc_laws_eqStringS := by kernel_rfl
def ty_laws_eqStringS : List VT := [(.one (.c (.sl 9))), (.one (.c (.sl 9)))]
theorem ty_laws_eqStringS_ok : tyOf Tryz.prog tbl 40 none = ty_laws_eqStringS := by kernel_rfl
def vc_spec_JoinWith : VC := (.loop [tyS, tyI] [(.ls ⟨#[]⟩), (.li .i64 0)] (.ite (.ic .lss (.var 3) (.len (.var 0))) (.rq (.cond [] (.inb (.var 0) (.var 3))) (.ite (.ic .gtr (.var 3) (.li .i64 0)) (.rq (.cond [] (.sok (.var 2) (.var 1))) (.rq (.cond [] (.sok (.scat (.var 2) (.var 1)) (.cell (.row [.str] (.var 0) (.var 3)) 0))) (.again 0 [(.scat (.scat (.var 2) (.var 1)) (.cell (.row [.str] (.var 0) (.var 3)) 0)), (.ar .add .i64 (.var 3) (.li .i64 1))]))) (.rq (.cond [] (.sok (.var 2) (.cell (.row [.str] (.var 0) (.var 3)) 0))) (.again 0 [(.scat (.var 2) (.cell (.row [.str] (.var 0) (.var 3)) 0)), (.ar .add .i64 (.var 3) (.li .i64 1))])))) (.ret (.var 2) [])))
theorem vc_spec_JoinWith_ok : vcOf Tryz.prog tbl rbt 44 none = vc_spec_JoinWith := by kernel_rfl
def ty_spec_JoinWith : List VT := [(.one (.c (.sl 9))), tyS]
theorem ty_spec_JoinWith_ok : tyOf Tryz.prog tbl 44 none = ty_spec_JoinWith := by kernel_rfl
def vc_laws_eqVersion : VC := (.ite (.ic .neq (.cell (.var 0) 0) (.cell (.var 1) 0)) (.ret (.lb false) []) (.ite (.ic .neq (.cell (.var 0) 1) (.cell (.var 1) 1)) (.ret (.lb false) []) (.ret (.lb true) [])))
theorem vc_laws_eqVersion_ok : vcOf Tryz.prog tbl rbt 62 none = vc_laws_eqVersion := by kernel_rfl
def ty_laws_eqVersion : List VT := [(.one (.agg [(.int .i64), (.int .i64)])), (.one (.agg [(.int .i64), (.int .i64)]))]
theorem ty_laws_eqVersion_ok : tyOf Tryz.prog tbl 62 none = ty_laws_eqVersion := by kernel_rfl
def vc_laws_szPart : VC := (.rq (.call [] 116 none [(.sub (.var 0) 0 5), (.var 1)] tyI []) (.ite (.ic .lss (.var 2) (.li .i64 0)) (.ret (.li .i64 (-1)) []) (.rq (.call [] 117 none [(.cell (.var 0) 5), (.var 2)] tyI []) (.ite (.ic .lss (.var 3) (.li .i64 0)) (.ret (.li .i64 (-1)) []) (.ret (.var 3) [])))))
theorem vc_laws_szPart_ok : vcOf Tryz.prog tbl rbt 67 none = vc_laws_szPart := by kernel_rfl
def ty_laws_szPart : List VT := [(.one (.agg [.str, .bool, .bool, (.sl 220), (.int .i64), (.sl 196)])), tyI]
theorem ty_laws_szPart_ok : tyOf Tryz.prog tbl 67 none = ty_laws_szPart := by kernel_rfl
def vc_spec_l7Up : VC := (.rq (.callR 119 none [(.var 0)] (.one (.c (.sl 199))) [] [(0, 3)]) (.loop [(.one (.c (.sl 9))), tyI] [(.nilS 9), (.li .i64 0)] (.ite (.ic .lss (.var 4) (.len (.var 1))) (.rq (.cond [] (.inb (.var 1) (.var 4))) (.rq (.call [] 25 none [(.var 0), (.cell (.row [.str] (.var 1) (.var 4)) 0)] tyI []) (.rq (.call [((.ic .lss (.var 5) (.li .i64 0)), false)] 27 none [(.var 3), (.cell (.row [.str] (.var 1) (.var 4)) 0)] tyB []) (.rq (.call [((.or (.ic .lss (.var 5) (.li .i64 0)) (.var 6)), false)] 123 none [(.var 2), (.cell (.row [.str] (.var 1) (.var 4)) 0), (.var 3)] tyB []) (.ite (.or (.or (.ic .lss (.var 5) (.li .i64 0)) (.var 6)) (.no (.var 7))) (.ret (.lb false) []) (.rq (.cond [] (.few (.var 3) (.put (.nilS 9) (.ag1 (.cell (.row [.str] (.var 1) (.var 4)) 0))))) (.again 0 [(.app (.var 3) (.put (.nilS 9) (.ag1 (.cell (.row [.str] (.var 1) (.var 4)) 0)))), (.ar .add .i64 (.var 4) (.li .i64 1))]))))))) (.ret (.lb true) []))))
theorem vc_spec_l7Up_ok : vcOf Tryz.prog tbl rbt 71 none = vc_spec_l7Up := by kernel_rfl
def ty_spec_l7Up : List VT := [(.one (.c (.sl 51))), (.one (.c (.sl 9)))]
theorem ty_spec_l7Up_ok : tyOf Tryz.prog tbl 71 none = ty_spec_l7Up := by kernel_rfl
def vc_spec_IsEvent : VC := (.rq (.call [] 128 none [(.cell (.var 0) 6)] (.tup [(.c (.int .i64)), (.c .bool)]) []) (.rq (.call [] 129 none [(.sub (.var 0) 2 4)] tyB []) (.rq (.call [((.or (.ic .lss (.cell (.var 0) 0) (.li .i64 1)) (.ic .gtr (.cell (.var 0) 0) (.li .i64 5))), false)] 130 none [(.cell (.var 0) 1)] tyB []) (.ite (.or (.or (.ic .lss (.cell (.var 0) 0) (.li .i64 1)) (.ic .gtr (.cell (.var 0) 0) (.li .i64 5))) (.no (.var 3))) (.ret (.lb false) []) (.ite (.or (.an (.ic .neq (.cell (.var 0) 0) (.li .i64 3)) (.no (.ae (.sub (.var 0) 2 4) (.cat (.ag1 (.ls ⟨#[]⟩)) (.cat (.ag1 (.ls ⟨#[]⟩)) (.cat (.ag1 (.li .i64 0)) (.cat (.ag1 (.ls ⟨#[]⟩)) .ag0))))))) (.an (.ic .eql (.cell (.var 0) 0) (.li .i64 3)) (.no (.var 2)))) (.ret (.lb false) []) (.ret (.or (.an (.ic .eql (.cell (.var 0) 0) (.li .i64 5)) (.proj (.var 1) 1)) (.an (.ic .neq (.cell (.var 0) 0) (.li .i64 5)) (.ic .eql (.len (.cell (.var 0) 6)) (.li .i64 0)))) []))))))
theorem vc_spec_IsEvent_ok : vcOf Tryz.prog tbl rbt 75 none = vc_spec_IsEvent := by kernel_rfl
def ty_spec_IsEvent : List VT := [(.one (.agg [(.int .i64), .str, .str, .str, (.int .i64), .str, (.sl 9)]))]
theorem ty_spec_IsEvent_ok : tyOf Tryz.prog tbl 75 none = ty_spec_IsEvent := by kernel_rfl
def vc_laws_toPart : VC := (.rq (.callR 133 none [(.sub (.var 0) 0 5)] (.one (.agg [.str, .bool, .bool, (.sl 123), (.int .i64)])) [] [(3, 2)]) (.rq (.callR 134 none [(.cell (.var 0) 5)] (.one (.c (.sl 160))) [] [(0, 2)]) (.ret (.cat (.ag1 (.cell (.var 1) 0)) (.cat (.ag1 (.cell (.var 1) 1)) (.cat (.ag1 (.cell (.var 1) 2)) (.cat (.ag1 (.cell (.var 1) 3)) (.cat (.ag1 (.cell (.var 1) 4)) (.cat (.ag1 (.var 2)) .ag0)))))) [])))
theorem vc_laws_toPart_ok : vcOf Tryz.prog tbl rbt 79 none = vc_laws_toPart := by kernel_rfl
def ty_laws_toPart : List VT := [(.one (.agg [.str, .bool, .bool, (.sl 220), (.int .i64), (.sl 196)]))]
theorem ty_laws_toPart_ok : tyOf Tryz.prog tbl 79 none = ty_laws_toPart := by kernel_rfl
theorem rt_laws_toPart_ok : rbt.get 79 = [(3, 2), (5, 2)] := by kernel_rfl
def vc_impl_wire : VC := (.rq (.cond [] (.an (.ic .leq (.li .i64 0) (.len (.var 0))) (.ic .leq (.len (.var 0)) (.li .i64 4294967296)))) (.rq (.cond [] (.an (.ic .leq (.li .i64 0) (.len (.var 0))) (.ic .leq (.len (.var 0)) (.li .i64 4294967296)))) (.rq (.cond [] (.an (.ic .leq (.li .i64 0) (.len (.var 0))) (.ic .leq (.len (.var 0)) (.li .i64 4294967296)))) (.loop [tyI, (.one (.c (.sl 129))), (.one (.c (.sl 129))), (.one (.c (.sl 4)))] [(.li .i64 0), (.rep 129 [(.sl 4)] (.len (.var 0))), (.rep 129 [(.sl 4)] (.len (.var 0))), (.rep 4 [.bool] (.len (.var 0)))] (.ite (.ic .lss (.var 1) (.len (.var 0))) (.rq (.cond [] (.inb (.var 0) (.var 1))) (.rq (.cond [] (.an (.ic .leq (.li .i64 0) (.len (.var 0))) (.ic .leq (.len (.var 0)) (.li .i64 4294967296)))) (.rq (.cond [] (.inb (.cell (.cat (.ag1 (.mem (.len (.var 0)))) (.cat (.ag1 (.mem (.len (.var 0)))) (.cat (.ag1 (.mem (.len (.var 0)))) .ag0))) 1) (.var 1))) (.loop [tyI, (.one (.c (.sl 129))), (.one (.c (.sl 129))), (.one (.c (.sl 4)))] [(.li .i64 0), (.var 2), (.upd (.var 3) (.var 1) (.ag1 (.rep 4 [.bool] (.len (.var 0)))) 0), (.var 4)] (.ite (.ic .lss (.var 5) (.len (.cell (.row [.str, (.sl 9), (.int .i64), (.int .i64), (.sl 91)] (.var 0) (.var 1)) 4))) (.rq (.cond [] (.inb (.cell (.row [.str, (.sl 9), (.int .i64), (.int .i64), (.sl 91)] (.var 0) (.var 1)) 4) (.var 5))) (.rq (.call [] 136 none [(.var 0), (.cell (.row [.str, (.sl 9), (.int .i64), (.int .i64), (.sl 91)] (.var 0) (.var 1)) 0), (.row [(.int .i64), .str, (.int .i64), (.int .i64)] (.cell (.row [.str, (.sl 9), (.int .i64), (.int .i64), (.sl 91)] (.var 0) (.var 1)) 4) (.var 5))] tyI []) (.ite (.ic .geq (.var 9) (.li .i64 0)) (.rq (.cond [] (.inb (.cell (.cat (.ag1 (.mem (.len (.var 0)))) (.cat (.ag1 (.mem (.len (.var 0)))) (.cat (.ag1 (.mem (.len (.var 0)))) .ag0))) 1) (.var 1))) (.rq (.cond [] (.inb (.mem (.len (.cell (.row [(.sl 4)] (.var 7) (.var 1)) 0))) (.var 9))) (.again 0 [(.ar .add .i64 (.var 5) (.li .i64 1)), (.var 6), (.upd (.var 7) (.var 1) (.ag1 (.upd (.cell (.row [(.sl 4)] (.var 7) (.var 1)) 0) (.var 9) (.ag1 (.lb true)) 0)) 0), (.var 8)]))) (.rq (.cond [] (.inb (.cell (.cat (.ag1 (.mem (.len (.var 0)))) (.cat (.ag1 (.mem (.len (.var 0)))) (.cat (.ag1 (.mem (.len (.var 0)))) .ag0))) 0) (.var 1))) (.again 0 [(.ar .add .i64 (.var 5) (.li .i64 1)), (.var 6), (.var 7), (.upd (.var 8) (.var 1) (.ag1 (.lb true)) 0)]))))) (.rq (.cond [] (.inb (.cell (.cat (.ag1 (.mem (.len (.var 0)))) (.cat (.ag1 (.mem (.len (.var 0)))) (.cat (.ag1 (.mem (.len (.var 0)))) .ag0))) 1) (.var 1))) (.rq (.cond [] (.ic .leq (.len (.cell (.row [(.sl 4)] (.var 7) (.var 1)) 0)) (.li .i64 4294967296))) (.rq (.cond [] (.inb (.cell (.cat (.ag1 (.mem (.len (.var 0)))) (.cat (.ag1 (.mem (.len (.var 0)))) (.cat (.ag1 (.mem (.len (.var 0)))) .ag0))) 2) (.var 1))) (.again 1 [(.ar .add .i64 (.var 1) (.li .i64 1)), (.upd (.var 6) (.var 1) (.ag1 (.cell (.row [(.sl 4)] (.var 7) (.var 1)) 0)) 0), (.var 7), (.var 8)]))))))))) (.loop [tyI, (.one (.c (.sl 129))), (.one (.c (.sl 129))), (.one (.c (.sl 4)))] [(.li .i64 0), (.var 2), (.var 3), (.var 4)] (.ite (.ic .lss (.var 5) (.len (.var 0))) (.loop [tyI, (.one (.c (.sl 129))), (.one (.c (.sl 129))), (.one (.c (.sl 4)))] [(.li .i64 0), (.var 6), (.var 7), (.var 8)] (.ite (.ic .lss (.var 9) (.len (.var 0))) (.loop [tyI, (.one (.c (.sl 129))), (.one (.c (.sl 129))), (.one (.c (.sl 4)))] [(.li .i64 0), (.var 10), (.var 11), (.var 12)] (.ite (.ic .lss (.var 13) (.len (.var 0))) (.rq (.cond [] (.inb (.cell (.cat (.ag1 (.mem (.len (.var 0)))) (.cat (.ag1 (.mem (.len (.var 0)))) (.cat (.ag1 (.mem (.len (.var 0)))) .ag0))) 2) (.var 9))) (.rq (.cond [] (.inb (.cell (.cat (.ag1 (.mem (.len (.var 0)))) (.cat (.ag1 (.mem (.len (.var 0)))) (.cat (.ag1 (.mem (.len (.var 0)))) .ag0))) 2) (.var 9))) (.rq (.cond [] (.inb (.mem (.len (.cell (.row [(.sl 4)] (.var 14) (.var 9)) 0))) (.var 13))) (.rq (.cond [((.cell (.row [.bool] (.cell (.row [(.sl 4)] (.var 14) (.var 9)) 0) (.var 13)) 0), false)] (.inb (.cell (.cat (.ag1 (.mem (.len (.var 0)))) (.cat (.ag1 (.mem (.len (.var 0)))) (.cat (.ag1 (.mem (.len (.var 0)))) .ag0))) 2) (.var 9))) (.rq (.cond [((.cell (.row [.bool] (.cell (.row [(.sl 4)] (.var 14) (.var 9)) 0) (.var 13)) 0), false)] (.inb (.mem (.len (.cell (.row [(.sl 4)] (.var 14) (.var 9)) 0))) (.var 5))) (.rq (.cond [((.cell (.row [.bool] (.cell (.row [(.sl 4)] (.var 14) (.var 9)) 0) (.var 13)) 0), false), ((.cell (.row [.bool] (.cell (.row [(.sl 4)] (.var 14) (.var 9)) 0) (.var 5)) 0), true)] (.inb (.cell (.cat (.ag1 (.mem (.len (.var 0)))) (.cat (.ag1 (.mem (.len (.var 0)))) (.cat (.ag1 (.mem (.len (.var 0)))) .ag0))) 2) (.var 5))) (.rq (.cond [((.cell (.row [.bool] (.cell (.row [(.sl 4)] (.var 14) (.var 9)) 0) (.var 13)) 0), false), ((.cell (.row [.bool] (.cell (.row [(.sl 4)] (.var 14) (.var 9)) 0) (.var 5)) 0), true)] (.inb (.mem (.len (.cell (.row [(.sl 4)] (.var 14) (.var 5)) 0))) (.var 13))) (.rq (.cond [] (.inb (.mem (.len (.cell (.row [(.sl 4)] (.var 14) (.var 9)) 0))) (.var 13))) (.again 0 [(.ar .add .i64 (.var 13) (.li .i64 1)), (.upd (.var 14) (.var 9) (.ag1 (.upd (.cell (.row [(.sl 4)] (.var 14) (.var 9)) 0) (.var 13) (.ag1 (.or (.cell (.row [.bool] (.cell (.row [(.sl 4)] (.var 14) (.var 9)) 0) (.var 13)) 0) (.an (.cell (.row [.bool] (.cell (.row [(.sl 4)] (.var 14) (.var 9)) 0) (.var 5)) 0) (.cell (.row [.bool] (.cell (.row [(.sl 4)] (.var 14) (.var 5)) 0) (.var 13)) 0)))) 0)) 0), (.var 15), (.var 16)]))))))))) (.again 1 [(.ar .add .i64 (.var 9) (.li .i64 1)), (.var 14), (.var 15), (.var 16)]))) (.again 1 [(.ar .add .i64 (.var 5) (.li .i64 1)), (.var 10), (.var 11), (.var 12)]))) (.ret (.cat (.ag1 (.var 8)) (.cat (.ag1 (.var 7)) (.cat (.ag1 (.var 6)) .ag0))) []))))))))
theorem vc_impl_wire_ok : vcOf Tryz.prog tbl rbt 83 none = vc_impl_wire := by kernel_rfl
def ty_impl_wire : List VT := [(.one (.c (.sl 51)))]
theorem ty_impl_wire_ok : tyOf Tryz.prog tbl 83 none = ty_impl_wire := by kernel_rfl
theorem rt_impl_wire_ok : rbt.get 83 = [(0, 1), (1, 1), (2, 1)] := by kernel_rfl
def vc_impl_RecipeOf : VC := (.loop [(.one (.c (.sl 9))), tyI] [(.put (.nilS 9) (.ag1 (.cell (.var 0) 0))), (.li .i64 0)] (.ite (.ic .lss (.var 2) (.len (.cell (.var 0) 5))) (.rq (.cond [] (.inb (.cell (.var 0) 5) (.var 2))) (.rq (.cond [] (.few (.var 1) (.put (.nilS 9) (.ag1 (.cell (.row [.str, (.int .i64)] (.cell (.var 0) 5) (.var 2)) 0))))) (.again 0 [(.app (.var 1) (.put (.nilS 9) (.ag1 (.cell (.row [.str, (.int .i64)] (.cell (.var 0) 5) (.var 2)) 0)))), (.ar .add .i64 (.var 2) (.li .i64 1))]))) (.ret (.var 1) [])))
theorem vc_impl_RecipeOf_ok : vcOf Tryz.prog tbl rbt 87 none = vc_impl_RecipeOf := by kernel_rfl
def ty_impl_RecipeOf : List VT := [(.one (.agg [.str, .bool, .bool, (.sl 123), (.int .i64), (.sl 160)]))]
theorem ty_impl_RecipeOf_ok : tyOf Tryz.prog tbl 87 none = ty_impl_RecipeOf := by kernel_rfl
theorem rt_impl_RecipeOf_ok : rbt.get 87 = [(0, 1)] := by kernel_rfl
def vc_laws_eqPart : VC := (.rq (.call [] 146 none [(.sub (.var 0) 0 5), (.sub (.var 1) 0 5)] tyB []) (.ite (.no (.var 2)) (.ret (.lb false) []) (.rq (.call [] 147 none [(.cell (.var 0) 5), (.cell (.var 1) 5)] tyB []) (.ite (.no (.var 3)) (.ret (.lb false) []) (.ret (.lb true) [])))))
theorem vc_laws_eqPart_ok : vcOf Tryz.prog tbl rbt 92 none = vc_laws_eqPart := by kernel_rfl
def ty_laws_eqPart : List VT := [(.one (.agg [.str, .bool, .bool, (.sl 123), (.int .i64), (.sl 160)])), (.one (.agg [.str, .bool, .bool, (.sl 123), (.int .i64), (.sl 160)]))]
theorem ty_laws_eqPart_ok : tyOf Tryz.prog tbl 92 none = ty_laws_eqPart := by kernel_rfl
def vc_impl_zeroCall : VC := (.ret (.ae (.var 0) (.cat (.ag1 (.ls ⟨#[]⟩)) (.cat (.ag1 (.ls ⟨#[]⟩)) (.cat (.ag1 (.li .i64 0)) (.cat (.ag1 (.ls ⟨#[]⟩)) .ag0))))) [])
theorem vc_impl_zeroCall_ok : vcOf Tryz.prog tbl rbt 102 none = vc_impl_zeroCall := by kernel_rfl
def ty_impl_zeroCall : List VT := [(.one tyC)]
theorem ty_impl_zeroCall_ok : tyOf Tryz.prog tbl 102 none = ty_impl_zeroCall := by kernel_rfl
def vc_laws_eqNeed : VC := (.ite (.ic .neq (.cell (.var 0) 0) (.cell (.var 1) 0)) (.ret (.lb false) []) (.ite (.sc .neq (.cell (.var 0) 1) (.cell (.var 1) 1)) (.ret (.lb false) []) (.rq (.call [] 62 none [(.sub (.var 0) 2 2), (.sub (.var 1) 2 2)] tyB []) (.ite (.no (.var 2)) (.ret (.lb false) []) (.ret (.lb true) [])))))
theorem vc_laws_eqNeed_ok : vcOf Tryz.prog tbl rbt 114 none = vc_laws_eqNeed := by kernel_rfl
def ty_laws_eqNeed : List VT := [(.one (.agg [(.int .i64), .str, (.int .i64), (.int .i64)])), (.one (.agg [(.int .i64), .str, (.int .i64), (.int .i64)]))]
theorem ty_laws_eqNeed_ok : tyOf Tryz.prog tbl 114 none = ty_laws_eqNeed := by kernel_rfl
def vc_laws_szCall : VC := (.ite (.ic .lss (.ar .sub .i64 (.var 1) (.len (.cell (.var 0) 0))) (.li .i64 0)) (.ret (.li .i64 (-1)) []) (.ite (.ic .lss (.ar .sub .i64 (.ar .sub .i64 (.var 1) (.len (.cell (.var 0) 0))) (.len (.cell (.var 0) 1))) (.li .i64 0)) (.ret (.li .i64 (-1)) []) (.ite (.ic .lss (.ar .sub .i64 (.ar .sub .i64 (.ar .sub .i64 (.var 1) (.len (.cell (.var 0) 0))) (.len (.cell (.var 0) 1))) (.len (.cell (.var 0) 3))) (.li .i64 0)) (.ret (.li .i64 (-1)) []) (.ret (.ar .sub .i64 (.ar .sub .i64 (.ar .sub .i64 (.var 1) (.len (.cell (.var 0) 0))) (.len (.cell (.var 0) 1))) (.len (.cell (.var 0) 3))) []))))
theorem vc_laws_szCall_ok : vcOf Tryz.prog tbl rbt 118 none = vc_laws_szCall := by kernel_rfl
def ty_laws_szCall : List VT := [(.one tyC), tyI]
theorem ty_laws_szCall_ok : tyOf Tryz.prog tbl 118 none = ty_laws_szCall := by kernel_rfl
def vc_spec_l1Put : VC := (.loop [tyB, (.one (.c (.sl 9))), tyI] [(.lb false), (.nilS 9), (.li .i64 0)] (.ite (.ic .lss (.var 4) (.len (.var 0))) (.rq (.cond [] (.inb (.var 0) (.var 4))) (.ite (.an (.no (.var 2)) (.sc .geq (.cell (.row [.str] (.var 0) (.var 4)) 0) (.var 1))) (.ite (.sc .neq (.cell (.row [.str] (.var 0) (.var 4)) 0) (.var 1)) (.rq (.cond [] (.few (.var 3) (.put (.nilS 9) (.ag1 (.var 1))))) (.rq (.cond [] (.few (.app (.var 3) (.put (.nilS 9) (.ag1 (.var 1)))) (.put (.nilS 9) (.ag1 (.cell (.row [.str] (.var 0) (.var 4)) 0))))) (.again 0 [(.lb true), (.app (.app (.var 3) (.put (.nilS 9) (.ag1 (.var 1)))) (.put (.nilS 9) (.ag1 (.cell (.row [.str] (.var 0) (.var 4)) 0)))), (.ar .add .i64 (.var 4) (.li .i64 1))]))) (.rq (.cond [] (.few (.var 3) (.put (.nilS 9) (.ag1 (.cell (.row [.str] (.var 0) (.var 4)) 0))))) (.again 0 [(.lb true), (.app (.var 3) (.put (.nilS 9) (.ag1 (.cell (.row [.str] (.var 0) (.var 4)) 0)))), (.ar .add .i64 (.var 4) (.li .i64 1))]))) (.rq (.cond [] (.few (.var 3) (.put (.nilS 9) (.ag1 (.cell (.row [.str] (.var 0) (.var 4)) 0))))) (.again 0 [(.var 2), (.app (.var 3) (.put (.nilS 9) (.ag1 (.cell (.row [.str] (.var 0) (.var 4)) 0)))), (.ar .add .i64 (.var 4) (.li .i64 1))])))) (.ite (.no (.var 2)) (.rq (.cond [] (.few (.var 3) (.put (.nilS 9) (.ag1 (.var 1))))) (.ret (.app (.var 3) (.put (.nilS 9) (.ag1 (.var 1)))) [])) (.ret (.var 3) []))))
theorem vc_spec_l1Put_ok : vcOf Tryz.prog tbl rbt 122 none = vc_spec_l1Put := by kernel_rfl
def ty_spec_l1Put : List VT := [(.one (.c (.sl 9))), tyS]
theorem ty_spec_l1Put_ok : tyOf Tryz.prog tbl 122 none = ty_spec_l1Put := by kernel_rfl
theorem rt_spec_l1Put_ok : rbt.get 122 = [(0, 1)] := by kernel_rfl
def vc_spec_Offers : VC := (.rq (.call [] 166 none [(.var 0)] tyB []) (.rq (.call [((.no (.var 2)), false)] 166 none [(.var 1)] tyB []) (.ite (.or (.no (.var 2)) (.no (.var 3))) (.ret (.lb false) []) (.loop [tyI] [(.li .i64 0)] (.ite (.ic .lss (.var 4) (.li .i64 6)) (.rq (.call [] 164 none [(.var 1), (.var 4)] tyB []) (.rq (.call [((.var 5), true)] 164 none [(.var 0), (.var 4)] tyB []) (.ite (.an (.var 5) (.no (.var 6))) (.ret (.lb false) []) (.again 0 [(.ar .add .i64 (.var 4) (.li .i64 1))])))) (.ret (.lb true) []))))))
theorem vc_spec_Offers_ok : vcOf Tryz.prog tbl rbt 126 none = vc_spec_Offers := by kernel_rfl
def ty_spec_Offers : List VT := [tyI, tyI]
theorem ty_spec_Offers_ok : tyOf Tryz.prog tbl 126 none = ty_spec_Offers := by kernel_rfl
def vc_spec_IsName : VC := (.loop [tyI] [(.li .i64 0)] (.ite (.ic .lss (.var 1) (.len (.var 0))) (.rq (.cond [] (.inb (.var 0) (.var 1))) (.rq (.call [] 169 none [(.at (.var 0) (.var 1)), (.ic .eql (.var 1) (.li .i64 0))] tyB []) (.ite (.no (.var 2)) (.ret (.lb false) []) (.again 0 [(.ar .add .i64 (.var 1) (.li .i64 1))])))) (.ret (.an (.ic .gtr (.len (.var 0)) (.li .i64 0)) (.ic .leq (.len (.var 0)) (.li .i64 8))) [])))
theorem vc_spec_IsName_ok : vcOf Tryz.prog tbl rbt 130 none = vc_spec_IsName := by kernel_rfl
def ty_spec_IsName : List VT := [tyS]
theorem ty_spec_IsName_ok : tyOf Tryz.prog tbl 130 none = ty_spec_IsName := by kernel_rfl
def vc_laws_toLayerS : VC := (.rq (.cond [] (.an (.ic .leq (.li .i64 0) (.len (.var 0))) (.ic .leq (.len (.var 0)) (.li .i64 4294967296)))) (.loop [tyI, (.one (.c (.sl 160)))] [(.li .i64 0), (.rep 160 [.str, (.int .i64)] (.len (.var 0)))] (.ite (.ic .lss (.var 1) (.len (.var 0))) (.rq (.cond [] (.inb (.var 0) (.var 1))) (.rq (.call [] 172 none [(.row [.str, (.int .i64)] (.var 0) (.var 1))] (.one (.agg [.str, (.int .i64)])) []) (.rq (.cond [] (.inb (.mem (.len (.var 0))) (.var 1))) (.again 0 [(.ar .add .i64 (.var 1) (.li .i64 1)), (.upd (.var 2) (.var 1) (.var 3) 0)])))) (.ret (.var 2) []))))
theorem vc_laws_toLayerS_ok : vcOf Tryz.prog tbl rbt 134 none = vc_laws_toLayerS := by kernel_rfl
def ty_laws_toLayerS : List VT := [(.one (.c (.sl 196)))]
theorem ty_laws_toLayerS_ok : tyOf Tryz.prog tbl 134 none = ty_laws_toLayerS := by kernel_rfl
theorem rt_laws_toLayerS_ok : rbt.get 134 = [(0, 2)] := by kernel_rfl
def vc_impl_layerFaces : VC := (.ite (.sc .eql (.var 0) (.ls ⟨#[112, 108, 97, 105, 110]⟩)) (.ret (.tp1 (.tp1 (.tp1 .tp0 (.li .i64 0)) (.li .i64 0)) (.lb true)) []) (.ite (.sc .eql (.var 0) (.ls ⟨#[114, 117, 110, 115]⟩)) (.ret (.tp1 (.tp1 (.tp1 .tp0 (.li .i64 1)) (.li .i64 1)) (.lb true)) []) (.ite (.sc .eql (.var 0) (.ls ⟨#[107, 101, 101, 112, 115]⟩)) (.ite (.sc .eql (.var 0) (.ls ⟨#[107, 101, 101, 112, 115]⟩)) (.ret (.tp1 (.tp1 (.tp1 .tp0 (.li .i64 2)) (.li .i64 2)) (.lb true)) []) (.ite (.sc .eql (.var 0) (.ls ⟨#[99, 111, 117, 110, 116, 115]⟩)) (.ret (.tp1 (.tp1 (.tp1 .tp0 (.li .i64 2)) (.li .i64 6)) (.lb true)) []) (.ite (.sc .eql (.var 0) (.ls ⟨#[108, 97, 122, 121]⟩)) (.ret (.tp1 (.tp1 (.tp1 .tp0 (.li .i64 3)) (.li .i64 3)) (.lb true)) []) (.ite (.sc .eql (.var 0) (.ls ⟨#[104, 101, 97, 114, 115]⟩)) (.ret (.tp1 (.tp1 (.tp1 .tp0 (.li .i64 1)) (.li .i64 9)) (.lb true)) []) (.ite (.sc .eql (.var 0) (.ls ⟨#[104, 101, 97, 108, 115]⟩)) (.ret (.tp1 (.tp1 (.tp1 .tp0 (.li .i64 1)) (.li .i64 33)) (.lb true)) []) (.ite (.sc .eql (.var 0) (.ls ⟨#[116, 119, 105, 99, 101]⟩)) (.ret (.tp1 (.tp1 (.tp1 .tp0 (.li .i64 4)) (.li .i64 4)) (.lb true)) []) (.ret (.tp1 (.tp1 (.tp1 .tp0 (.li .i64 0)) (.li .i64 0)) (.lb false)) []))))))) (.ite (.sc .eql (.var 0) (.ls ⟨#[114, 101, 97, 100, 115]⟩)) (.ret (.tp1 (.tp1 (.tp1 .tp0 (.li .i64 2)) (.li .i64 2)) (.lb true)) []) (.ite (.sc .eql (.var 0) (.ls ⟨#[99, 111, 117, 110, 116, 115]⟩)) (.ret (.tp1 (.tp1 (.tp1 .tp0 (.li .i64 2)) (.li .i64 6)) (.lb true)) []) (.ite (.sc .eql (.var 0) (.ls ⟨#[108, 97, 122, 121]⟩)) (.ret (.tp1 (.tp1 (.tp1 .tp0 (.li .i64 3)) (.li .i64 3)) (.lb true)) []) (.ite (.sc .eql (.var 0) (.ls ⟨#[104, 101, 97, 114, 115]⟩)) (.ret (.tp1 (.tp1 (.tp1 .tp0 (.li .i64 1)) (.li .i64 9)) (.lb true)) []) (.ite (.sc .eql (.var 0) (.ls ⟨#[104, 101, 97, 108, 115]⟩)) (.ret (.tp1 (.tp1 (.tp1 .tp0 (.li .i64 1)) (.li .i64 33)) (.lb true)) []) (.ite (.sc .eql (.var 0) (.ls ⟨#[116, 119, 105, 99, 101]⟩)) (.ret (.tp1 (.tp1 (.tp1 .tp0 (.li .i64 4)) (.li .i64 4)) (.lb true)) []) (.ret (.tp1 (.tp1 (.tp1 .tp0 (.li .i64 0)) (.li .i64 0)) (.lb false)) []))))))))))
theorem vc_impl_layerFaces_ok : vcOf Tryz.prog tbl rbt 138 none = vc_impl_layerFaces := by kernel_rfl
def ty_impl_layerFaces : List VT := [tyS]
theorem ty_impl_layerFaces_ok : tyOf Tryz.prog tbl 138 none = ty_impl_layerFaces := by kernel_rfl
def vc_spec_IsVersion : VC := (.ret (.an (.an (.an (.ic .geq (.cell (.var 0) 0) (.li .i64 0)) (.ic .leq (.cell (.var 0) 0) (.li .i64 99))) (.ic .geq (.cell (.var 0) 1) (.li .i64 0))) (.ic .leq (.cell (.var 0) 1) (.li .i64 99))) [])
theorem vc_spec_IsVersion_ok : vcOf Tryz.prog tbl rbt 155 none = vc_spec_IsVersion := by kernel_rfl
def ty_spec_IsVersion : List VT := [(.one (.agg [(.int .i64), (.int .i64)]))]
theorem ty_spec_IsVersion_ok : tyOf Tryz.prog tbl 155 none = ty_spec_IsVersion := by kernel_rfl
def vc_laws_szNeed : VC := (.ite (.ic .lss (.ar .sub .i64 (.var 1) (.len (.cell (.var 0) 1))) (.li .i64 0)) (.ret (.li .i64 (-1)) []) (.ret (.ar .sub .i64 (.var 1) (.len (.cell (.var 0) 1))) []))
theorem vc_laws_szNeed_ok : vcOf Tryz.prog tbl rbt 159 none = vc_laws_szNeed := by kernel_rfl
def ty_laws_szNeed : List VT := [(.one (.agg [(.int .i64), .str, (.int .i64), (.int .i64)])), tyI]
theorem ty_laws_szNeed_ok : tyOf Tryz.prog tbl 159 none = ty_laws_szNeed := by kernel_rfl
def vc_spec_KindFace : VC := (.loop [tyI] [(.li .i64 0)] (.ite (.ic .lss (.var 1) (.len (.put (.put (.put (.put (.put (.put (.put (.put (.nilS 9) (.ag1 (.ls ⟨#[115, 116, 111, 110, 101]⟩))) (.ag1 (.ls ⟨#[108, 97, 109, 112]⟩))) (.ag1 (.ls ⟨#[115, 104, 101, 108, 102]⟩))) (.ag1 (.ls ⟨#[109, 101, 116, 101, 114]⟩))) (.ag1 (.ls ⟨#[100, 114, 97, 119, 101, 114]⟩))) (.ag1 (.ls ⟨#[104, 111, 114, 110]⟩))) (.ag1 (.ls ⟨#[118, 97, 117, 108, 116]⟩))) (.ag1 (.ls ⟨#[114, 111, 98, 111, 116]⟩))))) (.rq (.cond [] (.inb (.put (.put (.put (.put (.put (.put (.put (.put (.nilS 9) (.ag1 (.ls ⟨#[115, 116, 111, 110, 101]⟩))) (.ag1 (.ls ⟨#[108, 97, 109, 112]⟩))) (.ag1 (.ls ⟨#[115, 104, 101, 108, 102]⟩))) (.ag1 (.ls ⟨#[109, 101, 116, 101, 114]⟩))) (.ag1 (.ls ⟨#[100, 114, 97, 119, 101, 114]⟩))) (.ag1 (.ls ⟨#[104, 111, 114, 110]⟩))) (.ag1 (.ls ⟨#[118, 97, 117, 108, 116]⟩))) (.ag1 (.ls ⟨#[114, 111, 98, 111, 116]⟩))) (.var 1))) (.ite (.sc .eql (.cell (.row [.str] (.put (.put (.put (.put (.put (.put (.put (.put (.nilS 9) (.ag1 (.ls ⟨#[115, 116, 111, 110, 101]⟩))) (.ag1 (.ls ⟨#[108, 97, 109, 112]⟩))) (.ag1 (.ls ⟨#[115, 104, 101, 108, 102]⟩))) (.ag1 (.ls ⟨#[109, 101, 116, 101, 114]⟩))) (.ag1 (.ls ⟨#[100, 114, 97, 119, 101, 114]⟩))) (.ag1 (.ls ⟨#[104, 111, 114, 110]⟩))) (.ag1 (.ls ⟨#[118, 97, 117, 108, 116]⟩))) (.ag1 (.ls ⟨#[114, 111, 98, 111, 116]⟩))) (.var 1)) 0) (.var 0)) (.rq (.cond [] (.inb (.put (.put (.put (.put (.put (.put (.put (.put (.nilS 3) (.ag1 (.li .i64 0))) (.ag1 (.li .i64 1))) (.ag1 (.li .i64 2))) (.ag1 (.li .i64 5))) (.ag1 (.li .i64 3))) (.ag1 (.li .i64 9))) (.ag1 (.li .i64 19))) (.ag1 (.li .i64 63))) (.var 1))) (.ret (.tp1 (.tp1 .tp0 (.cell (.row [(.int .i64)] (.put (.put (.put (.put (.put (.put (.put (.put (.nilS 3) (.ag1 (.li .i64 0))) (.ag1 (.li .i64 1))) (.ag1 (.li .i64 2))) (.ag1 (.li .i64 5))) (.ag1 (.li .i64 3))) (.ag1 (.li .i64 9))) (.ag1 (.li .i64 19))) (.ag1 (.li .i64 63))) (.var 1)) 0)) (.lb true)) [])) (.again 0 [(.ar .add .i64 (.var 1) (.li .i64 1))]))) (.ret (.tp1 (.tp1 .tp0 (.li .i64 0)) (.lb false)) [])))
theorem vc_spec_KindFace_ok : vcOf Tryz.prog tbl rbt 163 none = vc_spec_KindFace := by kernel_rfl
def ty_spec_KindFace : List VT := [tyS]
theorem ty_spec_KindFace_ok : tyOf Tryz.prog tbl 163 none = ty_spec_KindFace := by kernel_rfl
def vc_spec_MakePart : VC := (.ite (.ic .eql (.len (.var 0)) (.li .i64 0)) (.ret (.tp1 (.tp1 .tp0 (.cat (.ag1 (.ls ⟨#[]⟩)) (.cat (.ag1 (.lb false)) (.cat (.ag1 (.lb false)) (.cat (.ag1 (.nilS 123)) (.cat (.ag1 (.li .i64 0)) (.cat (.ag1 (.nilS 160)) .ag0))))))) (.cat (.ag1 (.li .i64 7)) (.cat (.ag1 (.li .i64 0)) (.cat (.ag1 (.ls ⟨#[]⟩)) (.cat (.ag1 (.li .i64 0)) (.cat (.ag1 (.li .i64 0)) .ag0)))))) []) (.rq (.cond [] (.inb (.var 0) (.li .i64 0))) (.rq (.callR 196 none [(.cell (.row [.str] (.var 0) (.li .i64 0)) 0)] (.tup [(.agg [.str, .bool, .bool, (.sl 123), (.int .i64), (.sl 160)]), (.c .bool)]) [] [(3, 2), (5, 2)]) (.ite (.no (.proj (.var 1) 1)) (.ret (.tp1 (.tp1 .tp0 (.cat (.ag1 (.ls ⟨#[]⟩)) (.cat (.ag1 (.lb false)) (.cat (.ag1 (.lb false)) (.cat (.ag1 (.nilS 123)) (.cat (.ag1 (.li .i64 0)) (.cat (.ag1 (.nilS 160)) .ag0))))))) (.cat (.ag1 (.li .i64 7)) (.cat (.ag1 (.li .i64 0)) (.cat (.ag1 (.ls ⟨#[]⟩)) (.cat (.ag1 (.li .i64 0)) (.cat (.ag1 (.li .i64 0)) .ag0)))))) []) (.rq (.cond [] (.inc (.var 0) (.li .i64 1) (.len (.var 0)))) (.loop [tyI, tyS, tyB, tyB, (.one (.c (.sl 123))), tyI, (.one (.c (.sl 160)))] [(.li .i64 0), (.cell (.proj (.var 1) 0) 0), (.cell (.proj (.var 1) 0) 1), (.cell (.proj (.var 1) 0) 2), (.cell (.proj (.var 1) 0) 3), (.cell (.proj (.var 1) 0) 4), (.cell (.proj (.var 1) 0) 5)] (.ite (.ic .lss (.var 2) (.len (.cut (.var 0) (.li .i64 1) (.len (.var 0))))) (.rq (.cond [] (.inb (.cut (.var 0) (.li .i64 1) (.len (.var 0))) (.var 2))) (.rq (.callR 197 none [(.cat (.ag1 (.var 3)) (.cat (.ag1 (.var 4)) (.cat (.ag1 (.var 5)) (.cat (.ag1 (.var 6)) (.cat (.ag1 (.var 7)) (.cat (.ag1 (.var 8)) .ag0)))))), (.cell (.row [.str] (.cut (.var 0) (.li .i64 1) (.len (.var 0))) (.var 2)) 0)] (.tup [(.agg [.str, .bool, .bool, (.sl 123), (.int .i64), (.sl 160)]), tyR]) [] [(3, 2), (5, 2)]) (.ite (.ic .neq (.cell (.proj (.var 9) 1) 0) (.li .i64 0)) (.ret (.tp1 (.tp1 .tp0 (.cat (.ag1 (.ls ⟨#[]⟩)) (.cat (.ag1 (.lb false)) (.cat (.ag1 (.lb false)) (.cat (.ag1 (.nilS 123)) (.cat (.ag1 (.li .i64 0)) (.cat (.ag1 (.nilS 160)) .ag0))))))) (.proj (.var 9) 1)) []) (.again 0 [(.ar .add .i64 (.var 2) (.li .i64 1)), (.cell (.proj (.var 9) 0) 0), (.cell (.proj (.var 9) 0) 1), (.cell (.proj (.var 9) 0) 2), (.cell (.proj (.var 9) 0) 3), (.cell (.proj (.var 9) 0) 4), (.cell (.proj (.var 9) 0) 5)])))) (.rq (.call [] 198 none [(.cat (.ag1 (.var 3)) (.cat (.ag1 (.var 4)) (.cat (.ag1 (.var 5)) (.cat (.ag1 (.var 6)) (.cat (.ag1 (.var 7)) (.cat (.ag1 (.var 8)) .ag0))))))] tyI []) (.ret (.tp1 (.tp1 .tp0 (.cat (.ag1 (.var 3)) (.cat (.ag1 (.var 4)) (.cat (.ag1 (.var 5)) (.cat (.ag1 (.var 6)) (.cat (.ag1 (.var 7)) (.cat (.ag1 (.var 8)) .ag0))))))) (.cat (.ag1 (.li .i64 0)) (.cat (.ag1 (.var 9)) (.cat (.ag1 (.ls ⟨#[]⟩)) (.cat (.ag1 (.li .i64 0)) (.cat (.ag1 (.li .i64 0)) .ag0)))))) [])))))))))
theorem vc_spec_MakePart_ok : vcOf Tryz.prog tbl rbt 167 none = vc_spec_MakePart := by kernel_rfl
def ty_spec_MakePart : List VT := [(.one (.c (.sl 9)))]
theorem ty_spec_MakePart_ok : tyOf Tryz.prog tbl 167 none = ty_spec_MakePart := by kernel_rfl
theorem rt_spec_MakePart_ok : rbt.get 167 = [(3, 2), (5, 2)] := by kernel_rfl
def vc_laws_toCellS : VC := (.rq (.cond [] (.an (.ic .leq (.li .i64 0) (.len (.var 0))) (.ic .leq (.len (.var 0)) (.li .i64 4294967296)))) (.loop [tyI, (.one (.c (.sl 123)))] [(.li .i64 0), (.rep 123 [.str, (.int .i64)] (.len (.var 0)))] (.ite (.ic .lss (.var 1) (.len (.var 0))) (.rq (.cond [] (.inb (.var 0) (.var 1))) (.rq (.call [] 200 none [(.row [.str, (.int .i64)] (.var 0) (.var 1))] (.one (.agg [.str, (.int .i64)])) []) (.rq (.cond [] (.inb (.mem (.len (.var 0))) (.var 1))) (.again 0 [(.ar .add .i64 (.var 1) (.li .i64 1)), (.upd (.var 2) (.var 1) (.var 3) 0)])))) (.ret (.var 2) []))))
theorem vc_laws_toCellS_ok : vcOf Tryz.prog tbl rbt 171 none = vc_laws_toCellS := by kernel_rfl
def ty_laws_toCellS : List VT := [(.one (.c (.sl 220)))]
theorem ty_laws_toCellS_ok : tyOf Tryz.prog tbl 171 none = ty_laws_toCellS := by kernel_rfl
theorem rt_laws_toCellS_ok : rbt.get 171 = [(0, 2)] := by kernel_rfl
def vc_impl_Wrap : VC := (.rq (.callR 215 none [(.var 0)] (.one (.agg [.str, .bool, .bool, (.sl 123), (.int .i64), (.sl 160)])) [] [(3, 2), (5, 2)]) (.rq (.call [] 138 none [(.var 1)] (.tup [(.c (.int .i64)), (.c (.int .i64)), (.c .bool)]) []) (.rq (.call [] 85 none [(.var 0)] tyB []) (.ite (.or (.no (.var 4)) (.no (.proj (.var 3) 2))) (.ret (.tp1 (.tp1 .tp0 (.var 2)) (.cat (.ag1 (.li .i64 7)) (.cat (.ag1 (.li .i64 0)) (.cat (.ag1 (.ls ⟨#[]⟩)) (.cat (.ag1 (.li .i64 0)) (.cat (.ag1 (.li .i64 0)) .ag0)))))) []) (.ite (.ic .geq (.len (.cell (.var 0) 5)) (.li .i64 3)) (.ret (.tp1 (.tp1 .tp0 (.var 2)) (.cat (.ag1 (.li .i64 5)) (.cat (.ag1 (.li .i64 0)) (.cat (.ag1 (.ls ⟨#[]⟩)) (.cat (.ag1 (.li .i64 0)) (.cat (.ag1 (.li .i64 0)) .ag0)))))) []) (.rq (.call [] 192 none [(.var 0)] tyI []) (.rq (.call [] 139 none [(.var 5), (.proj (.var 3) 0)] tyB []) (.ite (.no (.var 6)) (.rq (.call [] 192 none [(.var 0)] tyI []) (.ret (.tp1 (.tp1 .tp0 (.var 2)) (.cat (.ag1 (.li .i64 1)) (.cat (.ag1 (.li .i64 0)) (.cat (.ag1 (.ls ⟨#[]⟩)) (.cat (.ag1 (.proj (.var 3) 0)) (.cat (.ag1 (.var 7)) .ag0)))))) [])) (.rq (.cond [] (.few (.cell (.var 2) 5) (.put (.nilS 160) (.cat (.ag1 (.var 1)) (.cat (.ag1 (.li .i64 0)) .ag0))))) (.ret (.tp1 (.tp1 .tp0 (.cat (.ag1 (.cell (.var 2) 0)) (.cat (.ag1 (.cell (.var 2) 1)) (.cat (.ag1 (.cell (.var 2) 2)) (.cat (.ag1 (.cell (.var 2) 3)) (.cat (.ag1 (.cell (.var 2) 4)) (.cat (.ag1 (.app (.cell (.var 2) 5) (.put (.nilS 160) (.cat (.ag1 (.var 1)) (.cat (.ag1 (.li .i64 0)) .ag0))))) .ag0))))))) (.cat (.ag1 (.li .i64 0)) (.cat (.ag1 (.proj (.var 3) 1)) (.cat (.ag1 (.ls ⟨#[]⟩)) (.cat (.ag1 (.li .i64 0)) (.cat (.ag1 (.li .i64 0)) .ag0)))))) []))))))))))
theorem vc_impl_Wrap_ok : vcOf Tryz.prog tbl rbt 191 none = vc_impl_Wrap := by kernel_rfl
def ty_impl_Wrap : List VT := [(.one (.agg [.str, .bool, .bool, (.sl 123), (.int .i64), (.sl 160)])), tyS]
theorem ty_impl_Wrap_ok : tyOf Tryz.prog tbl 191 none = ty_impl_Wrap := by kernel_rfl
theorem rt_impl_Wrap_ok : rbt.get 191 = [(3, 2), (5, 2)] := by kernel_rfl
def vc_spec_Serves : VC := (.rq (.call [] 128 none [(.cell (.var 0) 1)] (.tup [(.c (.int .i64)), (.c .bool)]) []) (.rq (.call [] 107 none [(.var 0)] tyB []) (.rq (.call [((.var 3), true)] 157 none [(.var 1)] tyB []) (.rq (.call [((.an (.an (.var 3) (.var 4)) (.or (.sc .eql (.cell (.var 1) 1) (.ls ⟨#[]⟩)) (.sc .eql (.cell (.var 1) 1) (.cell (.var 0) 0)))), true)] 126 none [(.proj (.var 2) 0), (.cell (.var 1) 0)] tyB []) (.rq (.call [((.an (.an (.an (.var 3) (.var 4)) (.or (.sc .eql (.cell (.var 1) 1) (.ls ⟨#[]⟩)) (.sc .eql (.cell (.var 1) 1) (.cell (.var 0) 0)))) (.var 5)), true)] 217 none [(.sub (.var 0) 2 2), (.sub (.var 1) 2 2)] tyB []) (.ret (.an (.an (.an (.an (.var 3) (.var 4)) (.or (.sc .eql (.cell (.var 1) 1) (.ls ⟨#[]⟩)) (.sc .eql (.cell (.var 1) 1) (.cell (.var 0) 0)))) (.var 5)) (.var 6)) []))))))
theorem vc_spec_Serves_ok : vcOf Tryz.prog tbl rbt 195 none = vc_spec_Serves := by kernel_rfl
def ty_spec_Serves : List VT := [(.one (.agg [.str, (.sl 9), (.int .i64), (.int .i64), (.sl 91)])), (.one (.agg [(.int .i64), .str, (.int .i64), (.int .i64)]))]
theorem ty_spec_Serves_ok : tyOf Tryz.prog tbl 195 none = ty_spec_Serves := by kernel_rfl
def vc_spec_AbilityOfMethod : VC := (.loop [tyI] [(.li .i64 0)] (.ite (.ic .lss (.var 1) (.li .i64 6)) (.rq (.callR 220 none [(.var 1)] (.one (.c (.sl 9))) [] [(0, 1)]) (.rq (.call [] 27 none [(.var 2), (.var 0)] tyB []) (.ite (.var 3) (.ret (.var 1) []) (.again 0 [(.ar .add .i64 (.var 1) (.li .i64 1))])))) (.ret (.li .i64 (-1)) [])))
theorem vc_spec_AbilityOfMethod_ok : vcOf Tryz.prog tbl rbt 199 none = vc_spec_AbilityOfMethod := by kernel_rfl
def ty_spec_AbilityOfMethod : List VT := [tyS]
theorem ty_spec_AbilityOfMethod_ok : tyOf Tryz.prog tbl 199 none = ty_spec_AbilityOfMethod := by kernel_rfl
def vc_spec_Meets : VC := (.ret (.an (.ic .eql (.cell (.var 0) 0) (.cell (.var 1) 0)) (.ic .geq (.cell (.var 0) 1) (.cell (.var 1) 1))) [])
theorem vc_spec_Meets_ok : vcOf Tryz.prog tbl rbt 217 none = vc_spec_Meets := by kernel_rfl
def ty_spec_Meets : List VT := [(.one (.agg [(.int .i64), (.int .i64)])), (.one (.agg [(.int .i64), (.int .i64)]))]
theorem ty_spec_Meets_ok : tyOf Tryz.prog tbl 217 none = ty_spec_Meets := by kernel_rfl
def vc_impl_CompareVersions : VC := (.ite (.or (.ic .lss (.cell (.var 0) 0) (.cell (.var 1) 0)) (.an (.ic .eql (.cell (.var 0) 0) (.cell (.var 1) 0)) (.ic .lss (.cell (.var 0) 1) (.cell (.var 1) 1)))) (.ret (.li .i64 (-1)) []) (.ite (.ae (.var 0) (.var 1)) (.ret (.li .i64 0) []) (.ret (.li .i64 1) [])))
theorem vc_impl_CompareVersions_ok : vcOf Tryz.prog tbl rbt 221 none = vc_impl_CompareVersions := by kernel_rfl
def ty_impl_CompareVersions : List VT := [(.one (.agg [(.int .i64), (.int .i64)])), (.one (.agg [(.int .i64), (.int .i64)]))]
theorem ty_impl_CompareVersions_ok : tyOf Tryz.prog tbl 221 none = ty_impl_CompareVersions := by kernel_rfl
def vc_spec_l3Copy : VC := (.rq (.cond [] (.few (.nilS 123) (.cell (.var 0) 3))) (.ret (.cat (.ag1 (.cell (.var 0) 0)) (.cat (.ag1 (.cell (.var 0) 1)) (.cat (.ag1 (.cell (.var 0) 2)) (.cat (.ag1 (.app (.nilS 123) (.cell (.var 0) 3))) (.cat (.ag1 (.cell (.var 0) 4)) .ag0))))) []))
theorem vc_spec_l3Copy_ok : vcOf Tryz.prog tbl rbt 230 none = vc_spec_l3Copy := by kernel_rfl
def ty_spec_l3Copy : List VT := [(.one (.agg [.str, .bool, .bool, (.sl 123), (.int .i64)]))]
theorem ty_spec_l3Copy_ok : tyOf Tryz.prog tbl 230 none = ty_spec_l3Copy := by kernel_rfl
theorem rt_spec_l3Copy_ok : rbt.get 230 = [(3, 2)] := by kernel_rfl
end Go.Proofs.YtjmakbnblpjkhaaGreatDoor
/- From 'it ends so' to 'it ends with this': a condition that is met has an outcome. No program in sight. -/
namespace Go.Proofs.YtjmakbnblpjkhaaGreatDoor
open Go.RowKit
variable [GC]
section
open Classical
variable {P : Program} {tab : Nat → List CT} {T : D → List D → Prop}
abbrev Out := List D → D × List D
theorem VC.exact {r0 : D × List D} (hT : T r0.1 r0.2) : ∀ (V : VC) (env : List D) (L : List ((List D → Prop) × Out)), (∀ x ∈ L, ∀ ys, T (x.2 ys).1 (x.2 ys).2) → V.den P tab env T (L.map (·.1)) →
  ∃ r : D × List D, T r.1 r.2 ∧ V.den P tab env (fun d bs => d = r.1 ∧ bs = r.2) (L.map fun x => fun ys => x.1 ys ∧ x.2 ys = r)
 | .fail _, _, _, _, h => h.elim
 | .ret e bs, env, L, _, h => by
  simp only [VC.den] at h
  exact ⟨(e.den env, bs.map (fun x => x.den env)), h, ⟨rfl, rfl⟩⟩
 | .rq (.cond gs c) k, env, L, hL, ⟨h1, h2⟩ => by
  obtain ⟨r, q1, q2⟩ := VC.exact hT k env L hL h2
  exact ⟨r, q1, h1, q2⟩
 | .rq (.call gs f bx args vt nb) k, env, L, hL, ⟨d, cs, h1, h2, h3, h4⟩ => by
  obtain ⟨r, q1, q2⟩ := VC.exact hT k _ L hL h4
  exact ⟨r, q1, d, cs, h1, h2, h3, q2⟩
 | .rq (.callR f bx args vt nb rt) k, env, L, hL, ⟨d, cs, h1, h2, h3, h4⟩ => by
  obtain ⟨r, q1, q2⟩ := VC.exact hT k _ L hL h4
  exact ⟨r, q1, d, cs, h1, h2, h3, q2⟩
 | .rq (.callV gs e args vt) k, env, L, hL, ⟨d, h1, h3, h4⟩ => by
  obtain ⟨r, q1, q2⟩ := VC.exact hT k _ L hL h4
  exact ⟨r, q1, d, h1, h3, q2⟩
 | .rq (.glob g vt ix) k, env, L, hL, ⟨d, h1, h2, h3, h4⟩ => by
  obtain ⟨r, q1, q2⟩ := VC.exact hT k _ L hL h4
  exact ⟨r, q1, d, h1, h2, h3, q2⟩
 | .rq (.new f args nb) k, env, L, hL, ⟨cs, h2, h3, h4⟩ => by
  obtain ⟨r, q1, q2⟩ := VC.exact hT k _ L hL h4
  exact ⟨r, q1, cs, h2, h3, q2⟩
 | .ite c a b, env, L, hL, ⟨h1, h2⟩ => by
  cases hc : (c.den env).toB with
  | true =>
   obtain ⟨r, q1, q2⟩ := VC.exact hT a env L hL (h1 hc)
   exact ⟨r, q1, ⟨fun _ => q2, fun h => absurd (hc.symm.trans h) (by simp)⟩⟩
  | false =>
   obtain ⟨r, q1, q2⟩ := VC.exact hT b env L hL (h2 hc)
   exact ⟨r, q1, ⟨fun h => absurd (hc.symm.trans h) (by simp), fun _ => q2⟩⟩
 | .again d es, env, L, hL, h => by
  simp only [VC.den, List.getElem?_map] at h
  cases hd : L[d]? with
  | none => rw [hd] at h; exact h.elim
  | some x =>
   rw [hd] at h
   refine ⟨x.2 (es.map (·.den env)), hL x (List.mem_of_getElem? hd) _, ?_⟩
   simp only [VC.den, List.getElem?_map, hd]
   exact ⟨h, rfl⟩
 | .loop tys inits body, env, L, hL, ⟨I, μ, hI, hb⟩ => by
  let D1 (xs : List D) (o : Out) (r : D × List D) : Prop := T r.1 r.2 ∧ body.den P tab (env ++ xs) (fun d bs => d = r.1 ∧ bs = r.2) ((fun ys => (I ys ∧ μ ys < μ xs) ∧ o ys = r) :: L.map fun x => fun ys => x.1 ys ∧ x.2 ys = r)
  let G : (xs : List D) → ((ys : List D) → μ ys < μ xs → D × List D) → D × List D := fun xs rec =>
   if h : ∃ r, D1 xs (fun ys => if hy : μ ys < μ xs then rec ys hy else r0) r then h.choose else r0
  let o : Out := (measure μ).wf.fix G
  have ho : ∀ xs, o xs = if h : ∃ r, D1 xs (fun ys => if μ ys < μ xs then o ys else r0) r then h.choose else r0 := fun xs => by
   show (measure μ).wf.fix G xs = _
   rw [WellFounded.fix_eq]
   rfl
  have hoT : ∀ xs, T (o xs).1 (o xs).2 := fun xs => by
   rw [ho]
   split
   ·rename_i h; exact h.choose_spec.1
   ·exact hT
  have hbody : ∀ xs, HasTys tab tys xs → FitsL xs → I xs → body.den P tab (env ++ xs) (fun d bs => d = (o xs).1 ∧ bs = (o xs).2) ((fun ys => (I ys ∧ o ys = o xs) ∧ μ ys < μ xs) :: L.map fun x => fun ys => x.1 ys ∧ x.2 ys = o xs) := by
   intro xs h1 h2 h3
   have hex : ∃ r, D1 xs (fun ys => if μ ys < μ xs then o ys else r0) r := by
    refine VC.exact hT body (env ++ xs) ((fun ys => I ys ∧ μ ys < μ xs, fun ys => if μ ys < μ xs then o ys else r0) :: L) ?_ (hb xs h1 h2 h3)
    intro x hx ys
    rcases List.mem_cons.1 hx with rfl | hx
    ·simp only; split
     ·exact hoT ys
     ·exact hT
    ·exact hL x hx ys
   have hox : o xs = hex.choose := by rw [ho, dif_pos hex]
   have hs := hex.choose_spec.2
   rw [← hox] at hs
   have he : (fun ys => (I ys ∧ μ ys < μ xs) ∧ (if μ ys < μ xs then o ys else r0) = o xs) = (fun ys => (I ys ∧ o ys = o xs) ∧ μ ys < μ xs) := by
    funext ys
    apply propext
    by_cases hy : μ ys < μ xs <;> simp [hy]
   rw [he] at hs
   exact hs
  refine ⟨o (inits.map (·.den env)), hoT _, fun xs => I xs ∧ o xs = o (inits.map (·.den env)), μ, ⟨hI, rfl⟩, ?_⟩
  rintro xs h1 h2 ⟨h3, h4⟩
  have := hbody xs h1 h2 h3
  rw [h4] at this
  exact this
theorem FunR.ex {f : FuncId} {tb : TB} {rb : RB} {bx : Option (List CT)} {V : VC} {Γ : List VT} (hV : vcOf P tb rb f bx = V) (hok : V.ok = true) (hΓ : tyOf P tb f bx = Γ) (htb : tbOk P tb tb = true) (hm : P.follows .mixedOrders = true)
  {bc : Option (List D)} {ds : List D} {r0 : D × List D} (hT : T r0.1 r0.2) (hbc : bc.map List.length = bx.map List.length) (hty : HasTys tb.tab Γ (ds ++ bc.getD [])) (hbx' : bx = none → ∀ d bs, T d bs → bs = [])
  (hden : FitsL ds → FitsL (bc.getD []) → V.den P tb.tab (ds ++ bc.getD []) T []) : ∃ r : D × List D, T r.1 r.2 ∧ FunR P f bc ds r.1 r.2 (rb.get f) := by
 by_cases hf : FitsL ds ∧ FitsL (bc.getD [])
 ·obtain ⟨r, q1, q2⟩ := VC.exact hT V _ [] (by simp) (hden hf.1 hf.2)
  exact ⟨r, q1, FunR.of hV hok hΓ htb hm hbc hty (fun h => hbx' h _ _ q1) fun _ _ => q2⟩
 ·exact ⟨r0, hT, FunR.of hV hok hΓ htb hm hbc hty (fun h => hbx' h _ _ hT) fun h1 h2 => absurd ⟨h1, h2⟩ hf⟩
theorem Fun.ex {f : FuncId} {tb : TB} {rb : RB} {bx : Option (List CT)} {V : VC} {Γ : List VT} (hV : vcOf P tb rb f bx = V) (hok : V.ok = true) (hΓ : tyOf P tb f bx = Γ) (htb : tbOk P tb tb = true) (hm : P.follows .mixedOrders = true)
  {bc : Option (List D)} {ds : List D} {r0 : D × List D} (hT : T r0.1 r0.2) (hbc : bc.map List.length = bx.map List.length) (hty : HasTys tb.tab Γ (ds ++ bc.getD [])) (hbx' : bx = none → ∀ d bs, T d bs → bs = [])
  (hden : FitsL ds → FitsL (bc.getD []) → V.den P tb.tab (ds ++ bc.getD []) T []) : ∃ r : D × List D, T r.1 r.2 ∧ Fun P f bc ds r.1 r.2 := by
 obtain ⟨r, h1, h2⟩ := FunR.ex hV hok hΓ htb hm hT hbc hty hbx' hden
 exact ⟨r, h1, .ofR h2⟩
end
end Go.Proofs.YtjmakbnblpjkhaaGreatDoor
/- Contracts out of conditions, for the user: lists of data as lists of structures; loops; calls. -/
namespace Go.Proofs.YtjmakbnblpjkhaaGreatDoor
open Go.RowKit Go
variable [GC]
theorem cA : (∀ {α : Type} {a : α} {r s : List α}, (a :: r) ++ s = a :: (r ++ s)) ∧ (∀ {α : Type} (r : List α), [] ++ r = r) := ⟨by simp, by simp⟩
theorem gE : (∀ {α : Type} {a b : α} {l : List α}, a ∈ b :: l ↔ a = b ∨ a ∈ l) ∧ (∀ {α : Type} {a : α}, ¬ a ∈ ([] : List α)) ∧ (∀ (p : Prop), (p ∨ False) = p) ∧ (∀ {α : Type} {p : α → Prop} {q : α → Prop} {a : α}, (∀ x, x = a ∨ q x → p x) ↔ p a ∧ ∀ x, q x → p x) ∧ (∀ {α : Type} {p : α → Prop} {a : α}, (∀ x, x = a → p x) ↔ p a) := ⟨List.mem_cons, List.not_mem_nil, or_false, forall_eq_or_imp, forall_eq⟩
theorem mo : Tryz.prog.follows .mixedOrders = true := by kernel_rfl
theorem FunR.ofV {f : FuncId} {V : VC} {Γ : List VT} (hV : vcOf Tryz.prog tbl rbt f none = V) (hΓ : tyOf Tryz.prog tbl f none = Γ) {rt : List (Nat × Nat)} (hrt : rbt.get f = rt) (hok : V.ok = true) {ds : List D} {r : D}
  (hty : HasTys tbl.tab Γ ds) (hden : FitsL ds → V.den Tryz.prog tbl.tab ds (fun d bs => d = r ∧ bs = []) []) : FunR Tryz.prog f none ds r [] rt :=
 hrt ▸ FunR.of hV hok hΓ tbl_ok mo rfl (by simpa using hty) (fun _ => rfl) (fun h _ => by simpa using hden h)
theorem Fun.ofV {f : FuncId} {V : VC} {Γ : List VT} (hV : vcOf Tryz.prog tbl rbt f none = V) (hΓ : tyOf Tryz.prog tbl f none = Γ) (hok : V.ok = true) {ds : List D} {r : D}
  (hty : HasTys tbl.tab Γ ds) (hden : FitsL ds → V.den Tryz.prog tbl.tab ds (fun d bs => d = r ∧ bs = []) []) : Fun Tryz.prog f none ds r [] :=
 Fun.of hV hok hΓ tbl_ok mo rfl (by simpa using hty) (fun _ => rfl) (fun h _ => by simpa using hden h)
theorem Fun.of_calls {P : Program} {f : FuncId} {ds : List D} {r : D} (hf : callable P f = true)
  (h : ∀ (w : World) (M : Addr → Prop) (vs : List Value), (∀ p, M p → p.block < w.heap.size) → Rs w M ds vs → Calls P f vs.toArray w fun e w' => ∃ v, e = .returned v ∧ R w' M r v ∧ Below w.heap.size w w') : Fun P f none ds r [] :=
 ⟨hf, fun w M g vs hM hr _ => (h w M vs hM.1 hr).mono fun e w' ⟨v, h1, h2, h3⟩ => ⟨v, h1, h2, Fr.of_below h3 (Nat.le_refl _), fun h => by cases h⟩⟩
theorem Fun.of_callsG {P : Program} {f : FuncId} {ds : List D} {r : D} (hf : callable P f = true)
  (h : ∀ (w : World) (M : Addr → Prop) (vs : List Value), Rdy w M → Rs w M ds vs → Calls P f vs.toArray w fun e w' => ∃ v, e = .returned v ∧ R w' M r v ∧ Below w.heap.size w w') : Fun P f none ds r [] :=
 ⟨hf, fun w M g vs hM hr _ => (h w M vs hM hr).mono fun e w' ⟨v, h1, h2, h3⟩ => ⟨v, h1, h2, Fr.of_below h3 (Nat.le_refl _), fun h => by cases h⟩⟩
inductive AllImp : List (List D → Prop) → List (List D → Prop) → Prop
 | nil : AllImp [] []
 | cons {p q : List D → Prop} {L L' : List (List D → Prop)} (h : ∀ ys, p ys → q ys) (t : AllImp L L') : AllImp (p :: L) (q :: L')
theorem AllImp.refl : ∀ L, AllImp L L
 | [] => .nil
 | _ :: L => .cons (fun _ h => h) (AllImp.refl L)
theorem AllImp.get {L L' : List (List D → Prop)} (h : AllImp L L') : ∀ {d : Nat} {p : List D → Prop}, L[d]? = some p → ∃ q, L'[d]? = some q ∧ ∀ ys, p ys → q ys := by
 induction h with
 | nil => intro d p hp; simp at hp
 | cons h t ih =>
  intro d p hp
  cases d with
  | zero => simp at hp; subst hp; exact ⟨_, rfl, h⟩
  | succ d => simp at hp; simpa using ih hp
theorem VC.den_mono {P : Program} {tab : Nat → List CT} {Q Q' : D → List D → Prop} (hQ : ∀ d bs, Q d bs → Q' d bs) : ∀ (V : VC) (env : List D) {L L' : List (List D → Prop)}, AllImp L L' → V.den P tab env Q L → V.den P tab env Q' L'
 | .fail _, _, _, _, _, h => h.elim
 | .ret e bs, env, _, _, _, h => hQ _ _ h
 | .rq (.cond gs c) k, env, _, _, hL, ⟨h1, h2⟩ => ⟨h1, VC.den_mono hQ k env hL h2⟩
 | .rq (.call gs f bx args vt nb) k, env, _, _, hL, ⟨d, cs, h1, h2, h3, h4⟩ => ⟨d, cs, h1, h2, h3, VC.den_mono hQ k _ hL h4⟩
 | .rq (.callR f bx args vt nb rt) k, env, _, _, hL, ⟨d, cs, h1, h2, h3, h4⟩ => ⟨d, cs, h1, h2, h3, VC.den_mono hQ k _ hL h4⟩
 | .rq (.callV gs e args vt) k, env, _, _, hL, ⟨d, h1, h3, h4⟩ => ⟨d, h1, h3, VC.den_mono hQ k _ hL h4⟩
 | .rq (.glob g vt ix) k, env, _, _, hL, ⟨d, h1, h2, h3, h4⟩ => ⟨d, h1, h2, h3, VC.den_mono hQ k _ hL h4⟩
 | .rq (.new f args nb) k, env, _, _, hL, ⟨cs, h2, h3, h4⟩ => ⟨cs, h2, h3, VC.den_mono hQ k _ hL h4⟩
 | .ite c a b, env, _, _, hL, ⟨h1, h2⟩ => ⟨fun h => VC.den_mono hQ a env hL (h1 h), fun h => VC.den_mono hQ b env hL (h2 h)⟩
 | .loop tys inits body, env, _, _, hL, ⟨I, μ, h1, h2⟩ => ⟨I, μ, h1, fun xs q1 q2 q3 => VC.den_mono hQ body _ (.cons (fun _ h => h) hL) (h2 xs q1 q2 q3)⟩
 | .again d es, env, L, L', hL, h => by
  simp only [VC.den] at h ⊢
  cases hd : L[d]? with
  | none => rw [hd] at h; exact h.elim
  | some p =>
   rw [hd] at h
   obtain ⟨q, h1, h2⟩ := hL.get hd
   rw [h1]; exact h2 _ h
class Enc (α : Type) extends Inhabited α where
 cells : α → List D
def nth {α : Type} [Inhabited α] (l : List α) (k : Nat) : α := l.getD k default
def enc {α : Type} [Enc α] (x : α) : D := .agg (Enc.cells x)
def encS {α : Type} [Enc α] (l : List α) : D := .sl (l.map Enc.cells)
theorem row_enc {α : Type} [Enc α] (l : List α) (k : Nat) {z : List D} (h : Enc.cells (default : α) = z) : D.agg (((l.map Enc.cells)[k]?).getD z) = enc (nth l k) := by
 unfold enc nth
 rw [List.getD_eq_getElem?_getD, List.getElem?_map]
 cases l[k]? <;> simp [h]
@[simp] theorem encS_toR {α : Type} [Enc α] (l : List α) : (encS l).toR = l.map Enc.cells := rfl
@[simp] theorem encS_len {α : Type} [Enc α] (l : List α) : lenD (encS l) = l.length := by simp [encS, lenD]
@[simp] theorem enc_toA {α : Type} [Enc α] (x : α) : (enc x).toA = Enc.cells x := rfl
theorem lenD_sl (r : List (List D)) : lenD (.sl r) = r.length := rfl
theorem lenD_mem (n : Nat) : lenD (.mem n) = n := rfl
theorem den_loop {P : Program} {tab : Nat → List CT} {env : List D} {Q : D → List D → Prop} {L : List (List D → Prop)} {tys : List VT} {inits : List E} {body : VC}
  (St : Type) (e : St → List D) (I : St → Prop) (μ : St → Nat) (s0 : St) (hμ : ∀ s s', e s = e s' → μ s = μ s') (h0 : inits.map (·.den env) = e s0) (hI : I s0)
  (hs : ∀ s, I s → FitsL (e s) → body.den P tab (env ++ e s) Q ((fun ys => ∃ s', ys = e s' ∧ I s' ∧ μ s' < μ s) :: L)) : (VC.loop tys inits body).den P tab env Q L := by
 classical
 let m : List D → Nat := fun xs => if h : ∃ s, xs = e s then μ h.choose else 0
 have hm : ∀ s, m (e s) = μ s := by
  intro s
  have hx : ∃ s', e s = e s' := ⟨s, rfl⟩
  show (if h : ∃ s', e s = e s' then μ h.choose else 0) = μ s
  rw [dif_pos hx]
  exact (hμ _ _ hx.choose_spec).symm
 refine ⟨fun xs => ∃ s, xs = e s ∧ I s, m, ⟨s0, h0, hI⟩, ?_⟩
 rintro xs _ hf ⟨s, rfl, hIs⟩
 have := hs s hIs hf
 have he : (fun ys => (∃ s, ys = e s ∧ I s) ∧ m ys < m (e s)) = (fun ys => ∃ s', ys = e s' ∧ I s' ∧ μ s' < μ s) := by
  funext ys
  apply propext
  constructor
  ·rintro ⟨⟨s', rfl, h⟩, h2⟩; exact ⟨s', rfl, h, by rwa [hm, hm] at h2⟩
  ·rintro ⟨s', rfl, h, h2⟩; exact ⟨⟨s', rfl, h⟩, by rwa [hm, hm]⟩
 rw [he]
 exact this
theorem wrap_i64 {n : Int} (h1 : -9223372036854775808 ≤ n) (h2 : n ≤ 9223372036854775807) : IntKind.i64.wrap n = n := by
 simp only [IntKind.wrap, IntKind.bits, IntKind.signed]
 simp
 omega
theorem den_call {P : Program} {tab : Nat → List CT} {env : List D} {Q : D → List D → Prop} {L : List (List D → Prop)} {gs : Gd} {f : FuncId} {args : List E} {vt : VT} {k : VC} {r : D} {xs : List D}
  (ha : args.map (·.den env) = xs) (hc : Fun P f none xs r []) (hty : HasVT tab vt r) (hk : k.den P tab (env ++ [r]) Q L) : (VC.rq (.call gs f none args vt []) k).den P tab env Q L :=
 ⟨r, [], hty, trivial, fun _ => ha ▸ hc, hk⟩
theorem den_callR {P : Program} {tab : Nat → List CT} {env : List D} {Q : D → List D → Prop} {L : List (List D → Prop)} {f : FuncId} {args : List E} {vt : VT} {rt : List (Nat × Nat)} {k : VC} {r : D} {xs : List D}
  (ha : args.map (·.den env) = xs) (hc : FunR P f none xs r [] rt) (hty : HasVT tab vt r) (hk : k.den P tab (env ++ [r]) Q L) : (VC.rq (.callR f none args vt [] rt) k).den P tab env Q L :=
 ⟨r, [], hty, trivial, ha ▸ hc, hk⟩
theorem den_callg {P : Program} {tab : Nat → List CT} {env : List D} {Q : D → List D → Prop} {L : List (List D → Prop)} {gs : Gd} {f : FuncId} {args : List E} {vt : VT} {k : VC} {r : D} {xs : List D}
  (ha : args.map (·.den env) = xs) (hc : gsH env gs → Fun P f none xs r []) (hty : HasVT tab vt r) (hk : k.den P tab (env ++ [r]) Q L) : (VC.rq (.call gs f none args vt []) k).den P tab env Q L :=
 ⟨r, [], hty, trivial, fun h => ha ▸ hc h, hk⟩
theorem den_cond {P : Program} {tab : Nat → List CT} {env : List D} {Q : D → List D → Prop} {L : List (List D → Prop)} {gs : Gd} {c : E} {k : VC}
  (h : gsH env gs → c.den env = .bool true) (hk : k.den P tab env Q L) : (VC.rq (.cond gs c) k).den P tab env Q L := ⟨h, hk⟩
theorem den_ite {P : Program} {tab : Nat → List CT} {env : List D} {Q : D → List D → Prop} {L : List (List D → Prop)} {c : E} {a b : VC}
  (h1 : (c.den env).toB = true → a.den P tab env Q L) (h2 : (c.den env).toB = false → b.den P tab env Q L) : (VC.ite c a b).den P tab env Q L := ⟨h1, h2⟩
theorem den_ret {P : Program} {tab : Nat → List CT} {env : List D} {L : List (List D → Prop)} {e : E} {r : D} (h : e.den env = r) : (VC.ret e []).den P tab env (fun d bs => d = r ∧ bs = []) L := ⟨h, rfl⟩
theorem den_again {P : Program} {tab : Nat → List CT} {env : List D} {Q : D → List D → Prop} {L : List (List D → Prop)} {es : List E} {St : Type} {e : St → List D} {I : St → Prop} {μ : St → Nat} {m : Nat} (s' : St)
  (h : es.map (·.den env) = e s') (hI : I s') (hm : μ s' < m) : (VC.again 0 es).den P tab env Q ((fun ys => ∃ s', ys = e s' ∧ I s' ∧ μ s' < m) :: L) := ⟨s', h, hI, hm⟩
theorem Fun.exV {f : FuncId} {V : VC} {Γ : List VT} {ds : List D} {T : D → Prop} (hV : vcOf Tryz.prog tbl rbt f none = V) (hok : V.ok = true) (hΓ : tyOf Tryz.prog tbl f none = Γ) (hty : HasTys tbl.tab Γ ds) (r0 : D) (hT : T r0)
  (hden : FitsL ds → V.den Tryz.prog tbl.tab ds (fun d bs => T d ∧ bs = []) []) : ∃ r, T r ∧ Fun Tryz.prog f none ds r [] := by
 obtain ⟨⟨r, bs⟩, ⟨q1, q2⟩, q3⟩ := Fun.ex (T := fun d bs => T d ∧ bs = []) (r0 := (r0, [])) hV hok hΓ tbl_ok mo ⟨hT, rfl⟩ (bc := none) rfl (by simpa using hty) (fun _ d bs h => h.2) (fun h _ => by simpa using hden h)
 simp only at q2; subst q2
 exact ⟨r, q1, q3⟩
theorem den_callE {P : Program} {tab : Nat → List CT} {env : List D} {Q : D → List D → Prop} {L : List (List D → Prop)} {gs : Gd} {f : FuncId} {args : List E} {vt : VT} {k : VC} {T : D → Prop} {xs : List D}
  (ha : args.map (·.den env) = xs) (hc : ∃ r, T r ∧ Fun P f none xs r []) (hty : ∀ r, T r → HasVT tab vt r) (hk : ∀ r, T r → k.den P tab (env ++ [r]) Q L) : (VC.rq (.call gs f none args vt []) k).den P tab env Q L := by
 obtain ⟨r, h1, h2⟩ := hc
 exact ⟨r, [], hty r h1, trivial, fun _ => ha ▸ h2, hk r h1⟩
theorem exR {f : FuncId} {xs : List D} {T : D → Prop} {rt : List (Nat × Nat)} (h : ∃ r, T r ∧ FunR Tryz.prog f none xs r [] rt) : ∃ r, T r ∧ Fun Tryz.prog f none xs r [] := by
 obtain ⟨r, h1, h2⟩ := h
 exact ⟨r, h1, .ofR h2⟩
theorem den_callRE {P : Program} {tab : Nat → List CT} {env : List D} {Q : D → List D → Prop} {L : List (List D → Prop)} {f : FuncId} {args : List E} {vt : VT} {rt : List (Nat × Nat)} {k : VC} {T : D → Prop} {xs : List D}
  (ha : args.map (·.den env) = xs) (hc : ∃ r, T r ∧ FunR P f none xs r [] rt) (hty : ∀ r, T r → HasVT tab vt r) (hk : ∀ r, T r → k.den P tab (env ++ [r]) Q L) : (VC.rq (.callR f none args vt [] rt) k).den P tab env Q L := by
 obtain ⟨r, h1, h2⟩ := hc
 exact ⟨r, [], hty r h1, trivial, ha ▸ h2, hk r h1⟩
theorem den_for {P : Program} {tab : Nat → List CT} {env : List D} {Q : D → List D → Prop} {L : List (List D → Prop)} {tys : List VT} {inits : List E} {body : VC}
  (n : Nat) (st : Nat → List D) (I : Nat → Prop) (h0 : inits.map (·.den env) = st 0) (hI : I 0)
  (hs : ∀ k, k ≤ n → I k → FitsL (st k) → body.den P tab (env ++ st k) Q ((fun ys => k < n ∧ ys = st (k + 1) ∧ I (k + 1)) :: L)) : (VC.loop tys inits body).den P tab env Q L := by
 classical
 let last : List D → Nat → Nat := fun xs m => Nat.rec 0 (fun j r => if xs = st (j + 1) ∧ I (j + 1) then j + 1 else r) m
 have last_le : ∀ xs m, last xs m ≤ m := by
  intro xs m
  induction m with
  | zero => exact Nat.le_refl _
  | succ m ih =>
   show (if xs = st (m + 1) ∧ I (m + 1) then m + 1 else last xs m) ≤ m + 1
   split <;> omega
 have last_ge : ∀ xs m k, k ≤ m → xs = st k → I k → k ≤ last xs m := by
  intro xs m
  induction m with
  | zero => intro k hk _ _; omega
  | succ m ih =>
   intro k hk hx hi
   show k ≤ (if xs = st (m + 1) ∧ I (m + 1) then m + 1 else last xs m)
   by_cases h : k = m + 1
   ·subst h; rw [if_pos ⟨hx, hi⟩]; exact Nat.le_refl _
   ·have := ih k (by omega) hx hi
    split <;> omega
 have last_is : ∀ xs m k, k ≤ m → xs = st k → I k → xs = st (last xs m) ∧ I (last xs m) := by
  intro xs m
  induction m with
  | zero =>
   intro k hk hx hi
   have : k = 0 := by omega
   subst this; exact ⟨hx, hi⟩
  | succ m ih =>
   intro k hk hx hi
   show xs = st (if xs = st (m + 1) ∧ I (m + 1) then m + 1 else last xs m) ∧ I (if xs = st (m + 1) ∧ I (m + 1) then m + 1 else last xs m)
   by_cases h : xs = st (m + 1) ∧ I (m + 1)
   ·rw [if_pos h]; exact h
   ·rw [if_neg h]
    refine ih k ?_ hx hi
    rcases Nat.lt_or_ge k (m + 1) with hlt | hge
    ·omega
    ·have : k = m + 1 := by omega
     subst this; exact absurd ⟨hx, hi⟩ h
 refine ⟨fun xs => ∃ k, k ≤ n ∧ xs = st k ∧ I k, fun xs => n - last xs n, ⟨0, Nat.zero_le _, h0, hI⟩, ?_⟩
 rintro xs _ hf ⟨k, hk, hx, hi⟩
 obtain ⟨h1, h2⟩ := last_is xs n k hk hx hi
 have h3 := last_le xs n
 generalize hj : last xs n = j at *
 subst h1
 have := hs j h3 h2 hf
 refine VC.den_mono (fun _ _ h => h) _ _ ?_ this
 refine .cons (fun ys hys => ?_) (.refl _)
 obtain ⟨q1, q2, q3⟩ := hys
 refine ⟨⟨j + 1, by omega, q2, q3⟩, ?_⟩
 have := last_ge ys n (j + 1) (by omega) q2 q3
 show n - last ys n < n - last (st j) n
 rw [hj]; omega
theorem den_next {P : Program} {tab : Nat → List CT} {env : List D} {Q : D → List D → Prop} {L : List (List D → Prop)} {es : List E} {xs : List D} {p q : Prop}
  (hp : p) (h : es.map (·.den env) = xs) (hq : q) : (VC.again 0 es).den P tab env Q ((fun ys => p ∧ ys = xs ∧ q) :: L) := ⟨hp, h, hq⟩
def ix (k : Nat) : List D := [.int .i64 k]
theorem ar_add {x y : Int} (h1 : -9223372036854775808 ≤ x + y) (h2 : x + y ≤ 9223372036854775807) : arI .add .i64 x y = x + y := wrap_i64 h1 h2
theorem ar_sub {x y : Int} (h1 : -9223372036854775808 ≤ x - y) (h2 : x - y ≤ 9223372036854775807) : arI .sub .i64 x y = x - y := wrap_i64 h1 h2
theorem rowsTy_map {α : Type} [Enc α] {tab : Nat → List CT} {ts : List CT} (h : ∀ x : α, RowTy tab ts (Enc.cells x)) (l : List α) : RowsTy tab ts (l.map Enc.cells) :=
 RowsTy.of (by intro r hr; obtain ⟨x, _, rfl⟩ := List.mem_map.1 hr; exact h x)
theorem fits_encS {α : Type} [Enc α] {l : List α} (h : Fits (encS l)) : l.length ≤ maxLen := by
 unfold encS Fits at h; simpa using h.1
theorem cmpI_lss (x y : Int) : cmpI .lss x y = decide (x < y) := rfl
theorem cmpI_leq (x y : Int) : cmpI .leq x y = decide (x ≤ y) := rfl
theorem cmpI_gtr (x y : Int) : cmpI .gtr x y = decide (x > y) := rfl
theorem cmpI_geq (x y : Int) : cmpI .geq x y = decide (x ≥ y) := rfl
theorem cmpI_eql (x y : Int) : cmpI .eql x y = (x == y) := rfl
theorem cmpI_neq (x y : Int) : cmpI .neq x y = (x != y) := rfl
theorem dEq : (∀ {α β : Type} {f : α → β} {a : α} {l : List α}, List.map f (a :: l) = f a :: List.map f l) ∧ (∀ {α β : Type} {f : α → β}, List.map f [] = []) ∧ (∀ {α β : Type} (f : α → β), Option.map f none = none) ∧ (∀ {α β : Type} (a : α) (f : α → β), Option.map f (some a) = some (f a)) ∧
  (∀ {α : Type} {x : α} {xs : List α} {d : α}, (x :: xs).getD 0 d = x) ∧ (∀ {α : Type} {x : α} {xs : List α} {n : Nat} {d : α}, (x :: xs).getD (n + 1) d = xs.getD n d) ∧ (∀ {α : Type} {a : α} {r s : List α}, (a :: r) ++ s = a :: (r ++ s)) ∧ (∀ {α : Type} (r : List α), [] ++ r = r) ∧ (∀ {α : Type} (r : List α), r ++ [] = r) ∧
  (∀ {α : Type} {a : α} {l : List α} {i : Nat}, (a :: l).drop (i + 1) = l.drop i) ∧ (∀ {α : Type} {l : List α}, l.drop 0 = l) ∧ (∀ {α : Type} {a : α} {l : List α} {i : Nat}, (a :: l).take (i + 1) = a :: l.take i) ∧ (∀ {α : Type} {l : List α}, l.take 0 = []) ∧
  (∀ (k : IntKind) (n : Int), (D.int k n).toI = n) ∧ (∀ b : Bool, (D.bool b).toB = b) ∧ (∀ s : ByteArray, (D.str s).toS = s) ∧ (∀ l : List D, (D.agg l).toA = l) ∧ (∀ l : List D, (D.tup l).toT = l) ∧ (∀ l : List (List D), (D.sl l).toR = l) ∧
  (∀ {α : Type} [Enc α] (x : α), (enc x).toA = Enc.cells x) ∧ (∀ {α : Type} [Enc α] (l : List α), (encS l).toR = l.map Enc.cells) ∧ (∀ {α : Type} [Enc α] (l : List α), lenD (encS l) = l.length) :=
 ⟨by simp, by simp, by simp, by simp, by simp, by simp, by simp, by simp, by simp, by simp, by simp, by simp, by simp, by simp, by simp, by simp, by simp, by simp, by simp, by simp, by simp, by simp⟩
theorem iEq : (∀ x y : Int, cmpI .lss x y = decide (x < y)) ∧ (∀ x y : Int, cmpI .leq x y = decide (x ≤ y)) ∧ (∀ x y : Int, cmpI .gtr x y = decide (x > y)) ∧ (∀ x y : Int, cmpI .geq x y = decide (x ≥ y)) ∧ (∀ x y : Int, cmpI .eql x y = (x == y)) ∧ (∀ x y : Int, cmpI .neq x y = (x != y)) ∧ (∀ n : Nat, (n : Int).toNat = n) ∧ (0 : Int).toNat = 0 :=
 ⟨cmpI_lss, cmpI_leq, cmpI_gtr, cmpI_geq, cmpI_eql, cmpI_neq, Int.toNat_natCast, rfl⟩
end Go.Proofs.YtjmakbnblpjkhaaGreatDoor
