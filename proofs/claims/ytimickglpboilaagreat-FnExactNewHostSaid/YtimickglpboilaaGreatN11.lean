/- Conditions of functions of this seat's program. Written by fun.py. -/
import Derived.Test.YtimickglpboilaaGreatN9
import Derived.Test.YtimickglpboilaaGreatN10
import Derived.Test.YtimickglpboilaaGreatN0
set_option linter.unusedVariables false
set_option linter.unusedSimpArgs false
set_option linter.unusedSectionVars false
set_option maxRecDepth 100000
namespace Go.Proofs.YtimickglpboilaaGreat
open Go
set_option maxRecDepth 1000000
def vc_spec_NewHost : VC := (.rq (.call [] 14 none [(.var 0)] tyB []) (.rq (.call [((.no (.var 1)), false)] 15 none [(.var 0)] (.one (.c (.sl 9))) []) (.ite (.or (.no (.var 1)) (.ic .gtr (.len (.var 2)) (.li .i64 0))) (.ret (.tp1 (.tp1 .tp0 (.cat (.ag1 (.nilS 50)) (.cat (.ag1 (.nilS 56)) (.cat (.ag1 (.nilS 9)) (.cat (.ag1 (.nilS 9)) (.cat (.ag1 (.nilS 99)) .ag0)))))) (.lb false)) []) (.rq (.callR 16 none [(.var 0)] (.one (.c (.sl 50))) [] [(0, 5)]) (.loop [tyI, (.one (.c (.sl 50))), (.one (.c (.sl 56))), (.one (.c (.sl 9))), (.one (.c (.sl 9))), (.one (.c (.sl 99)))] [(.li .i64 0), (.cell (.cat (.ag1 (.var 3)) (.cat (.ag1 (.nilS 56)) (.cat (.ag1 (.nilS 9)) (.cat (.ag1 (.nilS 9)) (.cat (.ag1 (.nilS 99)) .ag0))))) 0), (.cell (.cat (.ag1 (.var 3)) (.cat (.ag1 (.nilS 56)) (.cat (.ag1 (.nilS 9)) (.cat (.ag1 (.nilS 9)) (.cat (.ag1 (.nilS 99)) .ag0))))) 1), (.cell (.cat (.ag1 (.var 3)) (.cat (.ag1 (.nilS 56)) (.cat (.ag1 (.nilS 9)) (.cat (.ag1 (.nilS 9)) (.cat (.ag1 (.nilS 99)) .ag0))))) 2), (.cell (.cat (.ag1 (.var 3)) (.cat (.ag1 (.nilS 56)) (.cat (.ag1 (.nilS 9)) (.cat (.ag1 (.nilS 9)) (.cat (.ag1 (.nilS 99)) .ag0))))) 3), (.cell (.cat (.ag1 (.var 3)) (.cat (.ag1 (.nilS 56)) (.cat (.ag1 (.nilS 9)) (.cat (.ag1 (.nilS 9)) (.cat (.ag1 (.nilS 99)) .ag0))))) 4)] (.ite (.ic .lss (.var 4) (.len (.var 0))) (.rq (.cond [] (.inb (.var 0) (.var 4))) (.rq (.callR 17 none [(.cell (.row [.str, (.sl 9), (.int .i64), (.int .i64), (.sl 104)] (.var 0) (.var 4)) 1)] (.tup [(.agg [.str, .bool, .bool, (.sl 135), (.int .i64), (.sl 126)]), tyR]) [] [(3, 2), (5, 2)]) (.rq (.cond [] (.few (.var 6) (.put (.nilS 56) (.proj (.var 10) 0)))) (.again 0 [(.ar .add .i64 (.var 4) (.li .i64 1)), (.var 5), (.app (.var 6) (.put (.nilS 56) (.proj (.var 10) 0))), (.var 7), (.var 8), (.var 9)])))) (.ret (.tp1 (.tp1 .tp0 (.cat (.ag1 (.var 5)) (.cat (.ag1 (.var 6)) (.cat (.ag1 (.var 7)) (.cat (.ag1 (.var 8)) (.cat (.ag1 (.var 9)) .ag0)))))) (.lb true)) [])))))))
theorem vc_spec_NewHost_ok : vcOf Tryz.prog tbl rbt 5 none = vc_spec_NewHost := by kernel_rfl
def ty_spec_NewHost : List VT := [(.one (.c (.sl 50)))]
theorem ty_spec_NewHost_ok : tyOf Tryz.prog tbl 5 none = ty_spec_NewHost := by kernel_rfl
theorem rt_spec_NewHost_ok : rbt.get 5 = [(0, 5), (1, 6), (2, 1), (3, 1), (4, 7)] := by kernel_rfl
def vc_spec_StuckOf : VC := (.rq (.call [] 14 none [(.var 0)] tyB []) (.ite (.no (.var 1)) (.ret (.nilS 9) []) (.rq (.callR 39 none [(.var 0)] (.one (.c (.sl 117))) [] [(0, 3)]) (.rq (.callR 40 none [(.var 0)] (.one (.c (.sl 9))) [] [(0, 1)]) (.loop [(.one (.c (.sl 9))), tyI] [(.var 3), (.li .i64 0)] (.ite (.ic .lss (.var 5) (.len (.var 0))) (.rq (.cond [] (.inb (.var 0) (.var 5))) (.rq (.callR 42 none [(.var 2), (.cell (.row [.str, (.sl 9), (.int .i64), (.int .i64), (.sl 104)] (.var 0) (.var 5)) 0), (.lb false)] (.one (.c (.sl 9))) [] [(0, 1)]) (.rq (.call [] 41 none [(.var 6), (.cell (.row [.str, (.sl 9), (.int .i64), (.int .i64), (.sl 104)] (.var 0) (.var 5)) 0)] tyB []) (.ite (.var 7) (.rq (.callR 43 none [(.var 4), (.cell (.row [.str, (.sl 9), (.int .i64), (.int .i64), (.sl 104)] (.var 0) (.var 5)) 0)] (.one (.c (.sl 9))) [] [(0, 1)]) (.again 0 [(.var 8), (.ar .add .i64 (.var 5) (.li .i64 1))])) (.again 0 [(.var 4), (.ar .add .i64 (.var 5) (.li .i64 1))]))))) (.loop [(.one (.c (.sl 9))), tyI] [(.nilS 9), (.li .i64 0)] (.ite (.ic .lss (.var 7) (.len (.var 0))) (.rq (.cond [] (.inb (.var 0) (.var 7))) (.rq (.call [] 41 none [(.var 4), (.cell (.row [.str, (.sl 9), (.int .i64), (.int .i64), (.sl 104)] (.var 0) (.var 7)) 0)] tyB []) (.rq (.callR 42 none [(.var 2), (.cell (.row [.str, (.sl 9), (.int .i64), (.int .i64), (.sl 104)] (.var 0) (.var 7)) 0), (.lb false)] (.one (.c (.sl 9))) [] [(0, 1)]) (.loop [tyB, tyI] [(.var 8), (.li .i64 0)] (.ite (.ic .lss (.var 11) (.len (.var 9))) (.rq (.cond [] (.inb (.var 9) (.var 11))) (.rq (.call [((.var 10), false)] 41 none [(.var 4), (.cell (.row [.str] (.var 9) (.var 11)) 0)] tyB []) (.again 0 [(.or (.var 10) (.var 12)), (.ar .add .i64 (.var 11) (.li .i64 1))]))) (.ite (.var 10) (.rq (.cond [] (.few (.var 6) (.put (.nilS 9) (.ag1 (.cell (.row [.str, (.sl 9), (.int .i64), (.int .i64), (.sl 104)] (.var 0) (.var 7)) 0))))) (.again 1 [(.app (.var 6) (.put (.nilS 9) (.ag1 (.cell (.row [.str, (.sl 9), (.int .i64), (.int .i64), (.sl 104)] (.var 0) (.var 7)) 0)))), (.ar .add .i64 (.var 7) (.li .i64 1))])) (.again 1 [(.var 6), (.ar .add .i64 (.var 7) (.li .i64 1))]))))))) (.ret (.var 6) [])))))))))
theorem vc_spec_StuckOf_ok : vcOf Tryz.prog tbl rbt 15 none = vc_spec_StuckOf := by kernel_rfl
def ty_spec_StuckOf : List VT := [(.one (.c (.sl 50)))]
theorem ty_spec_StuckOf_ok : tyOf Tryz.prog tbl 15 none = ty_spec_StuckOf := by kernel_rfl
theorem rt_spec_StuckOf_ok : rbt.get 15 = [(0, 1)] := by kernel_rfl
def vc_impl_IsRegistry : VC := (.ite (.ic .gtr (.len (.var 0)) (.li .i64 6)) (.ret (.lb false) []) (.loop [tyI] [(.li .i64 0)] (.ite (.ic .lss (.var 1) (.len (.var 0))) (.rq (.cond [] (.inb (.var 0) (.var 1))) (.rq (.call [] 51 none [(.row [.str, (.sl 9), (.int .i64), (.int .i64), (.sl 104)] (.var 0) (.var 1))] tyB []) (.rq (.cond [((.no (.var 2)), false), ((.ic .gtr (.var 1) (.li .i64 0)), true)] (.inb (.var 0) (.ar .sub .i64 (.var 1) (.li .i64 1)))) (.ite (.or (.no (.var 2)) (.an (.ic .gtr (.var 1) (.li .i64 0)) (.sc .geq (.cell (.row [.str, (.sl 9), (.int .i64), (.int .i64), (.sl 104)] (.var 0) (.ar .sub .i64 (.var 1) (.li .i64 1))) 0) (.cell (.row [.str, (.sl 9), (.int .i64), (.int .i64), (.sl 104)] (.var 0) (.var 1)) 0)))) (.ret (.lb false) []) (.again 0 [(.ar .add .i64 (.var 1) (.li .i64 1))]))))) (.ret (.lb true) []))))
theorem vc_impl_IsRegistry_ok : vcOf Tryz.prog tbl rbt 19 none = vc_impl_IsRegistry := by kernel_rfl
def ty_impl_IsRegistry : List VT := [(.one (.c (.sl 50)))]
theorem ty_impl_IsRegistry_ok : tyOf Tryz.prog tbl 19 none = ty_impl_IsRegistry := by kernel_rfl
def vc_laws_eqPartS : VC := (.ite (.ic .neq (.len (.var 0)) (.len (.var 1))) (.ret (.lb false) []) (.loop [tyI] [(.li .i64 0)] (.ite (.ic .lss (.var 2) (.len (.var 0))) (.rq (.cond [] (.inb (.var 0) (.var 2))) (.rq (.cond [] (.inb (.var 1) (.var 2))) (.rq (.call [] 60 none [(.row [.str, .bool, .bool, (.sl 135), (.int .i64), (.sl 126)] (.var 0) (.var 2)), (.row [.str, .bool, .bool, (.sl 135), (.int .i64), (.sl 126)] (.var 1) (.var 2))] tyB []) (.ite (.no (.var 3)) (.ret (.lb false) []) (.again 0 [(.ar .add .i64 (.var 2) (.li .i64 1))]))))) (.ret (.lb true) []))))
theorem vc_laws_eqPartS_ok : vcOf Tryz.prog tbl rbt 23 none = vc_laws_eqPartS := by kernel_rfl
def ty_laws_eqPartS : List VT := [(.one (.c (.sl 56))), (.one (.c (.sl 56)))]
theorem ty_laws_eqPartS_ok : tyOf Tryz.prog tbl 23 none = ty_laws_eqPartS := by kernel_rfl
def vc_laws_markText : VC := (.ite (.ic .leq (.var 0) (.li .i64 0)) (.ret (.ls ⟨#[109, 48]⟩) []) (.loop [tyS, tyI] [(.ls ⟨#[]⟩), (.var 0)] (.ite (.ic .gtr (.var 2) (.li .i64 0)) (.rq (.cond [] (.ic .neq (.li .i64 10) (.li .i64 0))) (.rq (.cond [] (.sok (.bstr (.put (.nilS 5) (.ag1 (.conv .u8 (.ar .add .i64 (.li .i64 48) (.ar .rem .i64 (.var 2) (.li .i64 10))))))) (.var 1))) (.rq (.cond [] (.ic .neq (.li .i64 10) (.li .i64 0))) (.again 0 [(.scat (.bstr (.put (.nilS 5) (.ag1 (.conv .u8 (.ar .add .i64 (.li .i64 48) (.ar .rem .i64 (.var 2) (.li .i64 10))))))) (.var 1)), (.ar .quo .i64 (.var 2) (.li .i64 10))])))) (.rq (.cond [] (.sok (.ls ⟨#[109]⟩) (.var 1))) (.ret (.scat (.ls ⟨#[109]⟩) (.var 1)) [])))))
theorem vc_laws_markText_ok : vcOf Tryz.prog tbl rbt 27 none = vc_laws_markText := by kernel_rfl
def ty_laws_markText : List VT := [tyI]
theorem ty_laws_markText_ok : tyOf Tryz.prog tbl 27 none = ty_laws_markText := by kernel_rfl
def vc_laws_heldEventS : VC := (.loop [tyI, tyI] [(.var 1), (.li .i64 0)] (.ite (.ic .lss (.var 3) (.len (.var 0))) (.rq (.cond [] (.inb (.var 0) (.var 3))) (.ite (.ic .neq (.cell (.row [(.int .i64), .str, .str, .str, (.int .i64), .str, (.sl 9)] (.var 0) (.var 3)) 0) (.var 2)) (.ret (.li .i64 (-1)) []) (.rq (.cond [] (.inb (.var 0) (.var 3))) (.rq (.call [] 27 none [(.ar .add .i64 (.var 2) (.li .i64 1))] tyS []) (.ite (.sc .neq (.cell (.row [(.int .i64), .str, .str, .str, (.int .i64), .str, (.sl 9)] (.var 0) (.var 3)) 1) (.var 4)) (.ret (.li .i64 (-1)) []) (.rq (.cond [] (.inb (.var 0) (.var 3))) (.rq (.call [] 27 none [(.ar .add .i64 (.ar .add .i64 (.var 2) (.li .i64 1)) (.li .i64 1))] tyS []) (.ite (.sc .neq (.cell (.row [(.int .i64), .str, .str, .str, (.int .i64), .str, (.sl 9)] (.var 0) (.var 3)) 2) (.var 5)) (.ret (.li .i64 (-1)) []) (.rq (.cond [] (.inb (.var 0) (.var 3))) (.rq (.call [] 27 none [(.ar .add .i64 (.ar .add .i64 (.ar .add .i64 (.var 2) (.li .i64 1)) (.li .i64 1)) (.li .i64 1))] tyS []) (.ite (.sc .neq (.cell (.row [(.int .i64), .str, .str, .str, (.int .i64), .str, (.sl 9)] (.var 0) (.var 3)) 3) (.var 6)) (.ret (.li .i64 (-1)) []) (.rq (.cond [] (.inb (.var 0) (.var 3))) (.ite (.ic .neq (.cell (.row [(.int .i64), .str, .str, .str, (.int .i64), .str, (.sl 9)] (.var 0) (.var 3)) 4) (.ar .add .i64 (.ar .add .i64 (.ar .add .i64 (.ar .add .i64 (.var 2) (.li .i64 1)) (.li .i64 1)) (.li .i64 1)) (.li .i64 1))) (.ret (.li .i64 (-1)) []) (.rq (.cond [] (.inb (.var 0) (.var 3))) (.rq (.call [] 27 none [(.ar .add .i64 (.ar .add .i64 (.ar .add .i64 (.ar .add .i64 (.ar .add .i64 (.var 2) (.li .i64 1)) (.li .i64 1)) (.li .i64 1)) (.li .i64 1)) (.li .i64 1))] tyS []) (.ite (.sc .neq (.cell (.row [(.int .i64), .str, .str, .str, (.int .i64), .str, (.sl 9)] (.var 0) (.var 3)) 5) (.var 7)) (.ret (.li .i64 (-1)) []) (.rq (.cond [] (.inb (.var 0) (.var 3))) (.rq (.call [] 34 none [(.cell (.row [(.int .i64), .str, .str, .str, (.int .i64), .str, (.sl 9)] (.var 0) (.var 3)) 6), (.ar .add .i64 (.ar .add .i64 (.ar .add .i64 (.ar .add .i64 (.ar .add .i64 (.ar .add .i64 (.var 2) (.li .i64 1)) (.li .i64 1)) (.li .i64 1)) (.li .i64 1)) (.li .i64 1)) (.li .i64 1))] tyI []) (.ite (.ic .lss (.var 8) (.li .i64 0)) (.ret (.li .i64 (-1)) []) (.again 0 [(.var 8), (.ar .add .i64 (.var 3) (.li .i64 1))])))))))))))))))))))) (.ret (.var 2) [])))
theorem vc_laws_heldEventS_ok : vcOf Tryz.prog tbl rbt 35 none = vc_laws_heldEventS := by kernel_rfl
def ty_laws_heldEventS : List VT := [(.one (.c (.sl 99))), tyI]
theorem ty_laws_heldEventS_ok : tyOf Tryz.prog tbl 35 none = ty_laws_heldEventS := by kernel_rfl
def vc_spec_LinksOf : VC := (.rq (.call [] 14 none [(.var 0)] tyB []) (.ite (.no (.var 1)) (.ret (.nilS 117) []) (.loop [(.one (.c (.sl 117))), tyI] [(.nilS 117), (.li .i64 0)] (.ite (.ic .lss (.var 3) (.len (.var 0))) (.rq (.cond [] (.inb (.var 0) (.var 3))) (.loop [(.one (.c (.sl 117))), tyI] [(.var 2), (.li .i64 0)] (.ite (.ic .lss (.var 5) (.len (.cell (.row [.str, (.sl 9), (.int .i64), (.int .i64), (.sl 104)] (.var 0) (.var 3)) 4))) (.rq (.cond [] (.inb (.cell (.row [.str, (.sl 9), (.int .i64), (.int .i64), (.sl 104)] (.var 0) (.var 3)) 4) (.var 5))) (.rq (.call [] 74 none [(.var 0), (.cell (.row [.str, (.sl 9), (.int .i64), (.int .i64), (.sl 104)] (.var 0) (.var 3)) 0), (.row [(.int .i64), .str, (.int .i64), (.int .i64)] (.cell (.row [.str, (.sl 9), (.int .i64), (.int .i64), (.sl 104)] (.var 0) (.var 3)) 4) (.var 5))] tyS []) (.ite (.sc .neq (.var 6) (.ls ⟨#[]⟩)) (.rq (.cond [] (.few (.var 4) (.put (.nilS 117) (.cat (.ag1 (.cell (.row [.str, (.sl 9), (.int .i64), (.int .i64), (.sl 104)] (.var 0) (.var 3)) 0)) (.cat (.ag1 (.var 6)) (.cat (.ag1 (.cell (.row [(.int .i64), .str, (.int .i64), (.int .i64)] (.cell (.row [.str, (.sl 9), (.int .i64), (.int .i64), (.sl 104)] (.var 0) (.var 3)) 4) (.var 5)) 0)) .ag0)))))) (.again 0 [(.app (.var 4) (.put (.nilS 117) (.cat (.ag1 (.cell (.row [.str, (.sl 9), (.int .i64), (.int .i64), (.sl 104)] (.var 0) (.var 3)) 0)) (.cat (.ag1 (.var 6)) (.cat (.ag1 (.cell (.row [(.int .i64), .str, (.int .i64), (.int .i64)] (.cell (.row [.str, (.sl 9), (.int .i64), (.int .i64), (.sl 104)] (.var 0) (.var 3)) 4) (.var 5)) 0)) .ag0))))), (.ar .add .i64 (.var 5) (.li .i64 1))])) (.again 0 [(.var 4), (.ar .add .i64 (.var 5) (.li .i64 1))])))) (.again 1 [(.var 4), (.ar .add .i64 (.var 3) (.li .i64 1))])))) (.ret (.var 2) [])))))
theorem vc_spec_LinksOf_ok : vcOf Tryz.prog tbl rbt 39 none = vc_spec_LinksOf := by kernel_rfl
def ty_spec_LinksOf : List VT := [(.one (.c (.sl 50)))]
theorem ty_spec_LinksOf_ok : tyOf Tryz.prog tbl 39 none = ty_spec_LinksOf := by kernel_rfl
theorem rt_spec_LinksOf_ok : rbt.get 39 = [(0, 3)] := by kernel_rfl
def vc_spec_l1Put : VC := (.loop [tyB, (.one (.c (.sl 9))), tyI] [(.lb false), (.nilS 9), (.li .i64 0)] (.ite (.ic .lss (.var 4) (.len (.var 0))) (.rq (.cond [] (.inb (.var 0) (.var 4))) (.ite (.an (.no (.var 2)) (.sc .geq (.cell (.row [.str] (.var 0) (.var 4)) 0) (.var 1))) (.ite (.sc .neq (.cell (.row [.str] (.var 0) (.var 4)) 0) (.var 1)) (.rq (.cond [] (.few (.var 3) (.put (.nilS 9) (.ag1 (.var 1))))) (.rq (.cond [] (.few (.app (.var 3) (.put (.nilS 9) (.ag1 (.var 1)))) (.put (.nilS 9) (.ag1 (.cell (.row [.str] (.var 0) (.var 4)) 0))))) (.again 0 [(.lb true), (.app (.app (.var 3) (.put (.nilS 9) (.ag1 (.var 1)))) (.put (.nilS 9) (.ag1 (.cell (.row [.str] (.var 0) (.var 4)) 0)))), (.ar .add .i64 (.var 4) (.li .i64 1))]))) (.rq (.cond [] (.few (.var 3) (.put (.nilS 9) (.ag1 (.cell (.row [.str] (.var 0) (.var 4)) 0))))) (.again 0 [(.lb true), (.app (.var 3) (.put (.nilS 9) (.ag1 (.cell (.row [.str] (.var 0) (.var 4)) 0)))), (.ar .add .i64 (.var 4) (.li .i64 1))]))) (.rq (.cond [] (.few (.var 3) (.put (.nilS 9) (.ag1 (.cell (.row [.str] (.var 0) (.var 4)) 0))))) (.again 0 [(.var 2), (.app (.var 3) (.put (.nilS 9) (.ag1 (.cell (.row [.str] (.var 0) (.var 4)) 0)))), (.ar .add .i64 (.var 4) (.li .i64 1))])))) (.ite (.no (.var 2)) (.rq (.cond [] (.few (.var 3) (.put (.nilS 9) (.ag1 (.var 1))))) (.ret (.app (.var 3) (.put (.nilS 9) (.ag1 (.var 1)))) [])) (.ret (.var 3) []))))
theorem vc_spec_l1Put_ok : vcOf Tryz.prog tbl rbt 43 none = vc_spec_l1Put := by kernel_rfl
def ty_spec_l1Put : List VT := [(.one (.c (.sl 9))), tyS]
theorem ty_spec_l1Put_ok : tyOf Tryz.prog tbl 43 none = ty_spec_l1Put := by kernel_rfl
theorem rt_spec_l1Put_ok : rbt.get 43 = [(0, 1)] := by kernel_rfl
def vc_spec_FaceOf : VC := (.rq (.call [] 81 none [(.var 0), (.len (.cell (.var 0) 5))] tyI []) (.ret (.var 1) []))
theorem vc_spec_FaceOf_ok : vcOf Tryz.prog tbl rbt 47 none = vc_spec_FaceOf := by kernel_rfl
def ty_spec_FaceOf : List VT := [(.one (.agg [.str, .bool, .bool, (.sl 135), (.int .i64), (.sl 126)]))]
theorem ty_spec_FaceOf_ok : tyOf Tryz.prog tbl 47 none = ty_spec_FaceOf := by kernel_rfl
def vc_impl_IsEntry : VC := (.rq (.call [] 83 none [(.cell (.var 0) 1)] (.tup [(.c (.int .i64)), (.c .bool)]) []) (.rq (.call [((.no (.proj (.var 1) 1)), false)] 84 none [(.cell (.var 0) 0)] tyB []) (.rq (.call [((.or (.no (.proj (.var 1) 1)) (.no (.var 2))), false)] 85 none [(.sub (.var 0) 2 2)] tyB []) (.ite (.or (.or (.or (.no (.proj (.var 1) 1)) (.no (.var 2))) (.no (.var 3))) (.ic .gtr (.len (.cell (.var 0) 4)) (.li .i64 3))) (.ret (.lb false) []) (.loop [tyI] [(.li .i64 0)] (.ite (.ic .lss (.var 4) (.len (.cell (.var 0) 4))) (.rq (.cond [] (.inb (.cell (.var 0) 4) (.var 4))) (.rq (.call [] 86 none [(.row [(.int .i64), .str, (.int .i64), (.int .i64)] (.cell (.var 0) 4) (.var 4))] tyB []) (.ite (.or (.no (.var 5)) (.sc .eql (.cell (.row [(.int .i64), .str, (.int .i64), (.int .i64)] (.cell (.var 0) 4) (.var 4)) 1) (.cell (.var 0) 0))) (.ret (.lb false) []) (.again 0 [(.ar .add .i64 (.var 4) (.li .i64 1))])))) (.ret (.lb true) [])))))))
theorem vc_impl_IsEntry_ok : vcOf Tryz.prog tbl rbt 51 none = vc_impl_IsEntry := by kernel_rfl
def ty_impl_IsEntry : List VT := [(.one (.agg [.str, (.sl 9), (.int .i64), (.int .i64), (.sl 104)]))]
theorem ty_impl_IsEntry_ok : tyOf Tryz.prog tbl 51 none = ty_impl_IsEntry := by kernel_rfl
def vc_impl_StuckOf_1 : VC := (.rq (.cond [] (.inb (.cell (.var 1) 0) (.var 0))) (.ret (.cell (.row [.bool] (.cell (.var 1) 0) (.var 0)) 0) []))
theorem vc_impl_StuckOf_1_ok : vcOfC Tryz.prog tbl rbt 55 [tbl.tab 86] = vc_impl_StuckOf_1 := by kernel_rfl
def ty_impl_StuckOf_1 : List VT := [tyI, (.one (.agg [(.sl 4)]))]
theorem ty_impl_StuckOf_1_ok : tyOfC Tryz.prog tbl 55 [tbl.tab 86] = ty_impl_StuckOf_1 := by kernel_rfl
def vc_impl_FaceOf : VC := (.rq (.call [] 94 none [(.var 0), (.len (.cell (.var 0) 5))] tyI []) (.ret (.var 1) []))
theorem vc_impl_FaceOf_ok : vcOf Tryz.prog tbl rbt 59 none = vc_impl_FaceOf := by kernel_rfl
def ty_impl_FaceOf : List VT := [(.one (.agg [.str, .bool, .bool, (.sl 135), (.int .i64), (.sl 126)]))]
theorem ty_impl_FaceOf_ok : tyOf Tryz.prog tbl 59 none = ty_impl_FaceOf := by kernel_rfl
def vc_laws_eqNeedS : VC := (.ite (.ic .neq (.len (.var 0)) (.len (.var 1))) (.ret (.lb false) []) (.loop [tyI] [(.li .i64 0)] (.ite (.ic .lss (.var 2) (.len (.var 0))) (.rq (.cond [] (.inb (.var 0) (.var 2))) (.rq (.cond [] (.inb (.var 1) (.var 2))) (.rq (.call [] 98 none [(.row [(.int .i64), .str, (.int .i64), (.int .i64)] (.var 0) (.var 2)), (.row [(.int .i64), .str, (.int .i64), (.int .i64)] (.var 1) (.var 2))] tyB []) (.ite (.no (.var 3)) (.ret (.lb false) []) (.again 0 [(.ar .add .i64 (.var 2) (.li .i64 1))]))))) (.ret (.lb true) []))))
theorem vc_laws_eqNeedS_ok : vcOf Tryz.prog tbl rbt 63 none = vc_laws_eqNeedS := by kernel_rfl
def ty_laws_eqNeedS : List VT := [(.one (.c (.sl 104))), (.one (.c (.sl 104)))]
theorem ty_laws_eqNeedS_ok : tyOf Tryz.prog tbl 63 none = ty_laws_eqNeedS := by kernel_rfl
def vc_laws_szNeed : VC := (.ite (.ic .lss (.ar .sub .i64 (.var 1) (.len (.cell (.var 0) 1))) (.li .i64 0)) (.ret (.li .i64 (-1)) []) (.ret (.ar .sub .i64 (.var 1) (.len (.cell (.var 0) 1))) []))
theorem vc_laws_szNeed_ok : vcOf Tryz.prog tbl rbt 69 none = vc_laws_szNeed := by kernel_rfl
def ty_laws_szNeed : List VT := [(.one (.agg [(.int .i64), .str, (.int .i64), (.int .i64)])), tyI]
theorem ty_laws_szNeed_ok : tyOf Tryz.prog tbl 69 none = ty_laws_szNeed := by kernel_rfl
def vc_spec_IsNeed : VC := (.rq (.call [] 100 none [(.cell (.var 0) 0)] tyB []) (.rq (.call [((.an (.var 1) (.ic .neq (.cell (.var 0) 0) (.li .i64 0))), true), ((.sc .eql (.cell (.var 0) 1) (.ls ⟨#[]⟩)), false)] 71 none [(.cell (.var 0) 1)] tyB []) (.rq (.call [((.an (.an (.var 1) (.ic .neq (.cell (.var 0) 0) (.li .i64 0))) (.or (.sc .eql (.cell (.var 0) 1) (.ls ⟨#[]⟩)) (.var 2))), true)] 72 none [(.sub (.var 0) 2 2)] tyB []) (.ret (.an (.an (.an (.var 1) (.ic .neq (.cell (.var 0) 0) (.li .i64 0))) (.or (.sc .eql (.cell (.var 0) 1) (.ls ⟨#[]⟩)) (.var 2))) (.var 3)) []))))
theorem vc_spec_IsNeed_ok : vcOf Tryz.prog tbl rbt 73 none = vc_spec_IsNeed := by kernel_rfl
def ty_spec_IsNeed : List VT := [(.one (.agg [(.int .i64), .str, (.int .i64), (.int .i64)]))]
theorem ty_spec_IsNeed_ok : tyOf Tryz.prog tbl 73 none = ty_spec_IsNeed := by kernel_rfl
def vc_spec_l4Copy : VC := (.rq (.callR 103 none [(.sub (.var 0) 0 5)] (.one (.agg [.str, .bool, .bool, (.sl 135), (.int .i64)])) [] [(3, 2)]) (.rq (.cond [] (.few (.nilS 126) (.cell (.var 0) 5))) (.ret (.cat (.ag1 (.cell (.var 1) 0)) (.cat (.ag1 (.cell (.var 1) 1)) (.cat (.ag1 (.cell (.var 1) 2)) (.cat (.ag1 (.cell (.var 1) 3)) (.cat (.ag1 (.cell (.var 1) 4)) (.cat (.ag1 (.app (.nilS 126) (.cell (.var 0) 5))) .ag0)))))) [])))
theorem vc_spec_l4Copy_ok : vcOf Tryz.prog tbl rbt 77 none = vc_spec_l4Copy := by kernel_rfl
def ty_spec_l4Copy : List VT := [(.one (.agg [.str, .bool, .bool, (.sl 135), (.int .i64), (.sl 126)]))]
theorem ty_spec_l4Copy_ok : tyOf Tryz.prog tbl 77 none = ty_spec_l4Copy := by kernel_rfl
theorem rt_spec_l4Copy_ok : rbt.get 77 = [(3, 2), (5, 2)] := by kernel_rfl
def vc_spec_l4Face : VC := (.ite (.ic .eql (.var 1) (.li .i64 0)) (.rq (.call [] 102 none [(.cell (.var 0) 0)] (.tup [(.c (.int .i64)), (.c .bool)]) []) (.ret (.proj (.var 2) 0) [])) (.rq (.cond [] (.inb (.cell (.var 0) 5) (.ar .sub .i64 (.var 1) (.li .i64 1)))) (.rq (.call [] 78 none [(.cell (.row [.str, (.int .i64)] (.cell (.var 0) 5) (.ar .sub .i64 (.var 1) (.li .i64 1))) 0)] (.tup [(.c (.int .i64)), (.c (.int .i64)), (.c .bool)]) []) (.ret (.proj (.var 2) 1) []))))
theorem vc_spec_l4Face_ok : vcOf Tryz.prog tbl rbt 81 none = vc_spec_l4Face := by kernel_rfl
def ty_spec_l4Face : List VT := [(.one (.agg [.str, .bool, .bool, (.sl 135), (.int .i64), (.sl 126)])), tyI]
theorem ty_spec_l4Face_ok : tyOf Tryz.prog tbl 81 none = ty_spec_l4Face := by kernel_rfl
def vc_impl_IsVersion : VC := (.ret (.an (.an (.an (.ic .geq (.cell (.var 0) 0) (.li .i64 0)) (.ic .leq (.cell (.var 0) 0) (.li .i64 99))) (.ic .geq (.cell (.var 0) 1) (.li .i64 0))) (.ic .leq (.cell (.var 0) 1) (.li .i64 99))) [])
theorem vc_impl_IsVersion_ok : vcOf Tryz.prog tbl rbt 85 none = vc_impl_IsVersion := by kernel_rfl
def ty_impl_IsVersion : List VT := [(.one (.agg [(.int .i64), (.int .i64)]))]
theorem ty_impl_IsVersion_ok : tyOf Tryz.prog tbl 85 none = ty_impl_IsVersion := by kernel_rfl
def vc_impl_NewCore : VC := (.rq (.call [] 109 none [(.var 0)] (.tup [(.c (.int .i64)), (.c .bool)]) []) (.ite (.no (.proj (.var 1) 1)) (.ret (.tp1 (.tp1 .tp0 (.cat (.ag1 (.ls ⟨#[]⟩)) (.cat (.ag1 (.lb false)) (.cat (.ag1 (.lb false)) (.cat (.ag1 (.nilS 135)) (.cat (.ag1 (.li .i64 0)) .ag0)))))) (.lb false)) []) (.ret (.tp1 (.tp1 .tp0 (.cat (.ag1 (.var 0)) (.cat (.ag1 (.lb false)) (.cat (.ag1 (.lb false)) (.cat (.ag1 (.nilS 135)) (.cat (.ag1 (.li .i64 0)) .ag0)))))) (.lb true)) [])))
theorem vc_impl_NewCore_ok : vcOf Tryz.prog tbl rbt 89 none = vc_impl_NewCore := by kernel_rfl
def ty_impl_NewCore : List VT := [tyS]
theorem ty_impl_NewCore_ok : tyOf Tryz.prog tbl 89 none = ty_impl_NewCore := by kernel_rfl
theorem rt_impl_NewCore_ok : rbt.get 89 = [(3, 2)] := by kernel_rfl
def vc_impl_Offers : VC := (.rq (.call [] 107 none [(.var 0)] tyB []) (.rq (.call [((.var 2), true)] 107 none [(.var 1)] tyB []) (.ret (.an (.an (.var 2) (.var 3)) (.ic .eql (.ar .andNot .i64 (.var 1) (.var 0)) (.li .i64 0))) [])))
theorem vc_impl_Offers_ok : vcOf Tryz.prog tbl rbt 93 none = vc_impl_Offers := by kernel_rfl
def ty_impl_Offers : List VT := [tyI, tyI]
theorem ty_impl_Offers_ok : tyOf Tryz.prog tbl 93 none = ty_impl_Offers := by kernel_rfl
def vc_laws_eqCall : VC := (.ite (.sc .neq (.cell (.var 0) 0) (.cell (.var 1) 0)) (.ret (.lb false) []) (.ite (.sc .neq (.cell (.var 0) 1) (.cell (.var 1) 1)) (.ret (.lb false) []) (.ite (.ic .neq (.cell (.var 0) 2) (.cell (.var 1) 2)) (.ret (.lb false) []) (.ite (.sc .neq (.cell (.var 0) 3) (.cell (.var 1) 3)) (.ret (.lb false) []) (.ret (.lb true) [])))))
theorem vc_laws_eqCall_ok : vcOf Tryz.prog tbl rbt 97 none = vc_laws_eqCall := by kernel_rfl
def ty_laws_eqCall : List VT := [(.one tyC), (.one tyC)]
theorem ty_laws_eqCall_ok : tyOf Tryz.prog tbl 97 none = ty_laws_eqCall := by kernel_rfl
def vc_spec_Serves : VC := (.rq (.call [] 70 none [(.cell (.var 0) 1)] (.tup [(.c (.int .i64)), (.c .bool)]) []) (.rq (.call [] 38 none [(.var 0)] tyB []) (.rq (.call [((.var 3), true)] 73 none [(.var 1)] tyB []) (.rq (.call [((.an (.an (.var 3) (.var 4)) (.or (.sc .eql (.cell (.var 1) 1) (.ls ⟨#[]⟩)) (.sc .eql (.cell (.var 1) 1) (.cell (.var 0) 0)))), true)] 80 none [(.proj (.var 2) 0), (.cell (.var 1) 0)] tyB []) (.rq (.call [((.an (.an (.an (.var 3) (.var 4)) (.or (.sc .eql (.cell (.var 1) 1) (.ls ⟨#[]⟩)) (.sc .eql (.cell (.var 1) 1) (.cell (.var 0) 0)))) (.var 5)), true)] 115 none [(.sub (.var 0) 2 2), (.sub (.var 1) 2 2)] tyB []) (.ret (.an (.an (.an (.an (.var 3) (.var 4)) (.or (.sc .eql (.cell (.var 1) 1) (.ls ⟨#[]⟩)) (.sc .eql (.cell (.var 1) 1) (.cell (.var 0) 0)))) (.var 5)) (.var 6)) []))))))
theorem vc_spec_Serves_ok : vcOf Tryz.prog tbl rbt 101 none = vc_spec_Serves := by kernel_rfl
def ty_spec_Serves : List VT := [(.one (.agg [.str, (.sl 9), (.int .i64), (.int .i64), (.sl 104)])), (.one (.agg [(.int .i64), .str, (.int .i64), (.int .i64)]))]
theorem ty_spec_Serves_ok : tyOf Tryz.prog tbl 101 none = ty_spec_Serves := by kernel_rfl
def vc_spec_LayerNeeds : VC := (.rq (.call [] 78 none [(.var 0)] (.tup [(.c (.int .i64)), (.c (.int .i64)), (.c .bool)]) []) (.ret (.tp1 (.tp1 .tp0 (.proj (.var 1) 0)) (.proj (.var 1) 2)) []))
theorem vc_spec_LayerNeeds_ok : vcOf Tryz.prog tbl rbt 105 none = vc_spec_LayerNeeds := by kernel_rfl
def ty_spec_LayerNeeds : List VT := [tyS]
theorem ty_spec_LayerNeeds_ok : tyOf Tryz.prog tbl 105 none = ty_spec_LayerNeeds := by kernel_rfl
def vc_impl_KindFace : VC := (.ite (.sc .eql (.var 0) (.ls ⟨#[115, 116, 111, 110, 101]⟩)) (.ret (.tp1 (.tp1 .tp0 (.li .i64 0)) (.lb true)) []) (.ite (.sc .eql (.var 0) (.ls ⟨#[108, 97, 109, 112]⟩)) (.ret (.tp1 (.tp1 .tp0 (.li .i64 1)) (.lb true)) []) (.ite (.sc .eql (.var 0) (.ls ⟨#[115, 104, 101, 108, 102]⟩)) (.ret (.tp1 (.tp1 .tp0 (.li .i64 2)) (.lb true)) []) (.ite (.sc .eql (.var 0) (.ls ⟨#[109, 101, 116, 101, 114]⟩)) (.ret (.tp1 (.tp1 .tp0 (.li .i64 5)) (.lb true)) []) (.ite (.sc .eql (.var 0) (.ls ⟨#[100, 114, 97, 119, 101, 114]⟩)) (.ret (.tp1 (.tp1 .tp0 (.li .i64 3)) (.lb true)) []) (.ite (.sc .eql (.var 0) (.ls ⟨#[104, 111, 114, 110]⟩)) (.ret (.tp1 (.tp1 .tp0 (.li .i64 9)) (.lb true)) []) (.ite (.sc .eql (.var 0) (.ls ⟨#[118, 97, 117, 108, 116]⟩)) (.ret (.tp1 (.tp1 .tp0 (.li .i64 19)) (.lb true)) []) (.ite (.sc .eql (.var 0) (.ls ⟨#[114, 111, 98, 111, 116]⟩)) (.ret (.tp1 (.tp1 .tp0 (.li .i64 63)) (.lb true)) []) (.ret (.tp1 (.tp1 .tp0 (.li .i64 0)) (.lb false)) [])))))))))
theorem vc_impl_KindFace_ok : vcOf Tryz.prog tbl rbt 109 none = vc_impl_KindFace := by kernel_rfl
def ty_impl_KindFace : List VT := [tyS]
theorem ty_impl_KindFace_ok : tyOf Tryz.prog tbl 109 none = ty_impl_KindFace := by kernel_rfl
def vc_laws_eqCellS : VC := (.ite (.ic .neq (.len (.var 0)) (.len (.var 1))) (.ret (.lb false) []) (.loop [tyI] [(.li .i64 0)] (.ite (.ic .lss (.var 2) (.len (.var 0))) (.rq (.cond [] (.inb (.var 0) (.var 2))) (.rq (.cond [] (.inb (.var 1) (.var 2))) (.rq (.call [] 119 none [(.row [.str, (.int .i64)] (.var 0) (.var 2)), (.row [.str, (.int .i64)] (.var 1) (.var 2))] tyB []) (.ite (.no (.var 3)) (.ret (.lb false) []) (.again 0 [(.ar .add .i64 (.var 2) (.li .i64 1))]))))) (.ret (.lb true) []))))
theorem vc_laws_eqCellS_ok : vcOf Tryz.prog tbl rbt 113 none = vc_laws_eqCellS := by kernel_rfl
def ty_laws_eqCellS : List VT := [(.one (.c (.sl 135))), (.one (.c (.sl 135)))]
theorem ty_laws_eqCellS_ok : tyOf Tryz.prog tbl 113 none = ty_laws_eqCellS := by kernel_rfl
def vc_impl_Meets : VC := (.rq (.call [((.ic .eql (.cell (.var 0) 0) (.cell (.var 1) 0)), true)] 120 none [(.var 0), (.var 1)] tyI []) (.ret (.an (.ic .eql (.cell (.var 0) 0) (.cell (.var 1) 0)) (.ic .geq (.var 2) (.li .i64 0))) []))
theorem vc_impl_Meets_ok : vcOf Tryz.prog tbl rbt 117 none = vc_impl_Meets := by kernel_rfl
def ty_impl_Meets : List VT := [(.one (.agg [(.int .i64), (.int .i64)])), (.one (.agg [(.int .i64), (.int .i64)]))]
theorem ty_impl_Meets_ok : tyOf Tryz.prog tbl 117 none = ty_impl_Meets := by kernel_rfl
end Go.Proofs.YtimickglpboilaaGreat
/- From 'it ends so' to 'it ends with this': a condition that is met has an outcome. No program in sight. -/
namespace Go.Proofs.YtimickglpboilaaGreat
open Go.RowKit
variable [GC]
section
open Classical
variable {P : Program} {tab : Nat → List CT} {T : D → List D → Prop}
abbrev Out := List D → D × List D
theorem VC.exact {r0 : D × List D} (hT : T r0.1 r0.2) : ∀ (V : VC) (env : List D) (L : List ((List D → Prop) × Out)), (∀ x ∈ L, ∀ ys, T (x.2 ys).1 (x.2 ys).2) → V.den P tab env T (L.map (·.1)) →
  ∃ r : D × List D, T r.1 r.2 ∧ V.den P tab env (fun d bs => d = r.1 ∧ bs = r.2) (L.map fun x => fun ys => x.1 ys ∧ x.2 ys = r)
 | .fail _, _, _, _, h => h.elim
 | .ret e bs, env, L, _, h => by
  simp only [VC.den] at h
  exact ⟨(e.den env, bs.map (fun x => x.den env)), h, ⟨rfl, rfl⟩⟩
 | .rq (.cond gs c) k, env, L, hL, ⟨h1, h2⟩ => by
  obtain ⟨r, q1, q2⟩ := VC.exact hT k env L hL h2
  exact ⟨r, q1, h1, q2⟩
 | .rq (.call gs f bx args vt nb) k, env, L, hL, ⟨d, cs, h1, h2, h3, h4⟩ => by
  obtain ⟨r, q1, q2⟩ := VC.exact hT k _ L hL h4
  exact ⟨r, q1, d, cs, h1, h2, h3, q2⟩
 | .rq (.callR f bx args vt nb rt) k, env, L, hL, ⟨d, cs, h1, h2, h3, h4⟩ => by
  obtain ⟨r, q1, q2⟩ := VC.exact hT k _ L hL h4
  exact ⟨r, q1, d, cs, h1, h2, h3, q2⟩
 | .rq (.callV gs e args vt) k, env, L, hL, ⟨d, h1, h3, h4⟩ => by
  obtain ⟨r, q1, q2⟩ := VC.exact hT k _ L hL h4
  exact ⟨r, q1, d, h1, h3, q2⟩
 | .rq (.glob g vt ix) k, env, L, hL, ⟨d, h1, h2, h3, h4⟩ => by
  obtain ⟨r, q1, q2⟩ := VC.exact hT k _ L hL h4
  exact ⟨r, q1, d, h1, h2, h3, q2⟩
 | .rq (.new f args nb) k, env, L, hL, ⟨cs, h2, h3, h4⟩ => by
  obtain ⟨r, q1, q2⟩ := VC.exact hT k _ L hL h4
  exact ⟨r, q1, cs, h2, h3, q2⟩
 | .ite c a b, env, L, hL, ⟨h1, h2⟩ => by
  cases hc : (c.den env).toB with
  | true =>
   obtain ⟨r, q1, q2⟩ := VC.exact hT a env L hL (h1 hc)
   exact ⟨r, q1, ⟨fun _ => q2, fun h => absurd (hc.symm.trans h) (by simp)⟩⟩
  | false =>
   obtain ⟨r, q1, q2⟩ := VC.exact hT b env L hL (h2 hc)
   exact ⟨r, q1, ⟨fun h => absurd (hc.symm.trans h) (by simp), fun _ => q2⟩⟩
 | .again d es, env, L, hL, h => by
  simp only [VC.den, List.getElem?_map] at h
  cases hd : L[d]? with
  | none => rw [hd] at h; exact h.elim
  | some x =>
   rw [hd] at h
   refine ⟨x.2 (es.map (·.den env)), hL x (List.mem_of_getElem? hd) _, ?_⟩
   simp only [VC.den, List.getElem?_map, hd]
   exact ⟨h, rfl⟩
 | .loop tys inits body, env, L, hL, ⟨I, μ, hI, hb⟩ => by
  let D1 (xs : List D) (o : Out) (r : D × List D) : Prop := T r.1 r.2 ∧ body.den P tab (env ++ xs) (fun d bs => d = r.1 ∧ bs = r.2) ((fun ys => (I ys ∧ μ ys < μ xs) ∧ o ys = r) :: L.map fun x => fun ys => x.1 ys ∧ x.2 ys = r)
  let G : (xs : List D) → ((ys : List D) → μ ys < μ xs → D × List D) → D × List D := fun xs rec =>
   if h : ∃ r, D1 xs (fun ys => if hy : μ ys < μ xs then rec ys hy else r0) r then h.choose else r0
  let o : Out := (measure μ).wf.fix G
  have ho : ∀ xs, o xs = if h : ∃ r, D1 xs (fun ys => if μ ys < μ xs then o ys else r0) r then h.choose else r0 := fun xs => by
   show (measure μ).wf.fix G xs = _
   rw [WellFounded.fix_eq]
   rfl
  have hoT : ∀ xs, T (o xs).1 (o xs).2 := fun xs => by
   rw [ho]
   split
   ·rename_i h; exact h.choose_spec.1
   ·exact hT
  have hbody : ∀ xs, HasTys tab tys xs → FitsL xs → I xs → body.den P tab (env ++ xs) (fun d bs => d = (o xs).1 ∧ bs = (o xs).2) ((fun ys => (I ys ∧ o ys = o xs) ∧ μ ys < μ xs) :: L.map fun x => fun ys => x.1 ys ∧ x.2 ys = o xs) := by
   intro xs h1 h2 h3
   have hex : ∃ r, D1 xs (fun ys => if μ ys < μ xs then o ys else r0) r := by
    refine VC.exact hT body (env ++ xs) ((fun ys => I ys ∧ μ ys < μ xs, fun ys => if μ ys < μ xs then o ys else r0) :: L) ?_ (hb xs h1 h2 h3)
    intro x hx ys
    rcases List.mem_cons.1 hx with rfl | hx
    ·simp only; split
     ·exact hoT ys
     ·exact hT
    ·exact hL x hx ys
   have hox : o xs = hex.choose := by rw [ho, dif_pos hex]
   have hs := hex.choose_spec.2
   rw [← hox] at hs
   have he : (fun ys => (I ys ∧ μ ys < μ xs) ∧ (if μ ys < μ xs then o ys else r0) = o xs) = (fun ys => (I ys ∧ o ys = o xs) ∧ μ ys < μ xs) := by
    funext ys
    apply propext
    by_cases hy : μ ys < μ xs <;> simp [hy]
   rw [he] at hs
   exact hs
  refine ⟨o (inits.map (·.den env)), hoT _, fun xs => I xs ∧ o xs = o (inits.map (·.den env)), μ, ⟨hI, rfl⟩, ?_⟩
  rintro xs h1 h2 ⟨h3, h4⟩
  have := hbody xs h1 h2 h3
  rw [h4] at this
  exact this
theorem FunR.ex {f : FuncId} {tb : TB} {rb : RB} {bx : Option (List CT)} {V : VC} {Γ : List VT} (hV : vcOf P tb rb f bx = V) (hok : V.ok = true) (hΓ : tyOf P tb f bx = Γ) (htb : tbOk P tb tb = true) (hm : P.follows .mixedOrders = true)
  {bc : Option (List D)} {ds : List D} {r0 : D × List D} (hT : T r0.1 r0.2) (hbc : bc.map List.length = bx.map List.length) (hty : HasTys tb.tab Γ (ds ++ bc.getD [])) (hbx' : bx = none → ∀ d bs, T d bs → bs = [])
  (hden : FitsL ds → FitsL (bc.getD []) → V.den P tb.tab (ds ++ bc.getD []) T []) : ∃ r : D × List D, T r.1 r.2 ∧ FunR P f bc ds r.1 r.2 (rb.get f) := by
 by_cases hf : FitsL ds ∧ FitsL (bc.getD [])
 ·obtain ⟨r, q1, q2⟩ := VC.exact hT V _ [] (by simp) (hden hf.1 hf.2)
  exact ⟨r, q1, FunR.of hV hok hΓ htb hm hbc hty (fun h => hbx' h _ _ q1) fun _ _ => q2⟩
 ·exact ⟨r0, hT, FunR.of hV hok hΓ htb hm hbc hty (fun h => hbx' h _ _ hT) fun h1 h2 => absurd ⟨h1, h2⟩ hf⟩
theorem Fun.ex {f : FuncId} {tb : TB} {rb : RB} {bx : Option (List CT)} {V : VC} {Γ : List VT} (hV : vcOf P tb rb f bx = V) (hok : V.ok = true) (hΓ : tyOf P tb f bx = Γ) (htb : tbOk P tb tb = true) (hm : P.follows .mixedOrders = true)
  {bc : Option (List D)} {ds : List D} {r0 : D × List D} (hT : T r0.1 r0.2) (hbc : bc.map List.length = bx.map List.length) (hty : HasTys tb.tab Γ (ds ++ bc.getD [])) (hbx' : bx = none → ∀ d bs, T d bs → bs = [])
  (hden : FitsL ds → FitsL (bc.getD []) → V.den P tb.tab (ds ++ bc.getD []) T []) : ∃ r : D × List D, T r.1 r.2 ∧ Fun P f bc ds r.1 r.2 := by
 obtain ⟨r, h1, h2⟩ := FunR.ex hV hok hΓ htb hm hT hbc hty hbx' hden
 exact ⟨r, h1, .ofR h2⟩
end
end Go.Proofs.YtimickglpboilaaGreat
/- Contracts out of conditions, for the user: lists of data as lists of structures; loops; calls. -/
namespace Go.Proofs.YtimickglpboilaaGreat
open Go.RowKit Go
variable [GC]
theorem cA : (∀ {α : Type} {a : α} {r s : List α}, (a :: r) ++ s = a :: (r ++ s)) ∧ (∀ {α : Type} (r : List α), [] ++ r = r) := ⟨by simp, by simp⟩
theorem gE : (∀ {α : Type} {a b : α} {l : List α}, a ∈ b :: l ↔ a = b ∨ a ∈ l) ∧ (∀ {α : Type} {a : α}, ¬ a ∈ ([] : List α)) ∧ (∀ (p : Prop), (p ∨ False) = p) ∧ (∀ {α : Type} {p : α → Prop} {q : α → Prop} {a : α}, (∀ x, x = a ∨ q x → p x) ↔ p a ∧ ∀ x, q x → p x) ∧ (∀ {α : Type} {p : α → Prop} {a : α}, (∀ x, x = a → p x) ↔ p a) := ⟨List.mem_cons, List.not_mem_nil, or_false, forall_eq_or_imp, forall_eq⟩
theorem mo : Tryz.prog.follows .mixedOrders = true := by kernel_rfl
theorem FunR.ofV {f : FuncId} {V : VC} {Γ : List VT} (hV : vcOf Tryz.prog tbl rbt f none = V) (hΓ : tyOf Tryz.prog tbl f none = Γ) {rt : List (Nat × Nat)} (hrt : rbt.get f = rt) (hok : V.ok = true) {ds : List D} {r : D}
  (hty : HasTys tbl.tab Γ ds) (hden : FitsL ds → V.den Tryz.prog tbl.tab ds (fun d bs => d = r ∧ bs = []) []) : FunR Tryz.prog f none ds r [] rt :=
 hrt ▸ FunR.of hV hok hΓ tbl_ok mo rfl (by simpa using hty) (fun _ => rfl) (fun h _ => by simpa using hden h)
theorem Fun.ofV {f : FuncId} {V : VC} {Γ : List VT} (hV : vcOf Tryz.prog tbl rbt f none = V) (hΓ : tyOf Tryz.prog tbl f none = Γ) (hok : V.ok = true) {ds : List D} {r : D}
  (hty : HasTys tbl.tab Γ ds) (hden : FitsL ds → V.den Tryz.prog tbl.tab ds (fun d bs => d = r ∧ bs = []) []) : Fun Tryz.prog f none ds r [] :=
 Fun.of hV hok hΓ tbl_ok mo rfl (by simpa using hty) (fun _ => rfl) (fun h _ => by simpa using hden h)
theorem FunC.ofV {f : FuncId} {V : VC} {ct : List (List CT)} {Γ : List VT} (hV : vcOfC Tryz.prog tbl rbt f ct = V) (hΓ : tyOfC Tryz.prog tbl f ct = Γ) (hok : V.ok = true) {caps : List (List D)} {ds : List D} {r : D} (hcl : caps.length = ct.length)
  (hty : HasTys tbl.tab Γ (ds ++ caps.map .agg)) (hden : FitsL ds → FitsL (caps.map .agg) → V.den Tryz.prog tbl.tab (ds ++ caps.map .agg) (fun d bs => d = r ∧ bs = []) []) : FunC Tryz.prog f ds caps r :=
 FunC.of hV hok hΓ tbl_ok mo hcl hty hden
theorem den_callV {P : Program} {tab : Nat → List CT} {env : List D} {Q : D → List D → Prop} {L : List (List D → Prop)} {gs : Gd} {e : E} {args : List E} {vt : VT} {k : VC} {r : D} {x : D} {xs : List D}
  (he : e.den env = x) (ha : args.map (·.den env) = xs) (hc : FunV P x xs r) (hty : HasVT tab vt r) (hk : k.den P tab (env ++ [r]) Q L) : (VC.rq (.callV gs e args vt) k).den P tab env Q L :=
 ⟨r, hty, fun _ => by rw [he, ha]; exact hc, hk⟩
theorem Fun.of_callsG {P : Program} {f : FuncId} {ds : List D} {r : D} (hf : callable P f = true)
  (h : ∀ (w : World) (M : Addr → Prop) (vs : List Value), Rdy w M → Rs w M ds vs → Calls P f vs.toArray w fun e w' => ∃ v, e = .returned v ∧ R w' M r v ∧ Below w.heap.size w w') : Fun P f none ds r [] :=
 ⟨hf, fun w M g vs hM hr _ => (h w M vs hM hr).mono fun e w' ⟨v, h1, h2, h3⟩ => ⟨v, h1, h2, Fr.of_below h3 (Nat.le_refl _), fun h => by cases h⟩⟩
inductive AllImp : List (List D → Prop) → List (List D → Prop) → Prop
 | nil : AllImp [] []
 | cons {p q : List D → Prop} {L L' : List (List D → Prop)} (h : ∀ ys, p ys → q ys) (t : AllImp L L') : AllImp (p :: L) (q :: L')
theorem AllImp.refl : ∀ L, AllImp L L
 | [] => .nil
 | _ :: L => .cons (fun _ h => h) (AllImp.refl L)
theorem AllImp.get {L L' : List (List D → Prop)} (h : AllImp L L') : ∀ {d : Nat} {p : List D → Prop}, L[d]? = some p → ∃ q, L'[d]? = some q ∧ ∀ ys, p ys → q ys := by
 induction h with
 | nil => intro d p hp; simp at hp
 | cons h t ih =>
  intro d p hp
  cases d with
  | zero => simp at hp; subst hp; exact ⟨_, rfl, h⟩
  | succ d => simp at hp; simpa using ih hp
theorem VC.den_mono {P : Program} {tab : Nat → List CT} {Q Q' : D → List D → Prop} (hQ : ∀ d bs, Q d bs → Q' d bs) : ∀ (V : VC) (env : List D) {L L' : List (List D → Prop)}, AllImp L L' → V.den P tab env Q L → V.den P tab env Q' L'
 | .fail _, _, _, _, _, h => h.elim
 | .ret e bs, env, _, _, _, h => hQ _ _ h
 | .rq (.cond gs c) k, env, _, _, hL, ⟨h1, h2⟩ => ⟨h1, VC.den_mono hQ k env hL h2⟩
 | .rq (.call gs f bx args vt nb) k, env, _, _, hL, ⟨d, cs, h1, h2, h3, h4⟩ => ⟨d, cs, h1, h2, h3, VC.den_mono hQ k _ hL h4⟩
 | .rq (.callR f bx args vt nb rt) k, env, _, _, hL, ⟨d, cs, h1, h2, h3, h4⟩ => ⟨d, cs, h1, h2, h3, VC.den_mono hQ k _ hL h4⟩
 | .rq (.callV gs e args vt) k, env, _, _, hL, ⟨d, h1, h3, h4⟩ => ⟨d, h1, h3, VC.den_mono hQ k _ hL h4⟩
 | .rq (.glob g vt ix) k, env, _, _, hL, ⟨d, h1, h2, h3, h4⟩ => ⟨d, h1, h2, h3, VC.den_mono hQ k _ hL h4⟩
 | .rq (.new f args nb) k, env, _, _, hL, ⟨cs, h2, h3, h4⟩ => ⟨cs, h2, h3, VC.den_mono hQ k _ hL h4⟩
 | .ite c a b, env, _, _, hL, ⟨h1, h2⟩ => ⟨fun h => VC.den_mono hQ a env hL (h1 h), fun h => VC.den_mono hQ b env hL (h2 h)⟩
 | .loop tys inits body, env, _, _, hL, ⟨I, μ, h1, h2⟩ => ⟨I, μ, h1, fun xs q1 q2 q3 => VC.den_mono hQ body _ (.cons (fun _ h => h) hL) (h2 xs q1 q2 q3)⟩
 | .again d es, env, L, L', hL, h => by
  simp only [VC.den] at h ⊢
  cases hd : L[d]? with
  | none => rw [hd] at h; exact h.elim
  | some p =>
   rw [hd] at h
   obtain ⟨q, h1, h2⟩ := hL.get hd
   rw [h1]; exact h2 _ h
class Enc (α : Type) extends Inhabited α where
 cells : α → List D
def nth {α : Type} [Inhabited α] (l : List α) (k : Nat) : α := l.getD k default
def enc {α : Type} [Enc α] (x : α) : D := .agg (Enc.cells x)
def encS {α : Type} [Enc α] (l : List α) : D := .sl (l.map Enc.cells)
theorem row_enc {α : Type} [Enc α] (l : List α) (k : Nat) {z : List D} (h : Enc.cells (default : α) = z) : D.agg (((l.map Enc.cells)[k]?).getD z) = enc (nth l k) := by
 unfold enc nth
 rw [List.getD_eq_getElem?_getD, List.getElem?_map]
 cases l[k]? <;> simp [h]
@[simp] theorem encS_toR {α : Type} [Enc α] (l : List α) : (encS l).toR = l.map Enc.cells := rfl
@[simp] theorem encS_len {α : Type} [Enc α] (l : List α) : lenD (encS l) = l.length := by simp [encS, lenD]
@[simp] theorem enc_toA {α : Type} [Enc α] (x : α) : (enc x).toA = Enc.cells x := rfl
theorem lenD_sl (r : List (List D)) : lenD (.sl r) = r.length := rfl
theorem lenD_mem (n : Nat) : lenD (.mem n) = n := rfl
theorem den_loop {P : Program} {tab : Nat → List CT} {env : List D} {Q : D → List D → Prop} {L : List (List D → Prop)} {tys : List VT} {inits : List E} {body : VC}
  (St : Type) (e : St → List D) (I : St → Prop) (μ : St → Nat) (s0 : St) (hμ : ∀ s s', e s = e s' → μ s = μ s') (h0 : inits.map (·.den env) = e s0) (hI : I s0)
  (hs : ∀ s, I s → FitsL (e s) → body.den P tab (env ++ e s) Q ((fun ys => ∃ s', ys = e s' ∧ I s' ∧ μ s' < μ s) :: L)) : (VC.loop tys inits body).den P tab env Q L := by
 classical
 let m : List D → Nat := fun xs => if h : ∃ s, xs = e s then μ h.choose else 0
 have hm : ∀ s, m (e s) = μ s := by
  intro s
  have hx : ∃ s', e s = e s' := ⟨s, rfl⟩
  show (if h : ∃ s', e s = e s' then μ h.choose else 0) = μ s
  rw [dif_pos hx]
  exact (hμ _ _ hx.choose_spec).symm
 refine ⟨fun xs => ∃ s, xs = e s ∧ I s, m, ⟨s0, h0, hI⟩, ?_⟩
 rintro xs _ hf ⟨s, rfl, hIs⟩
 have := hs s hIs hf
 have he : (fun ys => (∃ s, ys = e s ∧ I s) ∧ m ys < m (e s)) = (fun ys => ∃ s', ys = e s' ∧ I s' ∧ μ s' < μ s) := by
  funext ys
  apply propext
  constructor
  ·rintro ⟨⟨s', rfl, h⟩, h2⟩; exact ⟨s', rfl, h, by rwa [hm, hm] at h2⟩
  ·rintro ⟨s', rfl, h, h2⟩; exact ⟨⟨s', rfl, h⟩, by rwa [hm, hm]⟩
 rw [he]
 exact this
theorem wrap_i64 {n : Int} (h1 : -9223372036854775808 ≤ n) (h2 : n ≤ 9223372036854775807) : IntKind.i64.wrap n = n := by
 simp only [IntKind.wrap, IntKind.bits, IntKind.signed]
 simp
 omega
theorem den_call {P : Program} {tab : Nat → List CT} {env : List D} {Q : D → List D → Prop} {L : List (List D → Prop)} {gs : Gd} {f : FuncId} {args : List E} {vt : VT} {k : VC} {r : D} {xs : List D}
  (ha : args.map (·.den env) = xs) (hc : Fun P f none xs r []) (hty : HasVT tab vt r) (hk : k.den P tab (env ++ [r]) Q L) : (VC.rq (.call gs f none args vt []) k).den P tab env Q L :=
 ⟨r, [], hty, trivial, fun _ => ha ▸ hc, hk⟩
theorem den_callR {P : Program} {tab : Nat → List CT} {env : List D} {Q : D → List D → Prop} {L : List (List D → Prop)} {f : FuncId} {args : List E} {vt : VT} {rt : List (Nat × Nat)} {k : VC} {r : D} {xs : List D}
  (ha : args.map (·.den env) = xs) (hc : FunR P f none xs r [] rt) (hty : HasVT tab vt r) (hk : k.den P tab (env ++ [r]) Q L) : (VC.rq (.callR f none args vt [] rt) k).den P tab env Q L :=
 ⟨r, [], hty, trivial, ha ▸ hc, hk⟩
theorem den_cond {P : Program} {tab : Nat → List CT} {env : List D} {Q : D → List D → Prop} {L : List (List D → Prop)} {gs : Gd} {c : E} {k : VC}
  (h : gsH env gs → c.den env = .bool true) (hk : k.den P tab env Q L) : (VC.rq (.cond gs c) k).den P tab env Q L := ⟨h, hk⟩
theorem den_ite {P : Program} {tab : Nat → List CT} {env : List D} {Q : D → List D → Prop} {L : List (List D → Prop)} {c : E} {a b : VC}
  (h1 : (c.den env).toB = true → a.den P tab env Q L) (h2 : (c.den env).toB = false → b.den P tab env Q L) : (VC.ite c a b).den P tab env Q L := ⟨h1, h2⟩
theorem den_ret {P : Program} {tab : Nat → List CT} {env : List D} {L : List (List D → Prop)} {e : E} {r : D} (h : e.den env = r) : (VC.ret e []).den P tab env (fun d bs => d = r ∧ bs = []) L := ⟨h, rfl⟩
theorem den_again {P : Program} {tab : Nat → List CT} {env : List D} {Q : D → List D → Prop} {L : List (List D → Prop)} {es : List E} {St : Type} {e : St → List D} {I : St → Prop} {μ : St → Nat} {m : Nat} (s' : St)
  (h : es.map (·.den env) = e s') (hI : I s') (hm : μ s' < m) : (VC.again 0 es).den P tab env Q ((fun ys => ∃ s', ys = e s' ∧ I s' ∧ μ s' < m) :: L) := ⟨s', h, hI, hm⟩
theorem Fun.exV {f : FuncId} {V : VC} {Γ : List VT} {ds : List D} {T : D → Prop} (hV : vcOf Tryz.prog tbl rbt f none = V) (hok : V.ok = true) (hΓ : tyOf Tryz.prog tbl f none = Γ) (hty : HasTys tbl.tab Γ ds) (r0 : D) (hT : T r0)
  (hden : FitsL ds → V.den Tryz.prog tbl.tab ds (fun d bs => T d ∧ bs = []) []) : ∃ r, T r ∧ Fun Tryz.prog f none ds r [] := by
 obtain ⟨⟨r, bs⟩, ⟨q1, q2⟩, q3⟩ := Fun.ex (T := fun d bs => T d ∧ bs = []) (r0 := (r0, [])) hV hok hΓ tbl_ok mo ⟨hT, rfl⟩ (bc := none) rfl (by simpa using hty) (fun _ d bs h => h.2) (fun h _ => by simpa using hden h)
 simp only at q2; subst q2
 exact ⟨r, q1, q3⟩
theorem den_callE {P : Program} {tab : Nat → List CT} {env : List D} {Q : D → List D → Prop} {L : List (List D → Prop)} {gs : Gd} {f : FuncId} {args : List E} {vt : VT} {k : VC} {T : D → Prop} {xs : List D}
  (ha : args.map (·.den env) = xs) (hc : ∃ r, T r ∧ Fun P f none xs r []) (hty : ∀ r, T r → HasVT tab vt r) (hk : ∀ r, T r → k.den P tab (env ++ [r]) Q L) : (VC.rq (.call gs f none args vt []) k).den P tab env Q L := by
 obtain ⟨r, h1, h2⟩ := hc
 exact ⟨r, [], hty r h1, trivial, fun _ => ha ▸ h2, hk r h1⟩
theorem exR {f : FuncId} {xs : List D} {T : D → Prop} {rt : List (Nat × Nat)} (h : ∃ r, T r ∧ FunR Tryz.prog f none xs r [] rt) : ∃ r, T r ∧ Fun Tryz.prog f none xs r [] := by
 obtain ⟨r, h1, h2⟩ := h
 exact ⟨r, h1, .ofR h2⟩
theorem den_callRE {P : Program} {tab : Nat → List CT} {env : List D} {Q : D → List D → Prop} {L : List (List D → Prop)} {f : FuncId} {args : List E} {vt : VT} {rt : List (Nat × Nat)} {k : VC} {T : D → Prop} {xs : List D}
  (ha : args.map (·.den env) = xs) (hc : ∃ r, T r ∧ FunR P f none xs r [] rt) (hty : ∀ r, T r → HasVT tab vt r) (hk : ∀ r, T r → k.den P tab (env ++ [r]) Q L) : (VC.rq (.callR f none args vt [] rt) k).den P tab env Q L := by
 obtain ⟨r, h1, h2⟩ := hc
 exact ⟨r, [], hty r h1, trivial, ha ▸ h2, hk r h1⟩
theorem den_for {P : Program} {tab : Nat → List CT} {env : List D} {Q : D → List D → Prop} {L : List (List D → Prop)} {tys : List VT} {inits : List E} {body : VC}
  (n : Nat) (st : Nat → List D) (I : Nat → Prop) (h0 : inits.map (·.den env) = st 0) (hI : I 0)
  (hs : ∀ k, k ≤ n → I k → FitsL (st k) → body.den P tab (env ++ st k) Q ((fun ys => k < n ∧ ys = st (k + 1) ∧ I (k + 1)) :: L)) : (VC.loop tys inits body).den P tab env Q L := by
 classical
 let last : List D → Nat → Nat := fun xs m => Nat.rec 0 (fun j r => if xs = st (j + 1) ∧ I (j + 1) then j + 1 else r) m
 have last_le : ∀ xs m, last xs m ≤ m := by
  intro xs m
  induction m with
  | zero => exact Nat.le_refl _
  | succ m ih =>
   show (if xs = st (m + 1) ∧ I (m + 1) then m + 1 else last xs m) ≤ m + 1
   split <;> omega
 have last_ge : ∀ xs m k, k ≤ m → xs = st k → I k → k ≤ last xs m := by
  intro xs m
  induction m with
  | zero => intro k hk _ _; omega
  | succ m ih =>
   intro k hk hx hi
   show k ≤ (if xs = st (m + 1) ∧ I (m + 1) then m + 1 else last xs m)
   by_cases h : k = m + 1
   ·subst h; rw [if_pos ⟨hx, hi⟩]; exact Nat.le_refl _
   ·have := ih k (by omega) hx hi
    split <;> omega
 have last_is : ∀ xs m k, k ≤ m → xs = st k → I k → xs = st (last xs m) ∧ I (last xs m) := by
  intro xs m
  induction m with
  | zero =>
   intro k hk hx hi
   have : k = 0 := by omega
   subst this; exact ⟨hx, hi⟩
  | succ m ih =>
   intro k hk hx hi
   show xs = st (if xs = st (m + 1) ∧ I (m + 1) then m + 1 else last xs m) ∧ I (if xs = st (m + 1) ∧ I (m + 1) then m + 1 else last xs m)
   by_cases h : xs = st (m + 1) ∧ I (m + 1)
   ·rw [if_pos h]; exact h
   ·rw [if_neg h]
    refine ih k ?_ hx hi
    rcases Nat.lt_or_ge k (m + 1) with hlt | hge
    ·omega
    ·have : k = m + 1 := by omega
     subst this; exact absurd ⟨hx, hi⟩ h
 refine ⟨fun xs => ∃ k, k ≤ n ∧ xs = st k ∧ I k, fun xs => n - last xs n, ⟨0, Nat.zero_le _, h0, hI⟩, ?_⟩
 rintro xs _ hf ⟨k, hk, hx, hi⟩
 obtain ⟨h1, h2⟩ := last_is xs n k hk hx hi
 have h3 := last_le xs n
 generalize hj : last xs n = j at *
 subst h1
 have := hs j h3 h2 hf
 refine VC.den_mono (fun _ _ h => h) _ _ ?_ this
 refine .cons (fun ys hys => ?_) (.refl _)
 obtain ⟨q1, q2, q3⟩ := hys
 refine ⟨⟨j + 1, by omega, q2, q3⟩, ?_⟩
 have := last_ge ys n (j + 1) (by omega) q2 q3
 show n - last ys n < n - last (st j) n
 rw [hj]; omega
theorem den_next {P : Program} {tab : Nat → List CT} {env : List D} {Q : D → List D → Prop} {L : List (List D → Prop)} {es : List E} {xs : List D} {p q : Prop}
  (hp : p) (h : es.map (·.den env) = xs) (hq : q) : (VC.again 0 es).den P tab env Q ((fun ys => p ∧ ys = xs ∧ q) :: L) := ⟨hp, h, hq⟩
def ix (k : Nat) : List D := [.int .i64 k]
theorem ar_add {x y : Int} (h1 : -9223372036854775808 ≤ x + y) (h2 : x + y ≤ 9223372036854775807) : arI .add .i64 x y = x + y := wrap_i64 h1 h2
theorem ar_sub {x y : Int} (h1 : -9223372036854775808 ≤ x - y) (h2 : x - y ≤ 9223372036854775807) : arI .sub .i64 x y = x - y := wrap_i64 h1 h2
theorem rowsTy_map {α : Type} [Enc α] {tab : Nat → List CT} {ts : List CT} (h : ∀ x : α, RowTy tab ts (Enc.cells x)) (l : List α) : RowsTy tab ts (l.map Enc.cells) :=
 RowsTy.of (by intro r hr; obtain ⟨x, _, rfl⟩ := List.mem_map.1 hr; exact h x)
theorem fits_encS {α : Type} [Enc α] {l : List α} (h : Fits (encS l)) : l.length ≤ maxLen := by
 unfold encS Fits at h; simpa using h.1
theorem cmpI_lss (x y : Int) : cmpI .lss x y = decide (x < y) := rfl
theorem cmpI_leq (x y : Int) : cmpI .leq x y = decide (x ≤ y) := rfl
theorem cmpI_gtr (x y : Int) : cmpI .gtr x y = decide (x > y) := rfl
theorem cmpI_geq (x y : Int) : cmpI .geq x y = decide (x ≥ y) := rfl
theorem cmpI_eql (x y : Int) : cmpI .eql x y = (x == y) := rfl
theorem cmpI_neq (x y : Int) : cmpI .neq x y = (x != y) := rfl
theorem dEq : (∀ {α β : Type} {f : α → β} {a : α} {l : List α}, List.map f (a :: l) = f a :: List.map f l) ∧ (∀ {α β : Type} {f : α → β}, List.map f [] = []) ∧ (∀ {α β : Type} (f : α → β), Option.map f none = none) ∧ (∀ {α β : Type} (a : α) (f : α → β), Option.map f (some a) = some (f a)) ∧
  (∀ {α : Type} {x : α} {xs : List α} {d : α}, (x :: xs).getD 0 d = x) ∧ (∀ {α : Type} {x : α} {xs : List α} {n : Nat} {d : α}, (x :: xs).getD (n + 1) d = xs.getD n d) ∧ (∀ {α : Type} {a : α} {r s : List α}, (a :: r) ++ s = a :: (r ++ s)) ∧ (∀ {α : Type} (r : List α), [] ++ r = r) ∧ (∀ {α : Type} (r : List α), r ++ [] = r) ∧
  (∀ {α : Type} {a : α} {l : List α} {i : Nat}, (a :: l).drop (i + 1) = l.drop i) ∧ (∀ {α : Type} {l : List α}, l.drop 0 = l) ∧ (∀ {α : Type} {a : α} {l : List α} {i : Nat}, (a :: l).take (i + 1) = a :: l.take i) ∧ (∀ {α : Type} {l : List α}, l.take 0 = []) ∧
  (∀ (k : IntKind) (n : Int), (D.int k n).toI = n) ∧ (∀ b : Bool, (D.bool b).toB = b) ∧ (∀ s : ByteArray, (D.str s).toS = s) ∧ (∀ l : List D, (D.agg l).toA = l) ∧ (∀ l : List D, (D.tup l).toT = l) ∧ (∀ l : List (List D), (D.sl l).toR = l) ∧
  (∀ {α : Type} [Enc α] (x : α), (enc x).toA = Enc.cells x) ∧ (∀ {α : Type} [Enc α] (l : List α), (encS l).toR = l.map Enc.cells) ∧ (∀ {α : Type} [Enc α] (l : List α), lenD (encS l) = l.length) :=
 ⟨by simp, by simp, by simp, by simp, by simp, by simp, by simp, by simp, by simp, by simp, by simp, by simp, by simp, by simp, by simp, by simp, by simp, by simp, by simp, by simp, by simp, by simp⟩
theorem iEq : (∀ x y : Int, cmpI .lss x y = decide (x < y)) ∧ (∀ x y : Int, cmpI .leq x y = decide (x ≤ y)) ∧ (∀ x y : Int, cmpI .gtr x y = decide (x > y)) ∧ (∀ x y : Int, cmpI .geq x y = decide (x ≥ y)) ∧ (∀ x y : Int, cmpI .eql x y = (x == y)) ∧ (∀ x y : Int, cmpI .neq x y = (x != y)) ∧ (∀ n : Nat, (n : Int).toNat = n) ∧ (0 : Int).toNat = 0 :=
 ⟨cmpI_lss, cmpI_leq, cmpI_gtr, cmpI_geq, cmpI_eql, cmpI_neq, Int.toNat_natCast, rfl⟩
end Go.Proofs.YtimickglpboilaaGreat
/- The program's structures as plain types: their cells, their types, equality. Written by gen2.py. -/
namespace Go.Proofs.YtimickglpboilaaGreat
open Go.RowKit Go
variable [GC]
instance : Enc ByteArray := { cells := fun s => [.str s] }
instance : Enc Int := { cells := fun n => [.int .i64 n] }
theorem cells_str (s : ByteArray) : Enc.cells s = [.str s] := rfl
theorem cells_int (n : Int) : Enc.cells n = [.int .i64 n] := rfl
theorem row_str (l : List ByteArray) (k : Nat) : D.agg (((l.map Enc.cells)[k]?).getD [zeroD CT.str]) = enc (nth l k) := row_enc l k rfl
theorem row_int (l : List Int) (k : Nat) : D.agg (((l.map Enc.cells)[k]?).getD [zeroD (CT.int .i64)]) = enc (nth l k) := row_enc l k rfl
def byteZ (s : ByteArray) (k : Nat) : Int := ((s[k]?).map fun (c : UInt8) => (c.toNat : Int)).getD 0
theorem at_byte (s : ByteArray) (k : Nat) : ((s[k]?).map fun (c : UInt8) => (c.toNat : Int)).getD 0 = byteZ s k := rfl
theorem fits_str {s : ByteArray} (h : Fits (.str s)) : s.size ≤ 9223372036854775807 := by simpa [Fits, maxLen] using h
theorem len_str (s : ByteArray) : lenD (.str s) = s.size := rfl
theorem ty_str (s : ByteArray) : RowTy tbl.tab [.str] (Enc.cells s) := by simp [cells_str, RowTy, HasTy]
theorem tab_str : tbl.tab 9 = [.str] := by kernel_rfl
theorem ty_strS (l : List ByteArray) : HasTy tbl.tab (.sl 9) (encS l) := by
 show RowsTy _ (tbl.tab _) _
 rw [tab_str]; exact rowsTy_map ty_str l
theorem decR {α : Type} [Enc α] {tab : Nat → List CT} {ts : List CT} (h : ∀ row, RowTy tab ts row → ∃ x : α, row = Enc.cells x) : ∀ {rows : List (List D)}, RowsTy tab ts rows → ∃ l : List α, rows = l.map Enc.cells
 | [], _ => ⟨[], rfl⟩
 | r :: rows, hr => by
  simp only [RowsTy] at hr
  obtain ⟨x, rfl⟩ := h r hr.1
  obtain ⟨l, rfl⟩ := decR h hr.2
  exact ⟨x :: l, rfl⟩
theorem dec_str (row : List D) (h : RowTy tbl.tab [.str] row) : ∃ x : ByteArray, row = Enc.cells x := by
 match row, h with
 | [a], h => obtain ⟨s, rfl⟩ := hasTy_str h.1; exact ⟨s, rfl⟩
theorem decS_str {d : D} (h : HasTy tbl.tab (.sl 9) d) : ∃ l : List ByteArray, d = encS l := by
 obtain ⟨rows, rfl, hr⟩ := hasTy_sl h
 rw [tab_str] at hr
 obtain ⟨l, rfl⟩ := decR dec_str hr
 exact ⟨l, rfl⟩
theorem toList_eqB (a b : ByteArray) : (a.toList == b.toList) = decide (a = b) := by
 rw [Bool.eq_iff_iff]
 simp only [beq_iff_eq, decide_eq_true_eq]
 refine ⟨fun h => ?_, fun h => by rw [h]⟩
 rw [ByteArray.toList_eq, ByteArray.toList_eq] at h
 cases a; cases b; simp_all [Array.toList_inj]
theorem cmpS_eql (a b : ByteArray) : cmpS .eql a b = decide (a = b) := toList_eqB a b
theorem cmpS_neq (a b : ByteArray) : cmpS .neq a b = !decide (a = b) := by rw [← toList_eqB]; rfl
def ltB (a b : ByteArray) : Bool := Op.bytesLess a.toList b.toList
theorem cmpS_lss (a b : ByteArray) : cmpS .lss a b = ltB a b := rfl
theorem cmpS_geq (a b : ByteArray) : cmpS .geq a b = !ltB a b := rfl
theorem sEq : (∀ s : ByteArray, lenD (.str s) = s.size) ∧ (∀ (s : ByteArray) (k : Nat), ((s[k]?).map fun (c : UInt8) => (c.toNat : Int)).getD 0 = byteZ s k) ∧ (∀ a b : ByteArray, cmpS .eql a b = decide (a = b)) ∧ (∀ a b : ByteArray, cmpS .neq a b = !decide (a = b)) ∧ (∀ a b : ByteArray, cmpS .lss a b = ltB a b) ∧ (∀ a b : ByteArray, cmpS .geq a b = !ltB a b) := ⟨len_str, at_byte, cmpS_eql, cmpS_neq, cmpS_lss, cmpS_geq⟩
structure Layer where
 name : ByteArray
 count : Int
 deriving DecidableEq, Inhabited
instance : Enc Layer := { cells := fun v => [.str v.name, .int .i64 v.count] }
theorem cells_Layer (v : Layer) : Enc.cells v = [.str v.name, .int .i64 v.count] := rfl
theorem row_Layer (l : List Layer) (k : Nat) : D.agg (((l.map Enc.cells)[k]?).getD [zeroD (CT.str), zeroD (CT.int .i64)]) = enc (nth l k) := row_enc l k rfl
theorem eq_Layer (v u : Layer) : v = u ↔ v.name = u.name ∧ v.count = u.count := ⟨fun h => by subst h; simp, fun h => by cases v; cases u; simp_all⟩
theorem ty_Layer (v : Layer) : RowTy tbl.tab [.str, .int .i64] (Enc.cells v) := ⟨trivial, rfl, trivial⟩
theorem tab_Layer : tbl.tab 126 = [.str, .int .i64] := by kernel_rfl
theorem ty_LayerS (l : List Layer) : HasTy tbl.tab (.sl 126) (encS l) := by
 show RowsTy _ (tbl.tab _) _
 rw [tab_Layer]; exact rowsTy_map ty_Layer l
structure Cell where
 key : ByteArray
 val : Int
 deriving DecidableEq, Inhabited
instance : Enc Cell := { cells := fun v => [.str v.key, .int .i64 v.val] }
theorem cells_Cell (v : Cell) : Enc.cells v = [.str v.key, .int .i64 v.val] := rfl
theorem row_Cell (l : List Cell) (k : Nat) : D.agg (((l.map Enc.cells)[k]?).getD [zeroD (CT.str), zeroD (CT.int .i64)]) = enc (nth l k) := row_enc l k rfl
theorem eq_Cell (v u : Cell) : v = u ↔ v.key = u.key ∧ v.val = u.val := ⟨fun h => by subst h; simp, fun h => by cases v; cases u; simp_all⟩
theorem ty_Cell (v : Cell) : RowTy tbl.tab [.str, .int .i64] (Enc.cells v) := ⟨trivial, rfl, trivial⟩
theorem tab_Cell : tbl.tab 135 = [.str, .int .i64] := by kernel_rfl
theorem ty_CellS (l : List Cell) : HasTy tbl.tab (.sl 135) (encS l) := by
 show RowsTy _ (tbl.tab _) _
 rw [tab_Cell]; exact rowsTy_map ty_Cell l
structure Core where
 kind : ByteArray
 on : Bool
 broken : Bool
 cells : List Cell
 count : Int
 deriving DecidableEq, Inhabited
instance : Enc Core := { cells := fun v => [.str v.kind, .bool v.on, .bool v.broken, encS v.cells, .int .i64 v.count] }
theorem cells_Core (v : Core) : Enc.cells v = [.str v.kind, .bool v.on, .bool v.broken, encS v.cells, .int .i64 v.count] := rfl
theorem eq_Core (v u : Core) : v = u ↔ v.kind = u.kind ∧ v.on = u.on ∧ v.broken = u.broken ∧ v.cells = u.cells ∧ v.count = u.count := ⟨fun h => by subst h; simp, fun h => by cases v; cases u; simp_all⟩
theorem ty_Core (v : Core) : RowTy tbl.tab [.str, .bool, .bool, .sl 135, .int .i64] (Enc.cells v) := ⟨trivial, trivial, trivial, ty_CellS _, rfl, trivial⟩
structure Call where
 method : ByteArray
 key : ByteArray
 val : Int
 text : ByteArray
 deriving DecidableEq, Inhabited
instance : Enc Call := { cells := fun v => [.str v.method, .str v.key, .int .i64 v.val, .str v.text] }
theorem cells_Call (v : Call) : Enc.cells v = [.str v.method, .str v.key, .int .i64 v.val, .str v.text] := rfl
theorem eq_Call (v u : Call) : v = u ↔ v.method = u.method ∧ v.key = u.key ∧ v.val = u.val ∧ v.text = u.text := ⟨fun h => by subst h; simp, fun h => by cases v; cases u; simp_all⟩
theorem ty_Call (v : Call) : RowTy tbl.tab [.str, .str, .int .i64, .str] (Enc.cells v) := ⟨trivial, trivial, rfl, trivial, trivial⟩
structure Reply where
 code : Int
 val : Int
 text : ByteArray
 want : Int
 had : Int
 deriving DecidableEq, Inhabited
instance : Enc Reply := { cells := fun v => [.int .i64 v.code, .int .i64 v.val, .str v.text, .int .i64 v.want, .int .i64 v.had] }
theorem cells_Reply (v : Reply) : Enc.cells v = [.int .i64 v.code, .int .i64 v.val, .str v.text, .int .i64 v.want, .int .i64 v.had] := rfl
theorem ty_Reply (v : Reply) : RowTy tbl.tab [.int .i64, .int .i64, .str, .int .i64, .int .i64] (Enc.cells v) := ⟨rfl, rfl, trivial, rfl, rfl, trivial⟩
structure Part where
 core : Core
 layers : List Layer
 deriving DecidableEq, Inhabited
instance : Enc Part := { cells := fun v => [.str v.core.kind, .bool v.core.on, .bool v.core.broken, encS v.core.cells, .int .i64 v.core.count, encS v.layers] }
theorem cells_Part (v : Part) : Enc.cells v = [.str v.core.kind, .bool v.core.on, .bool v.core.broken, encS v.core.cells, .int .i64 v.core.count, encS v.layers] := rfl
theorem row_Part (l : List Part) (k : Nat) : D.agg (((l.map Enc.cells)[k]?).getD [zeroD (CT.str), zeroD (CT.bool), zeroD (CT.bool), zeroD (CT.sl 135), zeroD (CT.int .i64), zeroD (CT.sl 126)]) = enc (nth l k) := row_enc l k rfl
theorem eq_Part (v u : Part) : v = u ↔ v.core = u.core ∧ v.layers = u.layers := ⟨fun h => by subst h; simp, fun h => by cases v; cases u; simp_all⟩
theorem ty_Part (v : Part) : RowTy tbl.tab [.str, .bool, .bool, .sl 135, .int .i64, .sl 126] (Enc.cells v) := ⟨trivial, trivial, trivial, ty_CellS _, rfl, ty_LayerS _, trivial⟩
theorem tab_Part : tbl.tab 56 = [.str, .bool, .bool, .sl 135, .int .i64, .sl 126] := by kernel_rfl
theorem ty_PartS (l : List Part) : HasTy tbl.tab (.sl 56) (encS l) := by
 show RowsTy _ (tbl.tab _) _
 rw [tab_Part]; exact rowsTy_map ty_Part l
structure Ver where
 maj : Int
 min : Int
 deriving DecidableEq, Inhabited
instance : Enc Ver := { cells := fun v => [.int .i64 v.maj, .int .i64 v.min] }
theorem cells_Ver (v : Ver) : Enc.cells v = [.int .i64 v.maj, .int .i64 v.min] := rfl
theorem eq_Ver (v u : Ver) : v = u ↔ v.maj = u.maj ∧ v.min = u.min := ⟨fun h => by subst h; simp, fun h => by cases v; cases u; simp_all⟩
theorem ty_Ver (v : Ver) : RowTy tbl.tab [.int .i64, .int .i64] (Enc.cells v) := ⟨rfl, rfl, trivial⟩
theorem ty_laws_Ver (v : Ver) : RowTy tbl.tab [.int .i64, .int .i64] (Enc.cells v) := ⟨rfl, rfl, trivial⟩
structure Need where
 face : Int
 frm : ByteArray
 least : Ver
 deriving DecidableEq, Inhabited
instance : Enc Need := { cells := fun v => [.int .i64 v.face, .str v.frm, .int .i64 v.least.maj, .int .i64 v.least.min] }
theorem cells_Need (v : Need) : Enc.cells v = [.int .i64 v.face, .str v.frm, .int .i64 v.least.maj, .int .i64 v.least.min] := rfl
theorem row_Need (l : List Need) (k : Nat) : D.agg (((l.map Enc.cells)[k]?).getD [zeroD (CT.int .i64), zeroD (CT.str), zeroD (CT.int .i64), zeroD (CT.int .i64)]) = enc (nth l k) := row_enc l k rfl
theorem eq_Need (v u : Need) : v = u ↔ v.face = u.face ∧ v.frm = u.frm ∧ v.least = u.least := ⟨fun h => by subst h; simp, fun h => by cases v; cases u; simp_all⟩
theorem ty_Need (v : Need) : RowTy tbl.tab [.int .i64, .str, .int .i64, .int .i64] (Enc.cells v) := ⟨rfl, trivial, rfl, rfl, trivial⟩
theorem tab_Need : tbl.tab 104 = [.int .i64, .str, .int .i64, .int .i64] := by kernel_rfl
theorem ty_NeedS (l : List Need) : HasTy tbl.tab (.sl 104) (encS l) := by
 show RowsTy _ (tbl.tab _) _
 rw [tab_Need]; exact rowsTy_map ty_Need l
theorem ty_laws_Need (v : Need) : RowTy tbl.tab [.int .i64, .str, .int .i64, .int .i64] (Enc.cells v) := ⟨rfl, trivial, rfl, rfl, trivial⟩
theorem tab_laws_Need : tbl.tab 109 = [.int .i64, .str, .int .i64, .int .i64] := by kernel_rfl
theorem ty_laws_NeedS (l : List Need) : HasTy tbl.tab (.sl 109) (encS l) := by
 show RowsTy _ (tbl.tab _) _
 rw [tab_laws_Need]; exact rowsTy_map ty_laws_Need l
theorem dec_laws_Need (row : List D) (h : RowTy tbl.tab [.int .i64, .str, .int .i64, .int .i64] row) : ∃ x : Need, row = Enc.cells x := by
 match row, h with
 | [a0, a1, a2, a3], h =>
  obtain ⟨b0, rfl⟩ := hasTy_int (h.1)
  obtain ⟨b1, rfl⟩ := hasTy_str (h.2.1)
  obtain ⟨b2, rfl⟩ := hasTy_int (h.2.2.1)
  obtain ⟨b3, rfl⟩ := hasTy_int (h.2.2.2.1)
  exact ⟨⟨b0, b1, ⟨b2, b3⟩⟩, rfl⟩
theorem decS_laws_Need {d : D} (h : HasTy tbl.tab (.sl 109) d) : ∃ l : List Need, d = encS l := by
 obtain ⟨rows, rfl, hr⟩ := hasTy_sl h
 rw [tab_laws_Need] at hr
 obtain ⟨l, rfl⟩ := decR dec_laws_Need hr
 exact ⟨l, rfl⟩
structure Entry where
 name : ByteArray
 recipe : List ByteArray
 ver : Ver
 needs : List Need
 deriving DecidableEq, Inhabited
instance : Enc Entry := { cells := fun v => [.str v.name, encS v.recipe, .int .i64 v.ver.maj, .int .i64 v.ver.min, encS v.needs] }
theorem cells_Entry (v : Entry) : Enc.cells v = [.str v.name, encS v.recipe, .int .i64 v.ver.maj, .int .i64 v.ver.min, encS v.needs] := rfl
theorem row_Entry (l : List Entry) (k : Nat) : D.agg (((l.map Enc.cells)[k]?).getD [zeroD (CT.str), zeroD (CT.sl 9), zeroD (CT.int .i64), zeroD (CT.int .i64), zeroD (CT.sl 104)]) = enc (nth l k) := row_enc l k rfl
theorem eq_Entry (v u : Entry) : v = u ↔ v.name = u.name ∧ v.recipe = u.recipe ∧ v.ver = u.ver ∧ v.needs = u.needs := ⟨fun h => by subst h; simp, fun h => by cases v; cases u; simp_all⟩
theorem ty_Entry (v : Entry) : RowTy tbl.tab [.str, .sl 9, .int .i64, .int .i64, .sl 104] (Enc.cells v) := ⟨trivial, ty_strS _, rfl, rfl, ty_NeedS _, trivial⟩
theorem tab_Entry : tbl.tab 50 = [.str, .sl 9, .int .i64, .int .i64, .sl 104] := by kernel_rfl
theorem ty_EntryS (l : List Entry) : HasTy tbl.tab (.sl 50) (encS l) := by
 show RowsTy _ (tbl.tab _) _
 rw [tab_Entry]; exact rowsTy_map ty_Entry l
theorem ty_laws_Entry (v : Entry) : RowTy tbl.tab [.str, .sl 9, .int .i64, .int .i64, .sl 109] (Enc.cells v) := ⟨trivial, ty_strS _, rfl, rfl, ty_laws_NeedS _, trivial⟩
theorem tab_laws_Entry : tbl.tab 43 = [.str, .sl 9, .int .i64, .int .i64, .sl 109] := by kernel_rfl
theorem ty_laws_EntryS (l : List Entry) : HasTy tbl.tab (.sl 43) (encS l) := by
 show RowsTy _ (tbl.tab _) _
 rw [tab_laws_Entry]; exact rowsTy_map ty_laws_Entry l
theorem dec_laws_Entry (row : List D) (h : RowTy tbl.tab [.str, .sl 9, .int .i64, .int .i64, .sl 109] row) : ∃ x : Entry, row = Enc.cells x := by
 match row, h with
 | [a0, a1, a2, a3, a4], h =>
  obtain ⟨b0, rfl⟩ := hasTy_str (h.1)
  obtain ⟨b1, rfl⟩ := decS_str (h.2.1)
  obtain ⟨b2, rfl⟩ := hasTy_int (h.2.2.1)
  obtain ⟨b3, rfl⟩ := hasTy_int (h.2.2.2.1)
  obtain ⟨b4, rfl⟩ := decS_laws_Need (h.2.2.2.2.1)
  exact ⟨⟨b0, b1, ⟨b2, b3⟩, b4⟩, rfl⟩
theorem decS_laws_Entry {d : D} (h : HasTy tbl.tab (.sl 43) d) : ∃ l : List Entry, d = encS l := by
 obtain ⟨rows, rfl, hr⟩ := hasTy_sl h
 rw [tab_laws_Entry] at hr
 obtain ⟨l, rfl⟩ := decR dec_laws_Entry hr
 exact ⟨l, rfl⟩
theorem row_laws_Entry (l : List Entry) (k : Nat) : D.agg (((l.map Enc.cells)[k]?).getD [zeroD (CT.str), zeroD (CT.sl 9), zeroD (CT.int .i64), zeroD (CT.int .i64), zeroD (CT.sl 109)]) = enc (nth l k) := row_enc l k rfl
structure Link where
 frm : ByteArray
 to : ByteArray
 face : Int
 deriving DecidableEq, Inhabited
instance : Enc Link := { cells := fun v => [.str v.frm, .str v.to, .int .i64 v.face] }
theorem cells_Link (v : Link) : Enc.cells v = [.str v.frm, .str v.to, .int .i64 v.face] := rfl
theorem row_Link (l : List Link) (k : Nat) : D.agg (((l.map Enc.cells)[k]?).getD [zeroD (CT.str), zeroD (CT.str), zeroD (CT.int .i64)]) = enc (nth l k) := row_enc l k rfl
theorem ty_Link (v : Link) : RowTy tbl.tab [.str, .str, .int .i64] (Enc.cells v) := ⟨trivial, trivial, rfl, trivial⟩
theorem tab_Link : tbl.tab 117 = [.str, .str, .int .i64] := by kernel_rfl
theorem ty_LinkS (l : List Link) : HasTy tbl.tab (.sl 117) (encS l) := by
 show RowsTy _ (tbl.tab _) _
 rw [tab_Link]; exact rowsTy_map ty_Link l
structure Event where
 kind : Int
 name : ByteArray
 call : Call
 recipe : List ByteArray
 deriving DecidableEq, Inhabited
instance : Enc Event := { cells := fun v => [.int .i64 v.kind, .str v.name, .str v.call.method, .str v.call.key, .int .i64 v.call.val, .str v.call.text, encS v.recipe] }
theorem cells_Event (v : Event) : Enc.cells v = [.int .i64 v.kind, .str v.name, .str v.call.method, .str v.call.key, .int .i64 v.call.val, .str v.call.text, encS v.recipe] := rfl
theorem row_Event (l : List Event) (k : Nat) : D.agg (((l.map Enc.cells)[k]?).getD [zeroD (CT.int .i64), zeroD (CT.str), zeroD (CT.str), zeroD (CT.str), zeroD (CT.int .i64), zeroD (CT.str), zeroD (CT.sl 9)]) = enc (nth l k) := row_enc l k rfl
theorem eq_Event (v u : Event) : v = u ↔ v.kind = u.kind ∧ v.name = u.name ∧ v.call = u.call ∧ v.recipe = u.recipe := ⟨fun h => by subst h; simp, fun h => by cases v; cases u; simp_all⟩
theorem ty_Event (v : Event) : RowTy tbl.tab [.int .i64, .str, .str, .str, .int .i64, .str, .sl 9] (Enc.cells v) := ⟨rfl, trivial, trivial, trivial, rfl, trivial, ty_strS _, trivial⟩
theorem tab_Event : tbl.tab 99 = [.int .i64, .str, .str, .str, .int .i64, .str, .sl 9] := by kernel_rfl
theorem ty_EventS (l : List Event) : HasTy tbl.tab (.sl 99) (encS l) := by
 show RowsTy _ (tbl.tab _) _
 rw [tab_Event]; exact rowsTy_map ty_Event l
structure Host where
 entries : List Entry
 parts : List Part
 up : List ByteArray
 shut : List ByteArray
 log : List Event
 deriving DecidableEq, Inhabited
instance : Enc Host := { cells := fun v => [encS v.entries, encS v.parts, encS v.up, encS v.shut, encS v.log] }
theorem cells_Host (v : Host) : Enc.cells v = [encS v.entries, encS v.parts, encS v.up, encS v.shut, encS v.log] := rfl
theorem eq_Host (v u : Host) : v = u ↔ v.entries = u.entries ∧ v.parts = u.parts ∧ v.up = u.up ∧ v.shut = u.shut ∧ v.log = u.log := ⟨fun h => by subst h; simp, fun h => by cases v; cases u; simp_all⟩
theorem ty_Host (v : Host) : RowTy tbl.tab [.sl 50, .sl 56, .sl 9, .sl 9, .sl 99] (Enc.cells v) := ⟨ty_EntryS _, ty_PartS _, ty_strS _, ty_strS _, ty_EventS _, trivial⟩
theorem nth_mem {α : Type} [Inhabited α] {l : List α} {k : Nat} (h : k < l.length) : nth l k ∈ l := by
 simp [nth, List.getD, List.getElem?_eq_getElem h]
theorem ext_nth {α : Type} [Inhabited α] {l l' : List α} (hl : l.length = l'.length) (h : ∀ i, i < l.length → nth l i = nth l' i) : l = l' := by
 refine List.ext_getElem hl fun i h1 h2 => ?_
 have := h i h1
 simpa [nth, List.getD, List.getElem?_eq_getElem h1, List.getElem?_eq_getElem h2] using this
theorem fits_nth {α : Type} [Enc α] {l : List α} (h : Fits (encS l)) {k : Nat} (hk : k < l.length) : FitsL (Enc.cells (nth l k)) := by
 unfold encS Fits at h
 have : ∀ (rows : List (List D)), FitsR rows → ∀ r ∈ rows, FitsL r := by
  intro rows
  induction rows with
  | nil => intro _ r hr; cases hr
  | cons a t ih => intro h r hr; rcases List.mem_cons.1 hr with rfl | hr; exact h.1; exact ih h.2 r hr
 exact this _ h.2 _ (List.mem_map.2 ⟨_, nth_mem hk, rfl⟩)
def allTo (p : Nat → Bool) : Nat → Bool
 | 0 => true
 | n + 1 => allTo p n && p n
theorem allTo_iff {p : Nat → Bool} : ∀ {n : Nat}, allTo p n = true ↔ ∀ i, i < n → p i = true
 | 0 => by simp [allTo]
 | n + 1 => by
  simp only [allTo, Bool.and_eq_true, allTo_iff]
  exact ⟨fun ⟨h1, h2⟩ i hi => by
   by_cases e : i = n
   ·subst e; exact h2
   ·exact h1 i (by omega), fun h => ⟨fun i hi => h i (by omega), h n (by omega)⟩⟩
theorem allTo_bad {p : Nat → Bool} {n k : Nat} (hk : k < n) (h : p k = false) : allTo p n = false := by
 rcases hb : allTo p n with _ | _
 ·rfl
 ·have := allTo_iff.1 hb k hk; rw [h] at this; cases this
end Go.Proofs.YtimickglpboilaaGreat
/- A row of one's own that is filled place by place ('out := make([]T, n); for i .. { out[i] = .. }'), on abstract data. No program in sight. -/
namespace Go.Proofs.YtimickglpboilaaGreat
open Go.RowKit
variable [GC]
theorem run_make_rowN {P : Program} (t e : TypeId) (i : TypeInfo) (z : Value) (ht : P.underlying t = some (.slice e)) (hi : P.info? e = some i) (hz : i.zero = some z)
  (kl kc : IntKind) (n c : Nat) (hnc : n ≤ c) (hbytes : i.bytes * c ≤ 281474976710656) (h63 : c ≤ 9223372036854775807) (w : World) :
  (Instr.makeSlice t (.int kl (n : Int)) (.int kc (c : Int))).run P w = .ok (.slice (some ⟨w.heap.size, 0, none⟩) n c) (w.alloc (.cells (madeCells z.cells (c * i.size)) e)) := by
 have hb : (i.bytes : Int) * (c : Int) ≤ 281474976710656 := by
  have h : ((i.bytes * c : Nat) : Int) ≤ 281474976710656 := by omega
  rwa [Int.natCast_mul] at h
 have hr := run_make (P := P) w t e i z ht hi hz kl kc n c (by omega) (by omega) hb (by omega)
 simp only [Int.toNat_natCast] at hr
 exact hr
theorem run_make_at {P : Program} (t e : TypeId) {z : Value} {size bytes : Nat} (ht : P.underlying t = some (.slice e)) (h : (P.info? e).map (fun i => (i.zero, i.size, i.bytes)) = some (some z, size, bytes))
  (kl kc : IntKind) (n : Nat) (hbytes : bytes * n ≤ 281474976710656) (h63 : n ≤ 9223372036854775807) (w : World) :
  (Instr.makeSlice t (.int kl (n : Int)) (.int kc (n : Int))).run P w = .ok (.slice (some ⟨w.heap.size, 0, none⟩) n n) (w.alloc (.cells (madeCells z.cells (n * size)) e)) := by
 obtain ⟨i, hi, hz, h1, h2⟩ := info_parts h
 have := run_make_rowN t e i z ht hi hz kl kc n n (Nat.le_refl _) (by rw [h2]; exact hbytes) h63 w
 rw [h1] at this
 exact this
def setN (w : World) (g o : Nat) : List Value → World
 | [] => w
 | u :: r => setN (w.setCell ⟨g, o, none⟩ u) g (o + 1) r
def setA (C : Array Value) (o : Nat) : List Value → Array Value
 | [] => C
 | u :: r => setA (C.setIfInBounds o u) (o + 1) r
theorem RBlk.setN {w : World} {g : Nat} {t : TypeId} : ∀ {C : Array Value} {o : Nat} (cs : List Value), RBlk w g t C → RBlk (setN w g o cs) g t (setA C o cs)
 | _, _, [], h => h
 | C, o, u :: r, h => by
  have h1 := h.set_ o u
  unfold Go.Proofs.YtimickglpboilaaGreat.setN setA
  exact RBlk.setN r h1
theorem size_setA : ∀ (cs : List Value) (C : Array Value) (o : Nat), (setA C o cs).size = C.size
 | [], _, _ => rfl
 | u :: r, C, o => by unfold setA; rw [size_setA r]; simp
theorem setA_out : ∀ (cs : List Value) (C : Array Value) (o i : Nat), i < o ∨ o + cs.length ≤ i → (setA C o cs)[i]? = C[i]?
 | [], _, _, _, _ => rfl
 | u :: r, C, o, i, h => by
  simp only [List.length_cons] at h
  unfold setA
  rw [setA_out r _ _ _ (by omega)]
  simp [Array.getElem?_setIfInBounds]; omega
theorem setA_in : ∀ (cs : List Value) (C : Array Value) (o j : Nat) (u : Value), o + cs.length ≤ C.size → cs[j]? = some u → (setA C o cs)[o + j]? = some u
 | [], _, _, _, _, _, h => by simp at h
 | v :: r, C, o, 0, u, hs, h => by
  simp only [List.length_cons] at hs
  simp at h; subst h
  unfold setA
  rw [setA_out r _ _ _ (by omega)]
  simp [Array.getElem?_setIfInBounds]; omega
 | v :: r, C, o, j + 1, u, hs, h => by
  simp only [List.length_cons] at hs
  simp at h
  unfold setA
  have := setA_in r (C.setIfInBounds o v) (o + 1) j u (by simp; omega) h
  rwa [show o + (j + 1) = o + 1 + j by omega]
theorem heap_setN (b : Nat) : ∀ (cs : List Value) (w : World) (g o : Nat), b ≠ g → (setN w g o cs).heap[b]? = w.heap[b]?
 | [], _, _, _, _ => rfl
 | u :: r, w, g, o, h => by
  unfold setN
  rw [heap_setN b r _ _ _ h]
  exact Below.heap_setCell _ _ _ _ h
def RowN (w : World) (M : Addr → Prop) (g : Nat) (T : TypeId) (len n k : Nat) (rows : List (List D)) : Prop :=
 ∃ C : Array Value, RBlk w g T C ∧ C.size = len * n ∧ ∃ vs : List Value, Rs w M (rows.take k).flatten vs ∧ ∀ (i : Nat) (u : Value), vs[i]? = some u → C[i]? = some u
def own (M : Addr → Prop) (g : Nat) : Addr → Prop := fun p => M p ∨ p.block = g
section
variable {w w1 : World} {M : Addr → Prop} {g : Nat} {T : TypeId} {len n k : Nat} {rows : List (List D)}
theorem RowN.new {C : Array Value} (h : RBlk w g T C) (hs : C.size = len * n) : RowN w M g T len n 0 rows := ⟨C, h, hs, [], rfl, fun i u h => by simp at h⟩
theorem RowN.free (h : RowN w M g T len n k rows) (i : Nat) : w.frozen? ⟨g, i, none⟩ = false := by
 obtain ⟨C, h1, _⟩ := h
 exact h1.frozen i
theorem RowN.lt (h : RowN w M g T len n k rows) : g < w.heap.size := by
 obtain ⟨C, h1, _⟩ := h
 exact h1.lt
theorem RowN.step {us : List Value} {row : List D} (h : RowN w (own M g) g T len n k rows) (hk : k < len) (hrow : rows[k]? = some row) (hn : ∀ r ∈ rows, r.length = n) (hr : Rs w (own M g) row us) : RowN (setN w g (k * n) us) (own M g) g T len n (k + 1) rows := by
 obtain ⟨C, h1, h2, vs, h3, h4⟩ := h
 have hrl := hn row (List.mem_of_getElem? hrow)
 have hul : us.length = n := by rw [hr.length, hrl]
 have hle : k * n + us.length ≤ C.size := by
  rw [h2, hul]
  calc k * n + n = (k + 1) * n := by rw [Nat.add_mul, Nat.one_mul]
   _ ≤ len * n := Nat.mul_le_mul_right _ hk
 have hklt : k < rows.length := (List.getElem?_eq_some_iff.1 hrow).1
 have hvl : vs.length = k * n := by
  rw [h3.length, flat_len (n := n) (fun r hr => hn r (List.mem_of_mem_take hr)), List.length_take, Nat.min_eq_left (by omega)]
 have hkp : Keeps w (own M g) (setN w g (k * n) us) (own M g) := fun p v hp hnm => ⟨by
  rw [← hp]; exact World.cell?_of_block (heap_setN _ _ _ _ _ fun e => hnm (.inr e)), hnm⟩
 refine ⟨setA C (k * n) us, RBlk.setN us h1, by rw [size_setA]; exact h2, vs ++ us, ?_, fun i u hu => ?_⟩
 ·have e : (rows.take (k + 1)).flatten = (rows.take k).flatten ++ row := by
   rw [List.take_add_one, hrow]; simp
  rw [e]
  exact (Rs.keep hkp _ _ h3).append (Rs.keep hkp _ _ hr)
 ·rcases Nat.lt_or_ge i vs.length with hlt | hge
  ·rw [List.getElem?_append_left hlt] at hu
   rw [setA_out _ _ _ _ (.inl (by omega))]
   exact h4 i u hu
  ·rw [List.getElem?_append_right hge] at hu
   have := setA_in us C (k * n) (i - vs.length) u hle hu
   rwa [show k * n + (i - vs.length) = i by omega] at this
theorem RowN.done (h : RowN w (own M g) g T len n len rows) (hl : len = rows.length) (hn : ∀ r ∈ rows, r.length = n) (hM : ∀ p, p.block = g → ¬ M p) (hm : len ≤ maxLen) : R w M (.sl rows) (.slice (some ⟨g, 0, none⟩) len len) := by
 obtain ⟨C, h1, h2, vs, h3, h4⟩ := h
 refine ⟨_, _, _, rfl, hl, Nat.le_refl _, hm, (fun e => by cases e), fun b o s e => ?_⟩
 simp only [Option.some.injEq, Addr.mk.injEq] at e
 obtain ⟨rfl, rfl, rfl⟩ := e
 refine ⟨fun _ => rfl, Rws.of_flat (M := own M g) (w := w) (vs := vs) ?_ (fun p v hp hnm => ⟨hp, fun h => hnm (.inl h)⟩) fun i u hu => ⟨?_, hM _ rfl⟩⟩
 ·rwa [List.take_of_length_le (by omega)] at h3
 ·rw [Nat.zero_add, h1.cell]; exact h4 i u hu
end
theorem arg_slice {w : World} {M : Addr → Prop} {rows : List (List D)} {n : Nat} (hn : ∀ r ∈ rows, r.length = n) {v : Value} (h : R w M (.sl rows) v) :
  ∃ a cap, v = .slice a rows.length cap ∧ rows.length ≤ maxLen ∧ ∀ k row, rows[k]? = some row → ∃ b o vs, a = some ⟨b, o, none⟩ ∧ vs.length = n ∧ Rs w M row vs ∧ ∀ (j : Nat) (u : Value), vs[j]? = some u → w.cell? ⟨b, o + k * n + j, none⟩ = some u := by
 obtain ⟨a, len, cap, rfl, rfl, hlc, hcm, hnone, hcells⟩ := h
 refine ⟨a, cap, rfl, by omega, fun k row hk => ?_⟩
 have hlt : k < rows.length := (List.getElem?_eq_some_iff.1 hk).1
 rcases a with _ | ⟨b, o, s⟩
 ·have := hnone rfl; omega
 ·obtain ⟨hs, hrw⟩ := hcells b o s rfl
  have hs := hs (by omega); subst hs
  obtain ⟨vs, e, hr, hc⟩ := (hrw.get hn hk).cells
  exact ⟨b, o, vs, rfl, by rw [e, hn row (List.mem_of_getElem? hk)], hr, hc⟩
def BlkN (w : World) (g : Nat) (T : TypeId) (m : Nat) : Prop := ∃ C : Array Value, RBlk w g T C ∧ C.size = m
theorem RowN.blkN {w : World} {M : Addr → Prop} {g : Nat} {T : TypeId} {len n k : Nat} {rows : List (List D)} (h : RowN w M g T len n k rows) : BlkN w g T (len * n) := by
 obtain ⟨C, h1, h2, _⟩ := h
 exact ⟨C, h1, h2⟩
theorem BlkN.store {P : Program} {w : World} {g : Nat} {T : TypeId} {m o : Nat} {v : Value} (h : BlkN w g T m) (ho : o < m) (hone : v.oneCell' = true) : (store ⟨g, o, none⟩ v).run P w = .ok () (w.setCell ⟨g, o, none⟩ v) ∧ BlkN (w.setCell ⟨g, o, none⟩ v) g T m := by
 obtain ⟨C, h1, h2⟩ := h
 have hc : w.cell? ⟨g, o, none⟩ = some (C[o]'(by omega)) := by rw [h1.cell]; exact Array.getElem?_eq_getElem (by omega)
 refine ⟨by rw [run_store P w _ v .plain hone, hc, h1.frozen o]; rfl, _, h1.set_ o v, by simpa using h2⟩
theorem off_lt {k len n j : Nat} (hk : k < len) (hj : j < n) : k * n + j < len * n := by
 calc k * n + j < k * n + n := by omega
  _ = (k + 1) * n := by rw [Nat.add_mul, Nat.one_mul]
  _ ≤ len * n := Nat.mul_le_mul_right _ hk
theorem len_5 {α : Type} {l : List α} (h : l.length = 5) : ∃ a b c d e, l = [a, b, c, d, e] := match l, h with | [a, b, c, d, e], _ => ⟨a, b, c, d, e, rfl⟩
theorem get_map {α : Type} [Enc α] (l : List α) {k : Nat} (h : k < l.length) : (l.map Enc.cells)[k]? = some (Enc.cells (nth l k)) := by
 rw [List.getElem?_map, nth, List.getD, List.getElem?_eq_getElem h]; rfl
theorem map_len {α : Type} [Enc α] {n : Nat} (h : ∀ x : α, (Enc.cells x).length = n) (l : List α) : ∀ r ∈ l.map Enc.cells, r.length = n := by
 intro r hr; obtain ⟨x, _, rfl⟩ := List.mem_map.1 hr; exact h x
end Go.Proofs.YtimickglpboilaaGreat
