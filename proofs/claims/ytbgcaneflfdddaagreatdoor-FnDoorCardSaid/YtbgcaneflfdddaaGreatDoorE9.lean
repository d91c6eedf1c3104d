/- Conditions of functions of this seat's program. Written by fun.py. -/
import Derived.Test.YtbgcaneflfdddaaGreatDoorE8
set_option linter.unusedVariables false
set_option linter.unusedSimpArgs false
set_option linter.unusedSectionVars false
namespace Go.Proofs.YtbgcaneflfdddaaGreatDoor
open Go
set_option maxRecDepth 1000000
def vc_laws_FnDoor : VC := (.rq (.call [] 14 none [(.var 0)] tyB []) (.ite (.var 1) (.ret (.lb true) []) (.rq (.callR 27 none [(.var 0)] (.tup [tyP, (.c (.sl 39))]) [] [(6, 4)]) (.rq (.callR 29 none [(.proj (.var 2) 0), (.proj (.var 2) 1)] (.tup [tyP, (.c (.sl 34))]) [] [(3, 2), (5, 2), (6, 5)]) (.loop [tyI, tyS, tyB, tyB, (.one (.c (.sl 125))), tyI, (.one (.c (.sl 52)))] [(.li .i64 0), (.cell (.proj (.var 2) 0) 0), (.cell (.proj (.var 2) 0) 1), (.cell (.proj (.var 2) 0) 2), (.cell (.proj (.var 2) 0) 3), (.cell (.proj (.var 2) 0) 4), (.cell (.proj (.var 2) 0) 5)] (.ite (.ic .lss (.var 4) (.len (.proj (.var 3) 1))) (.rq (.cond [] (.inb (.proj (.var 2) 1) (.var 4))) (.rq (.callR 17 none [(.cat (.ag1 (.var 5)) (.cat (.ag1 (.var 6)) (.cat (.ag1 (.var 7)) (.cat (.ag1 (.var 8)) (.cat (.ag1 (.var 9)) (.cat (.ag1 (.var 10)) .ag0)))))), (.row [.str, .str, (.int .i64), .str] (.proj (.var 2) 1) (.var 4))] (.tup [tyP, tyR]) [] [(3, 2), (5, 2)]) (.rq (.cond [] (.inb (.proj (.var 3) 1) (.var 4))) (.ite (.or (.no (.ae (.proj (.var 11) 1) (.row [(.int .i64), (.int .i64), .str, (.int .i64), (.int .i64)] (.proj (.var 3) 1) (.var 4)))) (.an (.ic .eql (.cell (.proj (.var 11) 1) 0) (.li .i64 1)) (.ic .neq (.ar .add .i64 (.var 4) (.li .i64 1)) (.len (.proj (.var 3) 1))))) (.ret (.lb false) []) (.again 0 [(.ar .add .i64 (.var 4) (.li .i64 1)), (.cell (.proj (.var 11) 0) 0), (.cell (.proj (.var 11) 0) 1), (.cell (.proj (.var 11) 0) 2), (.cell (.proj (.var 11) 0) 3), (.cell (.proj (.var 11) 0) 4), (.cell (.proj (.var 11) 0) 5)]))))) (.rq (.call [] 22 none [(.cat (.ag1 (.var 5)) (.cat (.ag1 (.var 6)) (.cat (.ag1 (.var 7)) (.cat (.ag1 (.var 8)) (.cat (.ag1 (.var 9)) (.cat (.ag1 (.var 10)) .ag0)))))), (.proj (.var 3) 0)] tyB []) (.rq (.cond [((.no (.var 11)), false), ((.ic .lss (.len (.proj (.var 3) 1)) (.len (.proj (.var 2) 1))), true), ((.ic .eql (.len (.proj (.var 3) 1)) (.li .i64 0)), false)] (.inb (.proj (.var 3) 1) (.ar .sub .i64 (.len (.proj (.var 3) 1)) (.li .i64 1)))) (.ite (.or (.no (.var 11)) (.an (.ic .lss (.len (.proj (.var 3) 1)) (.len (.proj (.var 2) 1))) (.or (.ic .eql (.len (.proj (.var 3) 1)) (.li .i64 0)) (.ic .neq (.cell (.row [(.int .i64), (.int .i64), .str, (.int .i64), (.int .i64)] (.proj (.var 3) 1) (.ar .sub .i64 (.len (.proj (.var 3) 1)) (.li .i64 1))) 0) (.li .i64 1))))) (.ret (.lb false) []) (.rq (.cond [((.ic .eql (.len (.proj (.var 3) 1)) (.li .i64 0)), false)] (.inb (.proj (.var 3) 1) (.ar .sub .i64 (.len (.proj (.var 3) 1)) (.li .i64 1)))) (.ite (.or (.ic .eql (.len (.proj (.var 3) 1)) (.li .i64 0)) (.ic .neq (.cell (.row [(.int .i64), (.int .i64), .str, (.int .i64), (.int .i64)] (.proj (.var 3) 1) (.ar .sub .i64 (.len (.proj (.var 3) 1)) (.li .i64 1))) 0) (.li .i64 1))) (.ret (.lb true) []) (.rq (.cond [] (.inc (.proj (.var 2) 1) (.len (.proj (.var 3) 1)) (.len (.proj (.var 2) 1)))) (.rq (.callR 29 none [(.proj (.var 3) 0), (.cut (.proj (.var 2) 1) (.len (.proj (.var 3) 1)) (.len (.proj (.var 2) 1)))] (.tup [tyP, (.c (.sl 34))]) [] [(3, 2), (5, 2), (6, 5)]) (.rq (.cond [] (.inc (.proj (.var 2) 1) (.li .i64 0) (.ar .sub .i64 (.len (.proj (.var 3) 1)) (.li .i64 1)))) (.rq (.cond [] (.few (.nilS 39) (.cut (.proj (.var 2) 1) (.li .i64 0) (.ar .sub .i64 (.len (.proj (.var 3) 1)) (.li .i64 1))))) (.rq (.cond [] (.inc (.proj (.var 2) 1) (.len (.proj (.var 3) 1)) (.len (.proj (.var 2) 1)))) (.rq (.cond [] (.few (.app (.nilS 39) (.cut (.proj (.var 2) 1) (.li .i64 0) (.ar .sub .i64 (.len (.proj (.var 3) 1)) (.li .i64 1)))) (.cut (.proj (.var 2) 1) (.len (.proj (.var 3) 1)) (.len (.proj (.var 2) 1))))) (.rq (.callR 29 none [(.proj (.var 2) 0), (.app (.app (.nilS 39) (.cut (.proj (.var 2) 1) (.li .i64 0) (.ar .sub .i64 (.len (.proj (.var 3) 1)) (.li .i64 1)))) (.cut (.proj (.var 2) 1) (.len (.proj (.var 3) 1)) (.len (.proj (.var 2) 1))))] (.tup [tyP, (.c (.sl 34))]) [] [(3, 2), (5, 2), (6, 5)]) (.rq (.call [] 22 none [(.proj (.var 12) 0), (.proj (.var 13) 0)] tyB []) (.ite (.var 14) (.rq (.cond [] (.inc (.proj (.var 3) 1) (.li .i64 0) (.ar .sub .i64 (.len (.proj (.var 3) 1)) (.li .i64 1)))) (.rq (.cond [] (.few (.nilS 34) (.cut (.proj (.var 3) 1) (.li .i64 0) (.ar .sub .i64 (.len (.proj (.var 3) 1)) (.li .i64 1))))) (.rq (.cond [] (.few (.app (.nilS 34) (.cut (.proj (.var 3) 1) (.li .i64 0) (.ar .sub .i64 (.len (.proj (.var 3) 1)) (.li .i64 1)))) (.proj (.var 12) 1))) (.rq (.call [] 32 none [(.app (.app (.nilS 34) (.cut (.proj (.var 3) 1) (.li .i64 0) (.ar .sub .i64 (.len (.proj (.var 3) 1)) (.li .i64 1)))) (.proj (.var 12) 1)), (.proj (.var 13) 1)] tyB []) (.ret (.var 15) []))))) (.ret (.lb false) [])))))))))))))))))))))
theorem vc_laws_FnDoor_ok : vcOf Tryz.prog tbl rbt 11 none = vc_laws_FnDoor := by kernel_rfl
def ty_laws_FnDoor : List VT := [(.one (.c (.sl 5)))]
theorem ty_laws_FnDoor_ok : tyOf Tryz.prog tbl 11 none = ty_laws_FnDoor := by kernel_rfl
def vc_impl_IsPart : VC := (.rq (.call [] 63 none [(.sub (.var 0) 0 5)] tyB []) (.ite (.or (.no (.var 1)) (.ic .gtr (.len (.cell (.var 0) 5)) (.li .i64 3))) (.ret (.lb false) []) (.loop [tyI] [(.li .i64 0)] (.ite (.ic .lss (.var 2) (.len (.cell (.var 0) 5))) (.rq (.cond [] (.inb (.cell (.var 0) 5) (.var 2))) (.rq (.call [] 56 none [(.cell (.row [.str, (.int .i64)] (.cell (.var 0) 5) (.var 2)) 0)] (.tup [(.c (.int .i64)), (.c (.int .i64)), (.c .bool)]) []) (.rq (.call [((.no (.proj (.var 3) 2)), false)] 64 none [(.var 0), (.var 2)] tyI []) (.rq (.call [((.no (.proj (.var 3) 2)), false)] 24 none [(.var 4), (.proj (.var 3) 0)] tyB []) (.rq (.call [((.or (.no (.proj (.var 3) 2)) (.no (.var 5))), false)] 65 none [(.cell (.row [.str, (.int .i64)] (.cell (.var 0) 5) (.var 2)) 1)] tyB []) (.ite (.or (.or (.or (.no (.proj (.var 3) 2)) (.no (.var 5))) (.no (.var 6))) (.an (.an (.ic .neq (.cell (.row [.str, (.int .i64)] (.cell (.var 0) 5) (.var 2)) 1) (.li .i64 0)) (.sc .neq (.cell (.row [.str, (.int .i64)] (.cell (.var 0) 5) (.var 2)) 0) (.ls ⟨#[99, 111, 117, 110, 116, 115]⟩))) (.sc .neq (.cell (.row [.str, (.int .i64)] (.cell (.var 0) 5) (.var 2)) 0) (.ls ⟨#[104, 101, 97, 114, 115]⟩)))) (.ret (.lb false) []) (.again 0 [(.ar .add .i64 (.var 2) (.li .i64 1))]))))))) (.ret (.lb true) [])))))
theorem vc_impl_IsPart_ok : vcOf Tryz.prog tbl rbt 20 none = vc_impl_IsPart := by kernel_rfl
def ty_impl_IsPart : List VT := [(.one tyP)]
theorem ty_impl_IsPart_ok : tyOf Tryz.prog tbl 20 none = ty_impl_IsPart := by kernel_rfl
def vc_impl_Offers : VC := (.rq (.call [] 69 none [(.var 0)] tyB []) (.rq (.call [((.var 2), true)] 69 none [(.var 1)] tyB []) (.ret (.an (.an (.var 2) (.var 3)) (.ic .eql (.ar .andNot .i64 (.var 1) (.var 0)) (.li .i64 0))) [])))
theorem vc_impl_Offers_ok : vcOf Tryz.prog tbl rbt 24 none = vc_impl_Offers := by kernel_rfl
def ty_impl_Offers : List VT := [tyI, tyI]
theorem ty_impl_Offers_ok : tyOf Tryz.prog tbl 24 none = ty_impl_Offers := by kernel_rfl
def vc_spec_IsPart : VC := (.rq (.call [] 70 none [(.sub (.var 0) 0 5)] tyB []) (.ite (.or (.no (.var 1)) (.ic .gtr (.len (.cell (.var 0) 5)) (.li .i64 3))) (.ret (.lb false) []) (.loop [tyI] [(.li .i64 0)] (.ite (.ic .lss (.var 2) (.len (.cell (.var 0) 5))) (.rq (.cond [] (.inb (.cell (.var 0) 5) (.var 2))) (.rq (.call [] 71 none [(.cell (.row [.str, (.int .i64)] (.cell (.var 0) 5) (.var 2)) 0)] (.tup [(.c (.int .i64)), (.c .bool)]) []) (.rq (.call [((.no (.proj (.var 3) 1)), false)] 72 none [(.var 0), (.var 2)] tyI []) (.rq (.call [((.no (.proj (.var 3) 1)), false)] 60 none [(.var 4), (.proj (.var 3) 0)] tyB []) (.ite (.or (.or (.or (.or (.no (.proj (.var 3) 1)) (.no (.var 5))) (.ic .lss (.cell (.row [.str, (.int .i64)] (.cell (.var 0) 5) (.var 2)) 1) (.li .i64 0))) (.ic .gtr (.cell (.row [.str, (.int .i64)] (.cell (.var 0) 5) (.var 2)) 1) (.li .i64 999))) (.an (.ic .gtr (.cell (.row [.str, (.int .i64)] (.cell (.var 0) 5) (.var 2)) 1) (.li .i64 0)) (.no (.or (.sc .eql (.cell (.row [.str, (.int .i64)] (.cell (.var 0) 5) (.var 2)) 0) (.ls ⟨#[99, 111, 117, 110, 116, 115]⟩)) (.sc .eql (.cell (.row [.str, (.int .i64)] (.cell (.var 0) 5) (.var 2)) 0) (.ls ⟨#[104, 101, 97, 114, 115]⟩)))))) (.ret (.lb false) []) (.again 0 [(.ar .add .i64 (.var 2) (.li .i64 1))])))))) (.ret (.lb true) [])))))
theorem vc_spec_IsPart_ok : vcOf Tryz.prog tbl rbt 28 none = vc_spec_IsPart := by kernel_rfl
def ty_spec_IsPart : List VT := [(.one tyP)]
theorem ty_spec_IsPart_ok : tyOf Tryz.prog tbl 28 none = ty_spec_IsPart := by kernel_rfl
def vc_laws_replies : VC := (.ite (.ic .neq (.len (.var 0)) (.len (.var 1))) (.ret (.lb false) []) (.loop [tyI] [(.li .i64 0)] (.ite (.ic .lss (.var 2) (.len (.var 0))) (.rq (.cond [] (.inb (.var 0) (.var 2))) (.rq (.cond [] (.inb (.var 1) (.var 2))) (.ite (.no (.ae (.row [(.int .i64), (.int .i64), .str, (.int .i64), (.int .i64)] (.var 0) (.var 2)) (.row [(.int .i64), (.int .i64), .str, (.int .i64), (.int .i64)] (.var 1) (.var 2)))) (.ret (.lb false) []) (.again 0 [(.ar .add .i64 (.var 2) (.li .i64 1))])))) (.ret (.lb true) []))))
theorem vc_laws_replies_ok : vcOf Tryz.prog tbl rbt 32 none = vc_laws_replies := by kernel_rfl
def ty_laws_replies : List VT := [(.one (.c (.sl 34))), (.one (.c (.sl 34)))]
theorem ty_laws_replies_ok : tyOf Tryz.prog tbl 32 none = ty_laws_replies := by kernel_rfl
def vc_spec_l4Call : VC := (.rq (.call [] 91 (some [(.var 1), (.var 2), (.var 3)]) [] (.one tyC) tyK) (.loop [tyI, (.one (.c (.sl 5))), tyI, tyI, tyS, tyS, tyI, tyS] [(.li .i64 0), (.var 5), (.var 6), (.var 7), (.cell (.var 4) 0), (.cell (.var 4) 1), (.cell (.var 4) 2), (.cell (.var 4) 3)] (.rq (.call [((.ic .lss (.var 8) (.li .i64 4)), true)] 61 none [(.var 0)] tyI []) (.rq (.call [((.ic .lss (.var 8) (.li .i64 4)), true)] 75 none [(.var 12)] tyI []) (.rq (.call [((.ic .lss (.var 8) (.li .i64 4)), true)] 60 none [(.var 16), (.var 17)] tyB []) (.ite (.an (.ic .lss (.var 8) (.li .i64 4)) (.no (.var 18))) (.rq (.call [] 92 (some [(.var 9), (.var 10), (.var 11)]) [] (.one tyC) tyK) (.again 0 [(.ar .add .i64 (.var 8) (.li .i64 1)), (.var 20), (.var 21), (.var 22), (.cell (.var 19) 0), (.cell (.var 19) 1), (.cell (.var 19) 2), (.cell (.var 19) 3)])) (.ret (.cat (.ag1 (.var 12)) (.cat (.ag1 (.var 13)) (.cat (.ag1 (.var 14)) (.cat (.ag1 (.var 15)) .ag0)))) [(.var 9), (.var 10), (.var 11)])))))))
theorem vc_spec_l4Call_ok : vcOf Tryz.prog tbl rbt 53 (some tyK) = vc_spec_l4Call := by kernel_rfl
def ty_spec_l4Call : List VT := [(.one tyP), (.one (.c (.sl 5))), tyI, tyI]
theorem ty_spec_l4Call_ok : tyOf Tryz.prog tbl 53 (some tyK) = ty_spec_l4Call := by kernel_rfl
def vc_spec_l4Copy : VC := (.rq (.callR 98 none [(.sub (.var 0) 0 5)] (.one tyO) [] [(3, 2)]) (.rq (.cond [] (.few (.nilS 52) (.cell (.var 0) 5))) (.ret (.cat (.ag1 (.cell (.var 1) 0)) (.cat (.ag1 (.cell (.var 1) 1)) (.cat (.ag1 (.cell (.var 1) 2)) (.cat (.ag1 (.cell (.var 1) 3)) (.cat (.ag1 (.cell (.var 1) 4)) (.cat (.ag1 (.app (.nilS 52) (.cell (.var 0) 5))) .ag0)))))) [])))
theorem vc_spec_l4Copy_ok : vcOf Tryz.prog tbl rbt 58 none = vc_spec_l4Copy := by kernel_rfl
def ty_spec_l4Copy : List VT := [(.one tyP)]
theorem ty_spec_l4Copy_ok : tyOf Tryz.prog tbl 58 none = ty_spec_l4Copy := by kernel_rfl
theorem rt_spec_l4Copy_ok : rbt.get 58 = [(3, 2), (5, 2)] := by kernel_rfl
def vc_impl_IsCore : VC := (.rq (.call [] 104 none [(.cell (.var 0) 0)] (.tup [(.c (.int .i64)), (.c .bool)]) []) (.rq (.call [((.no (.proj (.var 1) 1)), false)] 105 none [(.cell (.var 0) 3)] tyB []) (.rq (.call [((.or (.or (.no (.proj (.var 1) 1)) (.no (.var 2))) (.an (.ic .gtr (.len (.cell (.var 0) 3)) (.li .i64 0)) (.ic .eql (.ar .and .i64 (.proj (.var 1) 0) (.li .i64 2)) (.li .i64 0)))), false)] 65 none [(.cell (.var 0) 4)] tyB []) (.ite (.or (.or (.or (.no (.proj (.var 1) 1)) (.no (.var 2))) (.an (.ic .gtr (.len (.cell (.var 0) 3)) (.li .i64 0)) (.ic .eql (.ar .and .i64 (.proj (.var 1) 0) (.li .i64 2)) (.li .i64 0)))) (.no (.var 3))) (.ret (.lb false) []) (.ret (.an (.no (.an (.cell (.var 0) 1) (.cell (.var 0) 2))) (.or (.ic .eql (.ar .and .i64 (.proj (.var 1) 0) (.li .i64 1)) (.li .i64 1)) (.an (.no (.cell (.var 0) 1)) (.no (.cell (.var 0) 2))))) [])))))
theorem vc_impl_IsCore_ok : vcOf Tryz.prog tbl rbt 63 none = vc_impl_IsCore := by kernel_rfl
def ty_impl_IsCore : List VT := [(.one tyO)]
theorem ty_impl_IsCore_ok : tyOf Tryz.prog tbl 63 none = ty_impl_IsCore := by kernel_rfl
def vc_impl_IsName : VC := (.rq (.cond [((.or (.ic .lss (.len (.var 0)) (.li .i64 1)) (.ic .gtr (.len (.var 0)) (.li .i64 8))), false)] (.inb (.var 0) (.li .i64 0))) (.rq (.cond [((.or (.or (.ic .lss (.len (.var 0)) (.li .i64 1)) (.ic .gtr (.len (.var 0)) (.li .i64 8))) (.ic .lss (.at (.var 0) (.li .i64 0)) (.li .u8 97))), false)] (.inb (.var 0) (.li .i64 0))) (.ite (.or (.or (.or (.ic .lss (.len (.var 0)) (.li .i64 1)) (.ic .gtr (.len (.var 0)) (.li .i64 8))) (.ic .lss (.at (.var 0) (.li .i64 0)) (.li .u8 97))) (.ic .gtr (.at (.var 0) (.li .i64 0)) (.li .u8 122))) (.ret (.lb false) []) (.loop [tyI] [(.li .i64 0)] (.ite (.ic .lss (.var 1) (.len (.var 0))) (.rq (.cond [] (.inb (.var 0) (.var 1))) (.rq (.cond [((.ic .lss (.at (.var 0) (.var 1)) (.li .u8 97)), false)] (.inb (.var 0) (.var 1))) (.rq (.cond [((.or (.ic .lss (.at (.var 0) (.var 1)) (.li .u8 97)) (.ic .gtr (.at (.var 0) (.var 1)) (.li .u8 122))), true)] (.inb (.var 0) (.var 1))) (.rq (.cond [((.or (.ic .lss (.at (.var 0) (.var 1)) (.li .u8 97)) (.ic .gtr (.at (.var 0) (.var 1)) (.li .u8 122))), true), ((.ic .lss (.at (.var 0) (.var 1)) (.li .u8 48)), false)] (.inb (.var 0) (.var 1))) (.ite (.an (.or (.ic .lss (.at (.var 0) (.var 1)) (.li .u8 97)) (.ic .gtr (.at (.var 0) (.var 1)) (.li .u8 122))) (.or (.ic .lss (.at (.var 0) (.var 1)) (.li .u8 48)) (.ic .gtr (.at (.var 0) (.var 1)) (.li .u8 57)))) (.ret (.lb false) []) (.again 0 [(.ar .add .i64 (.var 1) (.li .i64 1))])))))) (.ret (.lb true) []))))))
theorem vc_impl_IsName_ok : vcOf Tryz.prog tbl rbt 67 none = vc_impl_IsName := by kernel_rfl
def ty_impl_IsName : List VT := [tyS]
theorem ty_impl_IsName_ok : tyOf Tryz.prog tbl 67 none = ty_impl_IsName := by kernel_rfl
def vc_spec_LayerNeeds : VC := (.rq (.call [] 59 none [(.var 0)] (.tup [(.c (.int .i64)), (.c (.int .i64)), (.c .bool)]) []) (.ret (.tp1 (.tp1 .tp0 (.proj (.var 1) 0)) (.proj (.var 1) 2)) []))
theorem vc_spec_LayerNeeds_ok : vcOf Tryz.prog tbl rbt 71 none = vc_spec_LayerNeeds := by kernel_rfl
def ty_spec_LayerNeeds : List VT := [tyS]
theorem ty_spec_LayerNeeds_ok : tyOf Tryz.prog tbl 71 none = ty_spec_LayerNeeds := by kernel_rfl
def vc_spec_WantOf : VC := (.rq (.call [] 112 none [(.var 0)] tyI []) (.ite (.ic .lss (.var 1) (.li .i64 0)) (.ret (.li .i64 0) []) (.rq (.cond [] (.ic .geq (.var 1) (.li .i64 0))) (.ret (.ar .shl .i64 (.li .i64 1) (.var 1)) []))))
theorem vc_spec_WantOf_ok : vcOf Tryz.prog tbl rbt 75 none = vc_spec_WantOf := by kernel_rfl
def ty_spec_WantOf : List VT := [tyS]
theorem ty_spec_WantOf_ok : tyOf Tryz.prog tbl 75 none = ty_spec_WantOf := by kernel_rfl
def vc_spec_l4Fitting : VC := (.rq (.call [] 102 (some [(.var 1), (.var 2), (.var 3)]) [] tyS tyK) (.loop [tyS, tyI, (.one (.c (.sl 5))), tyI, tyI] [(.var 4), (.li .i64 0), (.var 5), (.var 6), (.var 7)] (.ite (.ic .lss (.var 9) (.li .i64 6)) (.rq (.call [] 71 none [(.var 8)] (.tup [(.c (.int .i64)), (.c .bool)]) []) (.rq (.call [((.proj (.var 13) 1), true)] 60 none [(.var 0), (.proj (.var 13) 0)] tyB []) (.ite (.an (.an (.proj (.var 13) 1) (.var 14)) (.or (.sc .neq (.var 8) (.ls ⟨#[112, 108, 97, 105, 110]⟩)) (.ic .gtr (.var 9) (.li .i64 4)))) (.ret (.var 8) [(.var 10), (.var 11), (.var 12)]) (.rq (.call [] 102 (some [(.var 10), (.var 11), (.var 12)]) [] tyS tyK) (.again 0 [(.var 15), (.ar .add .i64 (.var 9) (.li .i64 1)), (.var 16), (.var 17), (.var 18)]))))) (.ret (.var 8) [(.var 10), (.var 11), (.var 12)]))))
theorem vc_spec_l4Fitting_ok : vcOf Tryz.prog tbl rbt 88 (some tyK) = vc_spec_l4Fitting := by kernel_rfl
def ty_spec_l4Fitting : List VT := [tyI, (.one (.c (.sl 5))), tyI, tyI]
theorem ty_spec_l4Fitting_ok : tyOf Tryz.prog tbl 88 (some tyK) = ty_spec_l4Fitting := by kernel_rfl
def vc_spec_l3Call : VC := (.rq (.call [] 125 (some [(.var 0), (.var 1), (.var 2)]) [(.put (.put (.put (.put (.put (.put (.put (.put (.put (.put (.put (.put (.nilS 9) (.ag1 (.ls ⟨#[83, 116, 97, 114, 116]⟩))) (.ag1 (.ls ⟨#[83, 116, 97, 114, 116]⟩))) (.ag1 (.ls ⟨#[83, 116, 111, 112]⟩))) (.ag1 (.ls ⟨#[71, 101, 116]⟩))) (.ag1 (.ls ⟨#[71, 101, 116]⟩))) (.ag1 (.ls ⟨#[80, 117, 116]⟩))) (.ag1 (.ls ⟨#[80, 117, 116]⟩))) (.ag1 (.ls ⟨#[84, 101, 108, 108]⟩))) (.ag1 (.ls ⟨#[72, 101, 97, 114]⟩))) (.ag1 (.ls ⟨#[76, 111, 97, 100]⟩))) (.ag1 (.ls ⟨#[83, 97, 118, 101]⟩))) (.ag1 (.ls ⟨#[72, 101, 97, 108]⟩)))] tyS tyK) (.ite (.sc .eql (.cell (.cat (.ag1 (.var 3)) (.cat (.ag1 (.ls ⟨#[]⟩)) (.cat (.ag1 (.li .i64 0)) (.cat (.ag1 (.ls ⟨#[]⟩)) .ag0)))) 0) (.ls ⟨#[71, 101, 116]⟩)) (.rq (.call [] 126 (some [(.var 4), (.var 5), (.var 6)]) [] tyS tyK) (.ret (.cat (.ag1 (.cell (.cat (.ag1 (.var 3)) (.cat (.ag1 (.ls ⟨#[]⟩)) (.cat (.ag1 (.li .i64 0)) (.cat (.ag1 (.ls ⟨#[]⟩)) .ag0)))) 0)) (.cat (.ag1 (.var 7)) (.cat (.ag1 (.cell (.cat (.ag1 (.var 3)) (.cat (.ag1 (.ls ⟨#[]⟩)) (.cat (.ag1 (.li .i64 0)) (.cat (.ag1 (.ls ⟨#[]⟩)) .ag0)))) 2)) (.cat (.ag1 (.cell (.cat (.ag1 (.var 3)) (.cat (.ag1 (.ls ⟨#[]⟩)) (.cat (.ag1 (.li .i64 0)) (.cat (.ag1 (.ls ⟨#[]⟩)) .ag0)))) 3)) .ag0)))) [(.var 8), (.var 9), (.var 10)])) (.ite (.sc .eql (.cell (.cat (.ag1 (.var 3)) (.cat (.ag1 (.ls ⟨#[]⟩)) (.cat (.ag1 (.li .i64 0)) (.cat (.ag1 (.ls ⟨#[]⟩)) .ag0)))) 0) (.ls ⟨#[80, 117, 116]⟩)) (.rq (.call [] 126 (some [(.var 4), (.var 5), (.var 6)]) [] tyS tyK) (.rq (.call [] 52 (some [(.var 8), (.var 9), (.var 10)]) [(.li .i64 20)] tyI tyK) (.ret (.cat (.ag1 (.cell (.cat (.ag1 (.var 3)) (.cat (.ag1 (.ls ⟨#[]⟩)) (.cat (.ag1 (.li .i64 0)) (.cat (.ag1 (.ls ⟨#[]⟩)) .ag0)))) 0)) (.cat (.ag1 (.var 7)) (.cat (.ag1 (.var 11)) (.cat (.ag1 (.cell (.cat (.ag1 (.var 3)) (.cat (.ag1 (.ls ⟨#[]⟩)) (.cat (.ag1 (.li .i64 0)) (.cat (.ag1 (.ls ⟨#[]⟩)) .ag0)))) 3)) .ag0)))) [(.var 12), (.var 13), (.var 14)]))) (.ite (.sc .eql (.cell (.cat (.ag1 (.var 3)) (.cat (.ag1 (.ls ⟨#[]⟩)) (.cat (.ag1 (.li .i64 0)) (.cat (.ag1 (.ls ⟨#[]⟩)) .ag0)))) 0) (.ls ⟨#[72, 101, 97, 114]⟩)) (.rq (.call [] 52 (some [(.var 4), (.var 5), (.var 6)]) [(.li .i64 4)] tyI tyK) (.ret (.cat (.ag1 (.cell (.cat (.ag1 (.var 3)) (.cat (.ag1 (.ls ⟨#[]⟩)) (.cat (.ag1 (.li .i64 0)) (.cat (.ag1 (.ls ⟨#[]⟩)) .ag0)))) 0)) (.cat (.ag1 (.cell (.cat (.ag1 (.var 3)) (.cat (.ag1 (.ls ⟨#[]⟩)) (.cat (.ag1 (.li .i64 0)) (.cat (.ag1 (.ls ⟨#[]⟩)) .ag0)))) 1)) (.cat (.ag1 (.var 7)) (.cat (.ag1 (.cell (.cat (.ag1 (.var 3)) (.cat (.ag1 (.ls ⟨#[]⟩)) (.cat (.ag1 (.li .i64 0)) (.cat (.ag1 (.ls ⟨#[]⟩)) .ag0)))) 3)) .ag0)))) [(.var 8), (.var 9), (.var 10)])) (.ite (.sc .eql (.cell (.cat (.ag1 (.var 3)) (.cat (.ag1 (.ls ⟨#[]⟩)) (.cat (.ag1 (.li .i64 0)) (.cat (.ag1 (.ls ⟨#[]⟩)) .ag0)))) 0) (.ls ⟨#[76, 111, 97, 100]⟩)) (.rq (.call [] 127 (some [(.var 4), (.var 5), (.var 6)]) [] tyS tyK) (.ret (.cat (.ag1 (.cell (.cat (.ag1 (.var 3)) (.cat (.ag1 (.ls ⟨#[]⟩)) (.cat (.ag1 (.li .i64 0)) (.cat (.ag1 (.ls ⟨#[]⟩)) .ag0)))) 0)) (.cat (.ag1 (.cell (.cat (.ag1 (.var 3)) (.cat (.ag1 (.ls ⟨#[]⟩)) (.cat (.ag1 (.li .i64 0)) (.cat (.ag1 (.ls ⟨#[]⟩)) .ag0)))) 1)) (.cat (.ag1 (.cell (.cat (.ag1 (.var 3)) (.cat (.ag1 (.ls ⟨#[]⟩)) (.cat (.ag1 (.li .i64 0)) (.cat (.ag1 (.ls ⟨#[]⟩)) .ag0)))) 2)) (.cat (.ag1 (.var 7)) .ag0)))) [(.var 8), (.var 9), (.var 10)])) (.ret (.cat (.ag1 (.var 3)) (.cat (.ag1 (.ls ⟨#[]⟩)) (.cat (.ag1 (.li .i64 0)) (.cat (.ag1 (.ls ⟨#[]⟩)) .ag0)))) [(.var 4), (.var 5), (.var 6)]))))))
theorem vc_spec_l3Call_ok : vcOf Tryz.prog tbl rbt 92 (some tyK) = vc_spec_l3Call := by kernel_rfl
def ty_spec_l3Call : List VT := [(.one (.c (.sl 5))), tyI, tyI]
theorem ty_spec_l3Call_ok : tyOf Tryz.prog tbl 92 (some tyK) = ty_spec_l3Call := by kernel_rfl
def vc_spec_l3Copy : VC := (.rq (.cond [] (.few (.nilS 125) (.cell (.var 0) 3))) (.ret (.cat (.ag1 (.cell (.var 0) 0)) (.cat (.ag1 (.cell (.var 0) 1)) (.cat (.ag1 (.cell (.var 0) 2)) (.cat (.ag1 (.app (.nilS 125) (.cell (.var 0) 3))) (.cat (.ag1 (.cell (.var 0) 4)) .ag0))))) []))
theorem vc_spec_l3Copy_ok : vcOf Tryz.prog tbl rbt 98 none = vc_spec_l3Copy := by kernel_rfl
def ty_spec_l3Copy : List VT := [(.one tyO)]
theorem ty_spec_l3Copy_ok : tyOf Tryz.prog tbl 98 none = ty_spec_l3Copy := by kernel_rfl
theorem rt_spec_l3Copy_ok : rbt.get 98 = [(3, 2)] := by kernel_rfl
def vc_spec_l4Name : VC := (.rq (.call [] 89 (some [(.var 0), (.var 1), (.var 2)]) [(.li .i64 16)] tyB tyK) (.ite (.var 3) (.rq (.call [] 125 (some [(.var 4), (.var 5), (.var 6)]) [(.put (.put (.put (.put (.put (.nilS 9) (.ag1 (.ls ⟨#[]⟩))) (.ag1 (.ls ⟨#[80, 108, 97, 105, 110]⟩))) (.ag1 (.ls ⟨#[115, 97, 118, 101]⟩))) (.ag1 (.ls ⟨#[99, 111, 117, 110, 116]⟩))) (.ag1 (.ls ⟨#[108, 97, 109, 112]⟩)))] tyS tyK) (.ret (.var 7) [(.var 8), (.var 9), (.var 10)])) (.rq (.call [] 125 (some [(.var 4), (.var 5), (.var 6)]) [(.put (.put (.put (.put (.put (.put (.put (.put (.put (.put (.put (.nilS 9) (.ag1 (.ls ⟨#[112, 108, 97, 105, 110]⟩))) (.ag1 (.ls ⟨#[114, 117, 110, 115]⟩))) (.ag1 (.ls ⟨#[107, 101, 101, 112, 115]⟩))) (.ag1 (.ls ⟨#[99, 111, 117, 110, 116, 115]⟩))) (.ag1 (.ls ⟨#[99, 111, 117, 110, 116, 115]⟩))) (.ag1 (.ls ⟨#[108, 97, 122, 121]⟩))) (.ag1 (.ls ⟨#[108, 97, 122, 121]⟩))) (.ag1 (.ls ⟨#[114, 101, 97, 100, 115]⟩))) (.ag1 (.ls ⟨#[104, 101, 97, 114, 115]⟩))) (.ag1 (.ls ⟨#[104, 101, 97, 108, 115]⟩))) (.ag1 (.ls ⟨#[116, 119, 105, 99, 101]⟩)))] tyS tyK) (.ret (.var 7) [(.var 8), (.var 9), (.var 10)]))))
theorem vc_spec_l4Name_ok : vcOf Tryz.prog tbl rbt 102 (some tyK) = vc_spec_l4Name := by kernel_rfl
def ty_spec_l4Name : List VT := [(.one (.c (.sl 5))), tyI, tyI]
theorem ty_spec_l4Name_ok : tyOf Tryz.prog tbl 102 (some tyK) = ty_spec_l4Name := by kernel_rfl
def vc_impl_hasText : VC := (.loop [tyI] [(.li .i64 0)] (.ite (.ic .lss (.var 2) (.len (.var 0))) (.rq (.cond [] (.inb (.var 0) (.var 2))) (.ite (.sc .eql (.cell (.row [.str] (.var 0) (.var 2)) 0) (.var 1)) (.ret (.lb true) []) (.again 0 [(.ar .add .i64 (.var 2) (.li .i64 1))]))) (.ret (.lb false) [])))
theorem vc_impl_hasText_ok : vcOf Tryz.prog tbl rbt 106 none = vc_impl_hasText := by kernel_rfl
def ty_impl_hasText : List VT := [(.one (.c (.sl 9))), tyS]
theorem ty_impl_hasText_ok : tyOf Tryz.prog tbl 106 none = ty_impl_hasText := by kernel_rfl
def vc_spec_l3Kind : VC := (.rq (.call [] 89 (some [(.var 0), (.var 1), (.var 2)]) [(.li .i64 14)] tyB tyK) (.ite (.var 3) (.rq (.call [] 125 (some [(.var 4), (.var 5), (.var 6)]) [(.put (.put (.put (.put (.put (.nilS 9) (.ag1 (.ls ⟨#[]⟩))) (.ag1 (.ls ⟨#[76, 97, 109, 112]⟩))) (.ag1 (.ls ⟨#[108, 97, 109, 112, 115]⟩))) (.ag1 (.ls ⟨#[114, 111, 99, 107]⟩))) (.ag1 (.ls ⟨#[107, 101, 101, 112]⟩)))] tyS tyK) (.ret (.var 7) [(.var 8), (.var 9), (.var 10)])) (.rq (.call [] 125 (some [(.var 4), (.var 5), (.var 6)]) [(.put (.put (.put (.put (.put (.put (.put (.put (.put (.put (.put (.nilS 9) (.ag1 (.ls ⟨#[115, 116, 111, 110, 101]⟩))) (.ag1 (.ls ⟨#[108, 97, 109, 112]⟩))) (.ag1 (.ls ⟨#[115, 104, 101, 108, 102]⟩))) (.ag1 (.ls ⟨#[109, 101, 116, 101, 114]⟩))) (.ag1 (.ls ⟨#[100, 114, 97, 119, 101, 114]⟩))) (.ag1 (.ls ⟨#[100, 114, 97, 119, 101, 114]⟩))) (.ag1 (.ls ⟨#[104, 111, 114, 110]⟩))) (.ag1 (.ls ⟨#[118, 97, 117, 108, 116]⟩))) (.ag1 (.ls ⟨#[118, 97, 117, 108, 116]⟩))) (.ag1 (.ls ⟨#[114, 111, 98, 111, 116]⟩))) (.ag1 (.ls ⟨#[114, 111, 98, 111, 116]⟩)))] tyS tyK) (.ret (.var 7) [(.var 8), (.var 9), (.var 10)]))))
theorem vc_spec_l3Kind_ok : vcOf Tryz.prog tbl rbt 121 (some tyK) = vc_spec_l3Kind := by kernel_rfl
def ty_spec_l3Kind : List VT := [(.one (.c (.sl 5))), tyI, tyI]
theorem ty_spec_l3Kind_ok : tyOf Tryz.prog tbl 121 (some tyK) = ty_spec_l3Kind := by kernel_rfl
def vc_spec_l1Str : VC := (.rq (.call [] 52 (some [(.var 1), (.var 2), (.var 3)]) [(.len (.var 0))] tyI tyK) (.rq (.cond [] (.inb (.var 0) (.var 4))) (.ret (.cell (.row [.str] (.var 0) (.var 4)) 0) [(.var 5), (.var 6), (.var 7)])))
theorem vc_spec_l1Str_ok : vcOf Tryz.prog tbl rbt 125 (some tyK) = vc_spec_l1Str := by kernel_rfl
def ty_spec_l1Str : List VT := [(.one (.c (.sl 9))), (.one (.c (.sl 5))), tyI, tyI]
theorem ty_spec_l1Str_ok : tyOf Tryz.prog tbl 125 (some tyK) = ty_spec_l1Str := by kernel_rfl
def vc_impl_FormatCells : VC := (.rq (.call [] 105 none [(.var 0)] tyB []) (.ite (.no (.var 1)) (.ret (.ls ⟨#[]⟩) []) (.ite (.ic .eql (.len (.var 0)) (.li .i64 0)) (.ret (.ls ⟨#[45]⟩) []) (.loop [(.one (.c (.sl 9))), tyI] [(.nilS 9), (.li .i64 0)] (.ite (.ic .lss (.var 3) (.len (.var 0))) (.rq (.cond [] (.inb (.var 0) (.var 3))) (.rq (.cond [] (.sok (.cell (.row [.str, (.int .i64)] (.var 0) (.var 3)) 0) (.ls ⟨#[61]⟩))) (.rq (.call [] 144 none [(.cell (.row [.str, (.int .i64)] (.var 0) (.var 3)) 1)] tyS []) (.rq (.cond [] (.sok (.scat (.cell (.row [.str, (.int .i64)] (.var 0) (.var 3)) 0) (.ls ⟨#[61]⟩)) (.var 4))) (.rq (.cond [] (.few (.var 2) (.put (.nilS 9) (.ag1 (.scat (.scat (.cell (.row [.str, (.int .i64)] (.var 0) (.var 3)) 0) (.ls ⟨#[61]⟩)) (.var 4)))))) (.again 0 [(.app (.var 2) (.put (.nilS 9) (.ag1 (.scat (.scat (.cell (.row [.str, (.int .i64)] (.var 0) (.var 3)) 0) (.ls ⟨#[61]⟩)) (.var 4))))), (.ar .add .i64 (.var 3) (.li .i64 1))])))))) (.rq (.call [] 145 none [(.var 2), (.ls ⟨#[44]⟩)] tyS []) (.ret (.var 4) [])))))))
theorem vc_impl_FormatCells_ok : vcOf Tryz.prog tbl rbt 130 none = vc_impl_FormatCells := by kernel_rfl
def ty_impl_FormatCells : List VT := [(.one (.c (.sl 125)))]
theorem ty_impl_FormatCells_ok : tyOf Tryz.prog tbl 130 none = ty_impl_FormatCells := by kernel_rfl
def vc_spec_l1HasText : VC := (.loop [tyI] [(.li .i64 0)] (.ite (.ic .lss (.var 2) (.len (.var 0))) (.rq (.cond [] (.inb (.var 0) (.var 2))) (.ite (.sc .eql (.cell (.row [.str] (.var 0) (.var 2)) 0) (.var 1)) (.ret (.lb true) []) (.again 0 [(.ar .add .i64 (.var 2) (.li .i64 1))]))) (.ret (.lb false) [])))
theorem vc_spec_l1HasText_ok : vcOf Tryz.prog tbl rbt 134 none = vc_spec_l1HasText := by kernel_rfl
def ty_spec_l1HasText : List VT := [(.one (.c (.sl 9))), tyS]
theorem ty_spec_l1HasText_ok : tyOf Tryz.prog tbl 134 none = ty_spec_l1HasText := by kernel_rfl
def vc_spec_l3Put : VC := (.loop [tyB, (.one (.c (.sl 125))), tyI] [(.lb false), (.nilS 125), (.li .i64 0)] (.ite (.ic .lss (.var 5) (.len (.var 0))) (.rq (.cond [] (.inb (.var 0) (.var 5))) (.ite (.an (.no (.var 3)) (.sc .geq (.cell (.row [.str, (.int .i64)] (.var 0) (.var 5)) 0) (.var 1))) (.rq (.cond [] (.few (.var 4) (.put (.nilS 125) (.cat (.ag1 (.var 1)) (.cat (.ag1 (.var 2)) .ag0))))) (.ite (.sc .neq (.cell (.row [.str, (.int .i64)] (.var 0) (.var 5)) 0) (.var 1)) (.rq (.cond [] (.few (.app (.var 4) (.put (.nilS 125) (.cat (.ag1 (.var 1)) (.cat (.ag1 (.var 2)) .ag0)))) (.put (.nilS 125) (.row [.str, (.int .i64)] (.var 0) (.var 5))))) (.again 0 [(.lb true), (.app (.app (.var 4) (.put (.nilS 125) (.cat (.ag1 (.var 1)) (.cat (.ag1 (.var 2)) .ag0)))) (.put (.nilS 125) (.row [.str, (.int .i64)] (.var 0) (.var 5)))), (.ar .add .i64 (.var 5) (.li .i64 1))])) (.again 0 [(.lb true), (.app (.var 4) (.put (.nilS 125) (.cat (.ag1 (.var 1)) (.cat (.ag1 (.var 2)) .ag0)))), (.ar .add .i64 (.var 5) (.li .i64 1))]))) (.ite (.sc .neq (.cell (.row [.str, (.int .i64)] (.var 0) (.var 5)) 0) (.var 1)) (.rq (.cond [] (.few (.var 4) (.put (.nilS 125) (.row [.str, (.int .i64)] (.var 0) (.var 5))))) (.again 0 [(.var 3), (.app (.var 4) (.put (.nilS 125) (.row [.str, (.int .i64)] (.var 0) (.var 5)))), (.ar .add .i64 (.var 5) (.li .i64 1))])) (.again 0 [(.var 3), (.var 4), (.ar .add .i64 (.var 5) (.li .i64 1))])))) (.ite (.no (.var 3)) (.rq (.cond [] (.few (.var 4) (.put (.nilS 125) (.cat (.ag1 (.var 1)) (.cat (.ag1 (.var 2)) .ag0))))) (.ret (.app (.var 4) (.put (.nilS 125) (.cat (.ag1 (.var 1)) (.cat (.ag1 (.var 2)) .ag0)))) [])) (.ret (.var 4) []))))
theorem vc_spec_l3Put_ok : vcOf Tryz.prog tbl rbt 142 none = vc_spec_l3Put := by kernel_rfl
def ty_spec_l3Put : List VT := [(.one (.c (.sl 125))), tyS, tyI]
theorem ty_spec_l3Put_ok : tyOf Tryz.prog tbl 142 none = ty_spec_l3Put := by kernel_rfl
theorem rt_spec_l3Put_ok : rbt.get 142 = [(0, 2)] := by kernel_rfl
def vc_spec_FormatNumber : VC := (.ite (.ic .eql (.var 0) (.li .i64 (-9223372036854775808))) (.ret (.ls ⟨#[45, 57, 50, 50, 51, 51, 55, 50, 48, 51, 54, 56, 53, 52, 55, 55, 53, 56, 48, 56]⟩) []) (.ite (.ic .lss (.var 0) (.li .i64 0)) (.rq (.call [] 152 none [(.ar .sub .i64 (.li .i64 0) (.var 0))] tyS []) (.rq (.cond [] (.sok (.ls ⟨#[45]⟩) (.var 1))) (.ret (.scat (.ls ⟨#[45]⟩) (.var 1)) []))) (.rq (.cond [] (.ic .neq (.li .i64 10) (.li .i64 0))) (.ite (.ic .gtr (.var 0) (.li .i64 9)) (.rq (.cond [] (.ic .neq (.li .i64 10) (.li .i64 0))) (.rq (.call [] 152 none [(.ar .quo .i64 (.var 0) (.li .i64 10))] tyS []) (.rq (.cond [] (.sok (.var 1) (.bstr (.put (.nilS 5) (.ag1 (.conv .u8 (.ar .add .i64 (.li .i64 48) (.ar .rem .i64 (.var 0) (.li .i64 10))))))))) (.ret (.scat (.var 1) (.bstr (.put (.nilS 5) (.ag1 (.conv .u8 (.ar .add .i64 (.li .i64 48) (.ar .rem .i64 (.var 0) (.li .i64 10)))))))) [])))) (.ret (.bstr (.put (.nilS 5) (.ag1 (.conv .u8 (.ar .add .i64 (.li .i64 48) (.ar .rem .i64 (.var 0) (.li .i64 10))))))) [])))))
theorem vc_spec_FormatNumber_ok : vcOf Tryz.prog tbl rbt 152 none = vc_spec_FormatNumber := by kernel_rfl
def ty_spec_FormatNumber : List VT := [tyI]
theorem ty_spec_FormatNumber_ok : tyOf Tryz.prog tbl 152 none = ty_spec_FormatNumber := by kernel_rfl
end Go.Proofs.YtbgcaneflfdddaaGreatDoor
/- Conditions of functions of this seat's program. Written by fun.py. -/
namespace Go.Proofs.YtbgcaneflfdddaaGreatDoor
open Go
set_option maxRecDepth 1000000
def vc_impl_IsCall : VC := (.rq (.call [] 66 none [(.cell (.var 0) 0)] tyI []) (.ite (.or (.ic .lss (.var 1) (.li .i64 0)) (.an (.sc .neq (.cell (.var 0) 3) (.ls ⟨#[]⟩)) (.sc .neq (.cell (.var 0) 0) (.ls ⟨#[76, 111, 97, 100]⟩)))) (.ret (.lb false) []) (.ite (.sc .eql (.cell (.var 0) 0) (.ls ⟨#[71, 101, 116]⟩)) (.rq (.call [] 67 none [(.cell (.var 0) 1)] tyB []) (.ret (.an (.var 2) (.ic .eql (.cell (.var 0) 2) (.li .i64 0))) [])) (.ite (.sc .eql (.cell (.var 0) 0) (.ls ⟨#[80, 117, 116]⟩)) (.rq (.call [] 67 none [(.cell (.var 0) 1)] tyB []) (.rq (.call [((.var 2), true)] 65 none [(.cell (.var 0) 2)] tyB []) (.ret (.an (.var 2) (.var 3)) []))) (.ite (.sc .eql (.cell (.var 0) 0) (.ls ⟨#[72, 101, 97, 114]⟩)) (.rq (.call [((.sc .eql (.cell (.var 0) 1) (.ls ⟨#[]⟩)), true)] 65 none [(.cell (.var 0) 2)] tyB []) (.ret (.an (.sc .eql (.cell (.var 0) 1) (.ls ⟨#[]⟩)) (.var 2)) [])) (.ret (.an (.sc .eql (.cell (.var 0) 1) (.ls ⟨#[]⟩)) (.ic .eql (.cell (.var 0) 2) (.li .i64 0))) []))))))
theorem vc_impl_IsCall_ok : vcOf Tryz.prog tbl rbt 21 none = vc_impl_IsCall := by kernel_rfl
def ty_impl_IsCall : List VT := [(.one tyC)]
theorem ty_impl_IsCall_ok : tyOf Tryz.prog tbl 21 none = ty_impl_IsCall := by kernel_rfl
def vc_impl_FaceOf : VC := (.rq (.call [] 64 none [(.var 0), (.len (.cell (.var 0) 5))] tyI []) (.ret (.var 1) []))
theorem vc_impl_FaceOf_ok : vcOf Tryz.prog tbl rbt 25 none = vc_impl_FaceOf := by kernel_rfl
def ty_impl_FaceOf : List VT := [(.one tyP)]
theorem ty_impl_FaceOf_ok : tyOf Tryz.prog tbl 25 none = ty_impl_FaceOf := by kernel_rfl
def vc_impl_CallParts : VC := (.rq (.callR 55 none [(.var 0)] (.one tyP) [] [(3, 2), (5, 2)]) (.loop [(.one (.c (.sl 34))), tyI, tyS, tyB, tyB, (.one (.c (.sl 125))), tyI, (.one (.c (.sl 52)))] [(.nilS 34), (.li .i64 0), (.cell (.var 2) 0), (.cell (.var 2) 1), (.cell (.var 2) 2), (.cell (.var 2) 3), (.cell (.var 2) 4), (.cell (.var 2) 5)] (.ite (.ic .lss (.var 4) (.len (.var 1))) (.rq (.cond [] (.inb (.var 1) (.var 4))) (.rq (.callR 17 none [(.cat (.ag1 (.var 5)) (.cat (.ag1 (.var 6)) (.cat (.ag1 (.var 7)) (.cat (.ag1 (.var 8)) (.cat (.ag1 (.var 9)) (.cat (.ag1 (.var 10)) .ag0)))))), (.row [.str, .str, (.int .i64), .str] (.var 1) (.var 4))] (.tup [tyP, tyR]) [] [(3, 2), (5, 2)]) (.rq (.cond [] (.few (.var 3) (.put (.nilS 34) (.proj (.var 11) 1)))) (.ite (.ic .eql (.cell (.proj (.var 11) 1) 0) (.li .i64 1)) (.ret (.tp1 (.tp1 .tp0 (.proj (.var 11) 0)) (.app (.var 3) (.put (.nilS 34) (.proj (.var 11) 1)))) []) (.again 0 [(.app (.var 3) (.put (.nilS 34) (.proj (.var 11) 1))), (.ar .add .i64 (.var 4) (.li .i64 1)), (.cell (.proj (.var 11) 0) 0), (.cell (.proj (.var 11) 0) 1), (.cell (.proj (.var 11) 0) 2), (.cell (.proj (.var 11) 0) 3), (.cell (.proj (.var 11) 0) 4), (.cell (.proj (.var 11) 0) 5)]))))) (.ret (.tp1 (.tp1 .tp0 (.cat (.ag1 (.var 5)) (.cat (.ag1 (.var 6)) (.cat (.ag1 (.var 7)) (.cat (.ag1 (.var 8)) (.cat (.ag1 (.var 9)) (.cat (.ag1 (.var 10)) .ag0))))))) (.var 3)) []))))
theorem vc_impl_CallParts_ok : vcOf Tryz.prog tbl rbt 29 none = vc_impl_CallParts := by kernel_rfl
def ty_impl_CallParts : List VT := [(.one tyP), (.one (.c (.sl 39)))]
theorem ty_impl_CallParts_ok : tyOf Tryz.prog tbl 29 none = ty_impl_CallParts := by kernel_rfl
theorem rt_impl_CallParts_ok : rbt.get 29 = [(3, 2), (5, 2), (6, 5)] := by kernel_rfl
def vc_spec_l4Row : VC := (.loop [tyI] [(.li .i64 0)] (.ite (.ic .lss (.var 1) (.len (.put (.put (.put (.put (.put (.put (.put (.put (.put (.nilS 9) (.ag1 (.ls ⟨#[112, 108, 97, 105, 110]⟩))) (.ag1 (.ls ⟨#[114, 117, 110, 115]⟩))) (.ag1 (.ls ⟨#[107, 101, 101, 112, 115]⟩))) (.ag1 (.ls ⟨#[99, 111, 117, 110, 116, 115]⟩))) (.ag1 (.ls ⟨#[108, 97, 122, 121]⟩))) (.ag1 (.ls ⟨#[114, 101, 97, 100, 115]⟩))) (.ag1 (.ls ⟨#[104, 101, 97, 114, 115]⟩))) (.ag1 (.ls ⟨#[104, 101, 97, 108, 115]⟩))) (.ag1 (.ls ⟨#[116, 119, 105, 99, 101]⟩))))) (.rq (.cond [] (.inb (.put (.put (.put (.put (.put (.put (.put (.put (.put (.nilS 9) (.ag1 (.ls ⟨#[112, 108, 97, 105, 110]⟩))) (.ag1 (.ls ⟨#[114, 117, 110, 115]⟩))) (.ag1 (.ls ⟨#[107, 101, 101, 112, 115]⟩))) (.ag1 (.ls ⟨#[99, 111, 117, 110, 116, 115]⟩))) (.ag1 (.ls ⟨#[108, 97, 122, 121]⟩))) (.ag1 (.ls ⟨#[114, 101, 97, 100, 115]⟩))) (.ag1 (.ls ⟨#[104, 101, 97, 114, 115]⟩))) (.ag1 (.ls ⟨#[104, 101, 97, 108, 115]⟩))) (.ag1 (.ls ⟨#[116, 119, 105, 99, 101]⟩))) (.var 1))) (.ite (.sc .eql (.cell (.row [.str] (.put (.put (.put (.put (.put (.put (.put (.put (.put (.nilS 9) (.ag1 (.ls ⟨#[112, 108, 97, 105, 110]⟩))) (.ag1 (.ls ⟨#[114, 117, 110, 115]⟩))) (.ag1 (.ls ⟨#[107, 101, 101, 112, 115]⟩))) (.ag1 (.ls ⟨#[99, 111, 117, 110, 116, 115]⟩))) (.ag1 (.ls ⟨#[108, 97, 122, 121]⟩))) (.ag1 (.ls ⟨#[114, 101, 97, 100, 115]⟩))) (.ag1 (.ls ⟨#[104, 101, 97, 114, 115]⟩))) (.ag1 (.ls ⟨#[104, 101, 97, 108, 115]⟩))) (.ag1 (.ls ⟨#[116, 119, 105, 99, 101]⟩))) (.var 1)) 0) (.var 0)) (.rq (.cond [] (.inb (.put (.put (.put (.put (.put (.put (.put (.put (.put (.nilS 3) (.ag1 (.li .i64 0))) (.ag1 (.li .i64 1))) (.ag1 (.li .i64 2))) (.ag1 (.li .i64 2))) (.ag1 (.li .i64 3))) (.ag1 (.li .i64 2))) (.ag1 (.li .i64 1))) (.ag1 (.li .i64 1))) (.ag1 (.li .i64 4))) (.var 1))) (.rq (.cond [] (.inb (.put (.put (.put (.put (.put (.put (.put (.put (.put (.nilS 3) (.ag1 (.li .i64 0))) (.ag1 (.li .i64 1))) (.ag1 (.li .i64 2))) (.ag1 (.li .i64 6))) (.ag1 (.li .i64 3))) (.ag1 (.li .i64 2))) (.ag1 (.li .i64 9))) (.ag1 (.li .i64 33))) (.ag1 (.li .i64 4))) (.var 1))) (.ret (.tp1 (.tp1 (.tp1 .tp0 (.cell (.row [(.int .i64)] (.put (.put (.put (.put (.put (.put (.put (.put (.put (.nilS 3) (.ag1 (.li .i64 0))) (.ag1 (.li .i64 1))) (.ag1 (.li .i64 2))) (.ag1 (.li .i64 2))) (.ag1 (.li .i64 3))) (.ag1 (.li .i64 2))) (.ag1 (.li .i64 1))) (.ag1 (.li .i64 1))) (.ag1 (.li .i64 4))) (.var 1)) 0)) (.cell (.row [(.int .i64)] (.put (.put (.put (.put (.put (.put (.put (.put (.put (.nilS 3) (.ag1 (.li .i64 0))) (.ag1 (.li .i64 1))) (.ag1 (.li .i64 2))) (.ag1 (.li .i64 6))) (.ag1 (.li .i64 3))) (.ag1 (.li .i64 2))) (.ag1 (.li .i64 9))) (.ag1 (.li .i64 33))) (.ag1 (.li .i64 4))) (.var 1)) 0)) (.lb true)) []))) (.again 0 [(.ar .add .i64 (.var 1) (.li .i64 1))]))) (.ret (.tp1 (.tp1 (.tp1 .tp0 (.li .i64 0)) (.li .i64 0)) (.lb false)) [])))
theorem vc_spec_l4Row_ok : vcOf Tryz.prog tbl rbt 59 none = vc_spec_l4Row := by kernel_rfl
def ty_spec_l4Row : List VT := [tyS]
theorem ty_spec_l4Row_ok : tyOf Tryz.prog tbl 59 none = ty_spec_l4Row := by kernel_rfl
def vc_impl_faceBelow : VC := (.ite (.ic .eql (.var 1) (.li .i64 0)) (.rq (.call [] 104 none [(.cell (.var 0) 0)] (.tup [(.c (.int .i64)), (.c .bool)]) []) (.ret (.proj (.var 2) 0) [])) (.rq (.cond [] (.inb (.cell (.var 0) 5) (.ar .sub .i64 (.var 1) (.li .i64 1)))) (.rq (.call [] 56 none [(.cell (.row [.str, (.int .i64)] (.cell (.var 0) 5) (.ar .sub .i64 (.var 1) (.li .i64 1))) 0)] (.tup [(.c (.int .i64)), (.c (.int .i64)), (.c .bool)]) []) (.ret (.proj (.var 2) 1) []))))
theorem vc_impl_faceBelow_ok : vcOf Tryz.prog tbl rbt 64 none = vc_impl_faceBelow := by kernel_rfl
def ty_impl_faceBelow : List VT := [(.one tyP), tyI]
theorem ty_impl_faceBelow_ok : tyOf Tryz.prog tbl 64 none = ty_impl_faceBelow := by kernel_rfl
def vc_impl_SameCore : VC := (.ite (.or (.or (.or (.or (.sc .neq (.cell (.var 0) 0) (.cell (.var 1) 0)) (.no (.bc (.cell (.var 0) 1) (.cell (.var 1) 1)))) (.no (.bc (.cell (.var 0) 2) (.cell (.var 1) 2)))) (.ic .neq (.cell (.var 0) 4) (.cell (.var 1) 4))) (.ic .neq (.len (.cell (.var 0) 3)) (.len (.cell (.var 1) 3)))) (.ret (.lb false) []) (.loop [tyI] [(.li .i64 0)] (.ite (.ic .lss (.var 2) (.len (.cell (.var 0) 3))) (.rq (.cond [] (.inb (.cell (.var 0) 3) (.var 2))) (.rq (.cond [] (.inb (.cell (.var 1) 3) (.var 2))) (.ite (.no (.ae (.row [.str, (.int .i64)] (.cell (.var 0) 3) (.var 2)) (.row [.str, (.int .i64)] (.cell (.var 1) 3) (.var 2)))) (.ret (.lb false) []) (.again 0 [(.ar .add .i64 (.var 2) (.li .i64 1))])))) (.ret (.lb true) []))))
theorem vc_impl_SameCore_ok : vcOf Tryz.prog tbl rbt 68 none = vc_impl_SameCore := by kernel_rfl
def ty_impl_SameCore : List VT := [(.one tyO), (.one tyO)]
theorem ty_impl_SameCore_ok : tyOf Tryz.prog tbl 68 none = ty_impl_SameCore := by kernel_rfl
def vc_spec_l4Face : VC := (.ite (.ic .eql (.var 1) (.li .i64 0)) (.rq (.call [] 108 none [(.cell (.var 0) 0)] (.tup [(.c (.int .i64)), (.c .bool)]) []) (.ret (.proj (.var 2) 0) [])) (.rq (.cond [] (.inb (.cell (.var 0) 5) (.ar .sub .i64 (.var 1) (.li .i64 1)))) (.rq (.call [] 59 none [(.cell (.row [.str, (.int .i64)] (.cell (.var 0) 5) (.ar .sub .i64 (.var 1) (.li .i64 1))) 0)] (.tup [(.c (.int .i64)), (.c (.int .i64)), (.c .bool)]) []) (.ret (.proj (.var 2) 1) []))))
theorem vc_spec_l4Face_ok : vcOf Tryz.prog tbl rbt 72 none = vc_spec_l4Face := by kernel_rfl
def ty_spec_l4Face : List VT := [(.one tyP), tyI]
theorem ty_spec_l4Face_ok : tyOf Tryz.prog tbl 72 none = ty_spec_l4Face := by kernel_rfl
def vc_spec_l1Once : VC := (.rq (.call [] 52 (some [(.var 1), (.var 2), (.var 3)]) [(.var 0)] tyI tyK) (.ret (.ic .eql (.var 4) (.li .i64 0)) [(.var 5), (.var 6), (.var 7)]))
theorem vc_spec_l1Once_ok : vcOf Tryz.prog tbl rbt 89 (some tyK) = vc_spec_l1Once := by kernel_rfl
def ty_spec_l1Once : List VT := [tyI, (.one (.c (.sl 5))), tyI, tyI]
theorem ty_spec_l1Once_ok : tyOf Tryz.prog tbl 89 (some tyK) = ty_spec_l1Once := by kernel_rfl
def vc_spec_IsName : VC := (.loop [tyI] [(.li .i64 0)] (.ite (.ic .lss (.var 1) (.len (.var 0))) (.rq (.cond [] (.inb (.var 0) (.var 1))) (.rq (.call [] 128 none [(.at (.var 0) (.var 1)), (.ic .eql (.var 1) (.li .i64 0))] tyB []) (.ite (.no (.var 2)) (.ret (.lb false) []) (.again 0 [(.ar .add .i64 (.var 1) (.li .i64 1))])))) (.ret (.an (.ic .gtr (.len (.var 0)) (.li .i64 0)) (.ic .leq (.len (.var 0)) (.li .i64 8))) [])))
theorem vc_spec_IsName_ok : vcOf Tryz.prog tbl rbt 93 none = vc_spec_IsName := by kernel_rfl
def ty_spec_IsName : List VT := [tyS]
theorem ty_spec_IsName_ok : tyOf Tryz.prog tbl 93 none = ty_spec_IsName := by kernel_rfl
def vc_spec_IsFace : VC := (.ret (.an (.ic .geq (.var 0) (.li .i64 0)) (.ic .leq (.var 0) (.li .i64 63))) [])
theorem vc_spec_IsFace_ok : vcOf Tryz.prog tbl rbt 99 none = vc_spec_IsFace := by kernel_rfl
def ty_spec_IsFace : List VT := [tyI]
theorem ty_spec_IsFace_ok : tyOf Tryz.prog tbl 99 none = ty_spec_IsFace := by kernel_rfl
def vc_spec_l1Odd : VC := (.rq (.call [] 132 (some [(.var 0), (.var 1), (.var 2)]) [(.put (.put (.put (.put (.put (.put (.put (.put (.put (.put (.put (.put (.put (.put (.put (.put (.put (.nilS 3) (.ag1 (.li .i64 (-1)))) (.ag1 (.li .i64 0))) (.ag1 (.li .i64 1))) (.ag1 (.li .i64 2))) (.ag1 (.li .i64 3))) (.ag1 (.li .i64 4))) (.ag1 (.li .i64 5))) (.ag1 (.li .i64 6))) (.ag1 (.li .i64 7))) (.ag1 (.li .i64 63))) (.ag1 (.li .i64 64))) (.ag1 (.li .i64 99))) (.ag1 (.li .i64 100))) (.ag1 (.li .i64 999))) (.ag1 (.li .i64 1000))) (.ag1 (.li .i64 9223372036854775807))) (.ag1 (.li .i64 (-9223372036854775808))))] tyI tyK) (.ret (.var 3) [(.var 4), (.var 5), (.var 6)]))
theorem vc_spec_l1Odd_ok : vcOf Tryz.prog tbl rbt 103 (some tyK) = vc_spec_l1Odd := by kernel_rfl
def ty_spec_l1Odd : List VT := [(.one (.c (.sl 5))), tyI, tyI]
theorem ty_spec_l1Odd_ok : tyOf Tryz.prog tbl 103 (some tyK) = ty_spec_l1Odd := by kernel_rfl
def vc_spec_KindFace : VC := (.loop [tyI] [(.li .i64 0)] (.ite (.ic .lss (.var 1) (.len (.put (.put (.put (.put (.put (.put (.put (.put (.nilS 9) (.ag1 (.ls ⟨#[115, 116, 111, 110, 101]⟩))) (.ag1 (.ls ⟨#[108, 97, 109, 112]⟩))) (.ag1 (.ls ⟨#[115, 104, 101, 108, 102]⟩))) (.ag1 (.ls ⟨#[109, 101, 116, 101, 114]⟩))) (.ag1 (.ls ⟨#[100, 114, 97, 119, 101, 114]⟩))) (.ag1 (.ls ⟨#[104, 111, 114, 110]⟩))) (.ag1 (.ls ⟨#[118, 97, 117, 108, 116]⟩))) (.ag1 (.ls ⟨#[114, 111, 98, 111, 116]⟩))))) (.rq (.cond [] (.inb (.put (.put (.put (.put (.put (.put (.put (.put (.nilS 9) (.ag1 (.ls ⟨#[115, 116, 111, 110, 101]⟩))) (.ag1 (.ls ⟨#[108, 97, 109, 112]⟩))) (.ag1 (.ls ⟨#[115, 104, 101, 108, 102]⟩))) (.ag1 (.ls ⟨#[109, 101, 116, 101, 114]⟩))) (.ag1 (.ls ⟨#[100, 114, 97, 119, 101, 114]⟩))) (.ag1 (.ls ⟨#[104, 111, 114, 110]⟩))) (.ag1 (.ls ⟨#[118, 97, 117, 108, 116]⟩))) (.ag1 (.ls ⟨#[114, 111, 98, 111, 116]⟩))) (.var 1))) (.ite (.sc .eql (.cell (.row [.str] (.put (.put (.put (.put (.put (.put (.put (.put (.nilS 9) (.ag1 (.ls ⟨#[115, 116, 111, 110, 101]⟩))) (.ag1 (.ls ⟨#[108, 97, 109, 112]⟩))) (.ag1 (.ls ⟨#[115, 104, 101, 108, 102]⟩))) (.ag1 (.ls ⟨#[109, 101, 116, 101, 114]⟩))) (.ag1 (.ls ⟨#[100, 114, 97, 119, 101, 114]⟩))) (.ag1 (.ls ⟨#[104, 111, 114, 110]⟩))) (.ag1 (.ls ⟨#[118, 97, 117, 108, 116]⟩))) (.ag1 (.ls ⟨#[114, 111, 98, 111, 116]⟩))) (.var 1)) 0) (.var 0)) (.rq (.cond [] (.inb (.put (.put (.put (.put (.put (.put (.put (.put (.nilS 3) (.ag1 (.li .i64 0))) (.ag1 (.li .i64 1))) (.ag1 (.li .i64 2))) (.ag1 (.li .i64 5))) (.ag1 (.li .i64 3))) (.ag1 (.li .i64 9))) (.ag1 (.li .i64 19))) (.ag1 (.li .i64 63))) (.var 1))) (.ret (.tp1 (.tp1 .tp0 (.cell (.row [(.int .i64)] (.put (.put (.put (.put (.put (.put (.put (.put (.nilS 3) (.ag1 (.li .i64 0))) (.ag1 (.li .i64 1))) (.ag1 (.li .i64 2))) (.ag1 (.li .i64 5))) (.ag1 (.li .i64 3))) (.ag1 (.li .i64 9))) (.ag1 (.li .i64 19))) (.ag1 (.li .i64 63))) (.var 1)) 0)) (.lb true)) [])) (.again 0 [(.ar .add .i64 (.var 1) (.li .i64 1))]))) (.ret (.tp1 (.tp1 .tp0 (.li .i64 0)) (.lb false)) [])))
theorem vc_spec_KindFace_ok : vcOf Tryz.prog tbl rbt 108 none = vc_spec_KindFace := by kernel_rfl
def ty_spec_KindFace : List VT := [tyS]
theorem ty_spec_KindFace_ok : tyOf Tryz.prog tbl 108 none = ty_spec_KindFace := by kernel_rfl
def vc_spec_AbilityOfMethod : VC := (.loop [tyI] [(.li .i64 0)] (.ite (.ic .lss (.var 1) (.li .i64 6)) (.rq (.callR 135 none [(.var 1)] (.one (.c (.sl 9))) [] [(0, 1)]) (.rq (.call [] 134 none [(.var 2), (.var 0)] tyB []) (.ite (.var 3) (.ret (.var 1) []) (.again 0 [(.ar .add .i64 (.var 1) (.li .i64 1))])))) (.ret (.li .i64 (-1)) [])))
theorem vc_spec_AbilityOfMethod_ok : vcOf Tryz.prog tbl rbt 112 none = vc_spec_AbilityOfMethod := by kernel_rfl
def ty_spec_AbilityOfMethod : List VT := [tyS]
theorem ty_spec_AbilityOfMethod_ok : tyOf Tryz.prog tbl 112 none = ty_spec_AbilityOfMethod := by kernel_rfl
def vc_spec_l3Cells : VC := (.rq (.call [] 52 (some [(.var 0), (.var 1), (.var 2)]) [(.li .i64 6)] tyI tyK) (.loop [(.one (.c (.sl 125))), tyI, (.one (.c (.sl 5))), tyI, tyI] [(.nilS 125), (.var 3), (.var 4), (.var 5), (.var 6)] (.ite (.ic .gtr (.var 8) (.li .i64 0)) (.rq (.call [] 126 (some [(.var 9), (.var 10), (.var 11)]) [] tyS tyK) (.rq (.call [] 141 none [(.var 7), (.var 12)] tyI []) (.ite (.or (.ic .geq (.var 16) (.li .i64 0)) (.ic .lss (.len (.var 7)) (.li .i64 4))) (.rq (.call [] 52 (some [(.var 13), (.var 14), (.var 15)]) [(.li .i64 30)] tyI tyK) (.rq (.callR 142 none [(.var 7), (.var 12), (.var 17)] (.one (.c (.sl 125))) [] [(0, 2)]) (.again 0 [(.var 21), (.ar .sub .i64 (.var 8) (.li .i64 1)), (.var 18), (.var 19), (.var 20)]))) (.again 0 [(.var 7), (.ar .sub .i64 (.var 8) (.li .i64 1)), (.var 13), (.var 14), (.var 15)])))) (.ret (.var 7) [(.var 9), (.var 10), (.var 11)]))))
theorem vc_spec_l3Cells_ok : vcOf Tryz.prog tbl rbt 122 (some tyK) = vc_spec_l3Cells := by kernel_rfl
def ty_spec_l3Cells : List VT := [(.one (.c (.sl 5))), tyI, tyI]
theorem ty_spec_l3Cells_ok : tyOf Tryz.prog tbl 122 (some tyK) = ty_spec_l3Cells := by kernel_rfl
theorem rt_spec_l3Cells_ok : rbt.get 122 = [(0, 2)] := by kernel_rfl
def vc_spec_l3Key : VC := (.rq (.call [] 125 (some [(.var 0), (.var 1), (.var 2)]) [(.put (.put (.put (.put (.put (.put (.nilS 9) (.ag1 (.ls ⟨#[97]⟩))) (.ag1 (.ls ⟨#[98]⟩))) (.ag1 (.ls ⟨#[99]⟩))) (.ag1 (.ls ⟨#[107]⟩))) (.ag1 (.ls ⟨#[107, 50]⟩))) (.ag1 (.ls ⟨#[122]⟩)))] tyS tyK) (.ret (.var 3) [(.var 4), (.var 5), (.var 6)]))
theorem vc_spec_l3Key_ok : vcOf Tryz.prog tbl rbt 126 (some tyK) = vc_spec_l3Key := by kernel_rfl
def ty_spec_l3Key : List VT := [(.one (.c (.sl 5))), tyI, tyI]
theorem ty_spec_l3Key_ok : tyOf Tryz.prog tbl 126 (some tyK) = ty_spec_l3Key := by kernel_rfl
def vc_impl_ParseCells : VC := (.ite (.sc .eql (.var 0) (.ls ⟨#[45]⟩)) (.ret (.tp1 (.tp1 .tp0 (.nilS 125)) (.lb true)) []) (.rq (.callR 146 none [(.var 0), (.ls ⟨#[44]⟩)] (.one (.c (.sl 9))) [] [(0, 1)]) (.loop [(.one (.c (.sl 125))), tyI] [(.nilS 125), (.li .i64 0)] (.ite (.ic .lss (.var 3) (.len (.var 1))) (.rq (.cond [] (.inb (.var 1) (.var 3))) (.rq (.call [] 147 none [(.cell (.row [.str] (.var 1) (.var 3)) 0), (.ls ⟨#[61]⟩)] (.tup [(.c .str), (.c .str), (.c .bool)]) []) (.rq (.call [] 148 none [(.proj (.var 4) 1)] (.tup [(.c (.int .i64)), (.c .bool)]) []) (.ite (.or (.or (.no (.proj (.var 4) 2)) (.no (.proj (.var 5) 1))) (.ic .geq (.len (.var 2)) (.li .i64 4))) (.ret (.tp1 (.tp1 .tp0 (.nilS 125)) (.lb false)) []) (.rq (.cond [] (.few (.var 2) (.put (.nilS 125) (.cat (.ag1 (.proj (.var 4) 0)) (.cat (.ag1 (.proj (.var 5) 0)) .ag0))))) (.again 0 [(.app (.var 2) (.put (.nilS 125) (.cat (.ag1 (.proj (.var 4) 0)) (.cat (.ag1 (.proj (.var 5) 0)) .ag0)))), (.ar .add .i64 (.var 3) (.li .i64 1))])))))) (.rq (.call [] 105 none [(.var 2)] tyB []) (.ite (.no (.var 4)) (.ret (.tp1 (.tp1 .tp0 (.nilS 125)) (.lb false)) []) (.ret (.tp1 (.tp1 .tp0 (.var 2)) (.lb true)) [])))))))
theorem vc_impl_ParseCells_ok : vcOf Tryz.prog tbl rbt 131 none = vc_impl_ParseCells := by kernel_rfl
def ty_impl_ParseCells : List VT := [tyS]
theorem ty_impl_ParseCells_ok : tyOf Tryz.prog tbl 131 none = ty_impl_ParseCells := by kernel_rfl
theorem rt_impl_ParseCells_ok : rbt.get 131 = [(0, 2)] := by kernel_rfl
def vc_spec_l2Methods : VC := (.ite (.ic .eql (.var 0) (.li .i64 0)) (.ret (.put (.put (.nilS 9) (.ag1 (.ls ⟨#[83, 116, 97, 114, 116]⟩))) (.ag1 (.ls ⟨#[83, 116, 111, 112]⟩))) []) (.ite (.ic .eql (.var 0) (.li .i64 1)) (.ret (.put (.put (.nilS 9) (.ag1 (.ls ⟨#[71, 101, 116]⟩))) (.ag1 (.ls ⟨#[80, 117, 116]⟩))) []) (.ite (.ic .eql (.var 0) (.li .i64 2)) (.ret (.put (.nilS 9) (.ag1 (.ls ⟨#[84, 101, 108, 108]⟩))) []) (.ite (.ic .eql (.var 0) (.li .i64 3)) (.ret (.put (.nilS 9) (.ag1 (.ls ⟨#[72, 101, 97, 114]⟩))) []) (.ite (.ic .eql (.var 0) (.li .i64 4)) (.ret (.put (.put (.nilS 9) (.ag1 (.ls ⟨#[76, 111, 97, 100]⟩))) (.ag1 (.ls ⟨#[83, 97, 118, 101]⟩))) []) (.ite (.ic .eql (.var 0) (.li .i64 5)) (.ret (.put (.nilS 9) (.ag1 (.ls ⟨#[72, 101, 97, 108]⟩))) []) (.ret (.nilS 9) [])))))))
theorem vc_spec_l2Methods_ok : vcOf Tryz.prog tbl rbt 135 none = vc_spec_l2Methods := by kernel_rfl
def ty_spec_l2Methods : List VT := [tyI]
theorem ty_spec_l2Methods_ok : tyOf Tryz.prog tbl 135 none = ty_spec_l2Methods := by kernel_rfl
theorem rt_spec_l2Methods_ok : rbt.get 135 = [(0, 1)] := by kernel_rfl
def vc_spec_FormatCells : VC := (.rq (.call [] 109 none [(.var 0)] tyB []) (.ite (.no (.var 1)) (.ret (.ls ⟨#[]⟩) []) (.loop [(.one (.c (.sl 9))), tyI] [(.nilS 9), (.li .i64 0)] (.ite (.ic .lss (.var 3) (.len (.var 0))) (.rq (.cond [] (.inb (.var 0) (.var 3))) (.rq (.cond [] (.sok (.cell (.row [.str, (.int .i64)] (.var 0) (.var 3)) 0) (.ls ⟨#[61]⟩))) (.rq (.call [] 152 none [(.cell (.row [.str, (.int .i64)] (.var 0) (.var 3)) 1)] tyS []) (.rq (.cond [] (.sok (.scat (.cell (.row [.str, (.int .i64)] (.var 0) (.var 3)) 0) (.ls ⟨#[61]⟩)) (.var 4))) (.rq (.cond [] (.few (.var 2) (.put (.nilS 9) (.ag1 (.scat (.scat (.cell (.row [.str, (.int .i64)] (.var 0) (.var 3)) 0) (.ls ⟨#[61]⟩)) (.var 4)))))) (.again 0 [(.app (.var 2) (.put (.nilS 9) (.ag1 (.scat (.scat (.cell (.row [.str, (.int .i64)] (.var 0) (.var 3)) 0) (.ls ⟨#[61]⟩)) (.var 4))))), (.ar .add .i64 (.var 3) (.li .i64 1))])))))) (.ite (.ic .eql (.len (.var 2)) (.li .i64 0)) (.ret (.ls ⟨#[45]⟩) []) (.rq (.call [] 153 none [(.var 2), (.ls ⟨#[44]⟩)] tyS []) (.ret (.var 4) [])))))))
theorem vc_spec_FormatCells_ok : vcOf Tryz.prog tbl rbt 143 none = vc_spec_FormatCells := by kernel_rfl
def ty_spec_FormatCells : List VT := [(.one (.c (.sl 125)))]
theorem ty_spec_FormatCells_ok : tyOf Tryz.prog tbl 143 none = ty_spec_FormatCells := by kernel_rfl
def vc_spec_JoinWith : VC := (.loop [tyS, tyI] [(.ls ⟨#[]⟩), (.li .i64 0)] (.ite (.ic .lss (.var 3) (.len (.var 0))) (.rq (.cond [] (.inb (.var 0) (.var 3))) (.ite (.ic .gtr (.var 3) (.li .i64 0)) (.rq (.cond [] (.sok (.var 2) (.var 1))) (.rq (.cond [] (.sok (.scat (.var 2) (.var 1)) (.cell (.row [.str] (.var 0) (.var 3)) 0))) (.again 0 [(.scat (.scat (.var 2) (.var 1)) (.cell (.row [.str] (.var 0) (.var 3)) 0)), (.ar .add .i64 (.var 3) (.li .i64 1))]))) (.rq (.cond [] (.sok (.var 2) (.cell (.row [.str] (.var 0) (.var 3)) 0))) (.again 0 [(.scat (.var 2) (.cell (.row [.str] (.var 0) (.var 3)) 0)), (.ar .add .i64 (.var 3) (.li .i64 1))])))) (.ret (.var 2) [])))
theorem vc_spec_JoinWith_ok : vcOf Tryz.prog tbl rbt 153 none = vc_spec_JoinWith := by kernel_rfl
def ty_spec_JoinWith : List VT := [(.one (.c (.sl 9))), tyS]
theorem ty_spec_JoinWith_ok : tyOf Tryz.prog tbl 153 none = ty_spec_JoinWith := by kernel_rfl
end Go.Proofs.YtbgcaneflfdddaaGreatDoor
/- Conditions of functions of this seat's program. Written by fun.py. -/
namespace Go.Proofs.YtbgcaneflfdddaaGreatDoor
open Go
set_option maxRecDepth 1000000
def vc_spec_Wrap : VC := (.rq (.callR 58 none [(.var 0)] (.one tyP) [] [(3, 2), (5, 2)]) (.rq (.call [] 59 none [(.var 1)] (.tup [(.c (.int .i64)), (.c (.int .i64)), (.c .bool)]) []) (.rq (.call [] 28 none [(.var 0)] tyB []) (.ite (.or (.no (.var 4)) (.no (.proj (.var 3) 2))) (.ret (.tp1 (.tp1 .tp0 (.var 2)) (.cat (.ag1 (.li .i64 7)) (.cat (.ag1 (.li .i64 0)) (.cat (.ag1 (.ls ⟨#[]⟩)) (.cat (.ag1 (.li .i64 0)) (.cat (.ag1 (.li .i64 0)) .ag0)))))) []) (.ite (.ic .eql (.len (.cell (.var 0) 5)) (.li .i64 3)) (.ret (.tp1 (.tp1 .tp0 (.var 2)) (.cat (.ag1 (.li .i64 5)) (.cat (.ag1 (.li .i64 0)) (.cat (.ag1 (.ls ⟨#[]⟩)) (.cat (.ag1 (.li .i64 0)) (.cat (.ag1 (.li .i64 0)) .ag0)))))) []) (.rq (.call [] 61 none [(.var 0)] tyI []) (.rq (.call [] 60 none [(.var 5), (.proj (.var 3) 0)] tyB []) (.ite (.no (.var 6)) (.rq (.call [] 61 none [(.var 0)] tyI []) (.ret (.tp1 (.tp1 .tp0 (.var 2)) (.cat (.ag1 (.li .i64 1)) (.cat (.ag1 (.li .i64 0)) (.cat (.ag1 (.ls ⟨#[]⟩)) (.cat (.ag1 (.proj (.var 3) 0)) (.cat (.ag1 (.var 7)) .ag0)))))) [])) (.rq (.cond [] (.few (.cell (.var 2) 5) (.put (.nilS 52) (.cat (.ag1 (.var 1)) (.cat (.ag1 (.li .i64 0)) .ag0))))) (.ret (.tp1 (.tp1 .tp0 (.cat (.ag1 (.cell (.var 2) 0)) (.cat (.ag1 (.cell (.var 2) 1)) (.cat (.ag1 (.cell (.var 2) 2)) (.cat (.ag1 (.cell (.var 2) 3)) (.cat (.ag1 (.cell (.var 2) 4)) (.cat (.ag1 (.app (.cell (.var 2) 5) (.put (.nilS 52) (.cat (.ag1 (.var 1)) (.cat (.ag1 (.li .i64 0)) .ag0))))) .ag0))))))) (.cat (.ag1 (.li .i64 0)) (.cat (.ag1 (.proj (.var 3) 1)) (.cat (.ag1 (.ls ⟨#[]⟩)) (.cat (.ag1 (.li .i64 0)) (.cat (.ag1 (.li .i64 0)) .ag0)))))) []))))))))))
theorem vc_spec_Wrap_ok : vcOf Tryz.prog tbl rbt 18 none = vc_spec_Wrap := by kernel_rfl
def ty_spec_Wrap : List VT := [(.one tyP), tyS]
theorem ty_spec_Wrap_ok : tyOf Tryz.prog tbl 18 none = ty_spec_Wrap := by kernel_rfl
theorem rt_spec_Wrap_ok : rbt.get 18 = [(3, 2), (5, 2)] := by kernel_rfl
def vc_impl_SamePart : VC := (.rq (.call [] 68 none [(.sub (.var 0) 0 5), (.sub (.var 1) 0 5)] tyB []) (.ite (.or (.no (.var 2)) (.ic .neq (.len (.cell (.var 0) 5)) (.len (.cell (.var 1) 5)))) (.ret (.lb false) []) (.loop [tyI] [(.li .i64 0)] (.ite (.ic .lss (.var 3) (.len (.cell (.var 0) 5))) (.rq (.cond [] (.inb (.cell (.var 0) 5) (.var 3))) (.rq (.cond [] (.inb (.cell (.var 1) 5) (.var 3))) (.ite (.no (.ae (.row [.str, (.int .i64)] (.cell (.var 0) 5) (.var 3)) (.row [.str, (.int .i64)] (.cell (.var 1) 5) (.var 3)))) (.ret (.lb false) []) (.again 0 [(.ar .add .i64 (.var 3) (.li .i64 1))])))) (.ret (.lb true) [])))))
theorem vc_impl_SamePart_ok : vcOf Tryz.prog tbl rbt 22 none = vc_impl_SamePart := by kernel_rfl
def ty_impl_SamePart : List VT := [(.one tyP), (.one tyP)]
theorem ty_impl_SamePart_ok : tyOf Tryz.prog tbl 22 none = ty_impl_SamePart := by kernel_rfl
def vc_impl_copyPart : VC := (.rq (.callR 94 none [(.sub (.var 0) 0 5)] (.one tyO) [] [(3, 2)]) (.rq (.cond [] (.few (.nilS 52) (.cell (.var 0) 5))) (.ret (.cat (.ag1 (.cell (.var 1) 0)) (.cat (.ag1 (.cell (.var 1) 1)) (.cat (.ag1 (.cell (.var 1) 2)) (.cat (.ag1 (.cell (.var 1) 3)) (.cat (.ag1 (.cell (.var 1) 4)) (.cat (.ag1 (.app (.nilS 52) (.cell (.var 0) 5))) .ag0)))))) [])))
theorem vc_impl_copyPart_ok : vcOf Tryz.prog tbl rbt 55 none = vc_impl_copyPart := by kernel_rfl
def ty_impl_copyPart : List VT := [(.one tyP)]
theorem ty_impl_copyPart_ok : tyOf Tryz.prog tbl 55 none = ty_impl_copyPart := by kernel_rfl
theorem rt_impl_copyPart_ok : rbt.get 55 = [(3, 2), (5, 2)] := by kernel_rfl
def vc_spec_Offers : VC := (.rq (.call [] 99 none [(.var 0)] tyB []) (.rq (.call [((.no (.var 2)), false)] 99 none [(.var 1)] tyB []) (.ite (.or (.no (.var 2)) (.no (.var 3))) (.ret (.lb false) []) (.loop [tyI] [(.li .i64 0)] (.ite (.ic .lss (.var 4) (.li .i64 6)) (.rq (.call [] 100 none [(.var 1), (.var 4)] tyB []) (.rq (.call [((.var 5), true)] 100 none [(.var 0), (.var 4)] tyB []) (.ite (.an (.var 5) (.no (.var 6))) (.ret (.lb false) []) (.again 0 [(.ar .add .i64 (.var 4) (.li .i64 1))])))) (.ret (.lb true) []))))))
theorem vc_spec_Offers_ok : vcOf Tryz.prog tbl rbt 60 none = vc_spec_Offers := by kernel_rfl
def ty_spec_Offers : List VT := [tyI, tyI]
theorem ty_spec_Offers_ok : tyOf Tryz.prog tbl 60 none = ty_spec_Offers := by kernel_rfl
def vc_impl_isNumber : VC := (.ret (.an (.ic .geq (.var 0) (.li .i64 0)) (.ic .leq (.var 0) (.li .i64 999))) [])
theorem vc_impl_isNumber_ok : vcOf Tryz.prog tbl rbt 65 none = vc_impl_isNumber := by kernel_rfl
def ty_impl_isNumber : List VT := [tyI]
theorem ty_impl_isNumber_ok : tyOf Tryz.prog tbl 65 none = ty_impl_isNumber := by kernel_rfl
def vc_impl_IsFace : VC := (.ret (.an (.ic .geq (.var 0) (.li .i64 0)) (.ic .leq (.var 0) (.li .i64 63))) [])
theorem vc_impl_IsFace_ok : vcOf Tryz.prog tbl rbt 69 none = vc_impl_IsFace := by kernel_rfl
def ty_impl_IsFace : List VT := [tyI]
theorem ty_impl_IsFace_ok : tyOf Tryz.prog tbl 69 none = ty_impl_IsFace := by kernel_rfl
def vc_spec_l1Byte : VC := (.rq (.cond [] (.ic .geq (.li .u64 35) (.li .u64 0))) (.rq (.cond [] (.ic .geq (.li .u64 45) (.li .u64 0))) (.ite (.ic .lss (.var 1) (.len (.var 0))) (.rq (.cond [] (.inb (.var 0) (.var 1))) (.ret (.ar .and .i64 (.ar .add .i64 (.ar .and .i64 (.ar .xor .i64 (.ar .shr .i64 (.ar .add .i64 (.ar .mul .i64 (.var 2) (.li .i64 6364136223846793005)) (.li .i64 1442695040888963407)) (.li .u64 35)) (.ar .shr .i64 (.ar .add .i64 (.ar .mul .i64 (.var 2) (.li .i64 6364136223846793005)) (.li .i64 1442695040888963407)) (.li .u64 45))) (.li .i64 255)) (.conv .i64 (.cell (.row [(.int .u8)] (.var 0) (.var 1)) 0))) (.li .i64 255)) [(.var 0), (.ar .add .i64 (.var 1) (.li .i64 1)), (.ar .add .i64 (.ar .mul .i64 (.var 2) (.li .i64 6364136223846793005)) (.li .i64 1442695040888963407))])) (.ret (.ar .and .i64 (.ar .xor .i64 (.ar .shr .i64 (.ar .add .i64 (.ar .mul .i64 (.var 2) (.li .i64 6364136223846793005)) (.li .i64 1442695040888963407)) (.li .u64 35)) (.ar .shr .i64 (.ar .add .i64 (.ar .mul .i64 (.var 2) (.li .i64 6364136223846793005)) (.li .i64 1442695040888963407)) (.li .u64 45))) (.li .i64 255)) [(.var 0), (.var 1), (.ar .add .i64 (.ar .mul .i64 (.var 2) (.li .i64 6364136223846793005)) (.li .i64 1442695040888963407))]))))
theorem vc_spec_l1Byte_ok : vcOf Tryz.prog tbl rbt 90 (some tyK) = vc_spec_l1Byte := by kernel_rfl
def ty_spec_l1Byte : List VT := [(.one (.c (.sl 5))), tyI, tyI]
theorem ty_spec_l1Byte_ok : tyOf Tryz.prog tbl 90 (some tyK) = ty_spec_l1Byte := by kernel_rfl
def vc_impl_copyCore : VC := (.rq (.cond [] (.few (.nilS 125) (.cell (.var 0) 3))) (.ret (.cat (.ag1 (.cell (.var 0) 0)) (.cat (.ag1 (.cell (.var 0) 1)) (.cat (.ag1 (.cell (.var 0) 2)) (.cat (.ag1 (.app (.nilS 125) (.cell (.var 0) 3))) (.cat (.ag1 (.cell (.var 0) 4)) .ag0))))) []))
theorem vc_impl_copyCore_ok : vcOf Tryz.prog tbl rbt 94 none = vc_impl_copyCore := by kernel_rfl
def ty_impl_copyCore : List VT := [(.one tyO)]
theorem ty_impl_copyCore_ok : tyOf Tryz.prog tbl 94 none = ty_impl_copyCore := by kernel_rfl
theorem rt_impl_copyCore_ok : rbt.get 94 = [(3, 2)] := by kernel_rfl
def vc_spec_l2Has : VC := (.rq (.cond [] (.ic .geq (.var 1) (.li .i64 0))) (.rq (.cond [] (.ic .neq (.li .i64 2) (.li .i64 0))) (.ret (.ic .eql (.ar .rem .i64 (.ar .shr .i64 (.var 0) (.var 1)) (.li .i64 2)) (.li .i64 1)) [])))
theorem vc_spec_l2Has_ok : vcOf Tryz.prog tbl rbt 100 none = vc_spec_l2Has := by kernel_rfl
def ty_spec_l2Has : List VT := [tyI, tyI]
theorem ty_spec_l2Has_ok : tyOf Tryz.prog tbl 100 none = ty_spec_l2Has := by kernel_rfl
def vc_impl_KindFace : VC := (.ite (.sc .eql (.var 0) (.ls ⟨#[115, 116, 111, 110, 101]⟩)) (.ret (.tp1 (.tp1 .tp0 (.li .i64 0)) (.lb true)) []) (.ite (.sc .eql (.var 0) (.ls ⟨#[108, 97, 109, 112]⟩)) (.ret (.tp1 (.tp1 .tp0 (.li .i64 1)) (.lb true)) []) (.ite (.sc .eql (.var 0) (.ls ⟨#[115, 104, 101, 108, 102]⟩)) (.ret (.tp1 (.tp1 .tp0 (.li .i64 2)) (.lb true)) []) (.ite (.sc .eql (.var 0) (.ls ⟨#[109, 101, 116, 101, 114]⟩)) (.ret (.tp1 (.tp1 .tp0 (.li .i64 5)) (.lb true)) []) (.ite (.sc .eql (.var 0) (.ls ⟨#[100, 114, 97, 119, 101, 114]⟩)) (.ret (.tp1 (.tp1 .tp0 (.li .i64 3)) (.lb true)) []) (.ite (.sc .eql (.var 0) (.ls ⟨#[104, 111, 114, 110]⟩)) (.ret (.tp1 (.tp1 .tp0 (.li .i64 9)) (.lb true)) []) (.ite (.sc .eql (.var 0) (.ls ⟨#[118, 97, 117, 108, 116]⟩)) (.ret (.tp1 (.tp1 .tp0 (.li .i64 19)) (.lb true)) []) (.ite (.sc .eql (.var 0) (.ls ⟨#[114, 111, 98, 111, 116]⟩)) (.ret (.tp1 (.tp1 .tp0 (.li .i64 63)) (.lb true)) []) (.ret (.tp1 (.tp1 .tp0 (.li .i64 0)) (.lb false)) [])))))))))
theorem vc_impl_KindFace_ok : vcOf Tryz.prog tbl rbt 104 none = vc_impl_KindFace := by kernel_rfl
def ty_impl_KindFace : List VT := [tyS]
theorem ty_impl_KindFace_ok : tyOf Tryz.prog tbl 104 none = ty_impl_KindFace := by kernel_rfl
def vc_spec_IsCells : VC := (.loop [tyI] [(.li .i64 0)] (.ite (.ic .lss (.var 1) (.len (.var 0))) (.rq (.cond [] (.inb (.var 0) (.var 1))) (.rq (.call [] 93 none [(.cell (.row [.str, (.int .i64)] (.var 0) (.var 1)) 0)] tyB []) (.rq (.cond [((.or (.or (.no (.var 2)) (.ic .lss (.cell (.row [.str, (.int .i64)] (.var 0) (.var 1)) 1) (.li .i64 0))) (.ic .gtr (.cell (.row [.str, (.int .i64)] (.var 0) (.var 1)) 1) (.li .i64 999))), false), ((.ic .gtr (.var 1) (.li .i64 0)), true)] (.inb (.var 0) (.ar .sub .i64 (.var 1) (.li .i64 1)))) (.ite (.or (.or (.or (.no (.var 2)) (.ic .lss (.cell (.row [.str, (.int .i64)] (.var 0) (.var 1)) 1) (.li .i64 0))) (.ic .gtr (.cell (.row [.str, (.int .i64)] (.var 0) (.var 1)) 1) (.li .i64 999))) (.an (.ic .gtr (.var 1) (.li .i64 0)) (.sc .geq (.cell (.row [.str, (.int .i64)] (.var 0) (.ar .sub .i64 (.var 1) (.li .i64 1))) 0) (.cell (.row [.str, (.int .i64)] (.var 0) (.var 1)) 0)))) (.ret (.lb false) []) (.again 0 [(.ar .add .i64 (.var 1) (.li .i64 1))]))))) (.ret (.ic .leq (.len (.var 0)) (.li .i64 4)) [])))
theorem vc_spec_IsCells_ok : vcOf Tryz.prog tbl rbt 109 none = vc_spec_IsCells := by kernel_rfl
def ty_spec_IsCells : List VT := [(.one (.c (.sl 125)))]
theorem ty_spec_IsCells_ok : tyOf Tryz.prog tbl 109 none = ty_spec_IsCells := by kernel_rfl
def vc_spec_l2Method : VC := (.rq (.call [] 89 (some [(.var 0), (.var 1), (.var 2)]) [(.li .i64 10)] tyB tyK) (.ite (.var 3) (.rq (.call [] 125 (some [(.var 4), (.var 5), (.var 6)]) [(.put (.put (.put (.put (.put (.put (.nilS 9) (.ag1 (.ls ⟨#[]⟩))) (.ag1 (.ls ⟨#[115, 116, 97, 114, 116]⟩))) (.ag1 (.ls ⟨#[83, 116, 97]⟩))) (.ag1 (.ls ⟨#[75, 101, 101, 112]⟩))) (.ag1 (.ls ⟨#[72, 101, 97, 108, 115]⟩))) (.ag1 (.ls ⟨#[114, 117, 110]⟩)))] tyS tyK) (.ret (.var 7) [(.var 8), (.var 9), (.var 10)])) (.rq (.call [] 125 (some [(.var 4), (.var 5), (.var 6)]) [(.put (.put (.put (.put (.put (.put (.put (.put (.put (.nilS 9) (.ag1 (.ls ⟨#[83, 116, 97, 114, 116]⟩))) (.ag1 (.ls ⟨#[83, 116, 111, 112]⟩))) (.ag1 (.ls ⟨#[71, 101, 116]⟩))) (.ag1 (.ls ⟨#[80, 117, 116]⟩))) (.ag1 (.ls ⟨#[84, 101, 108, 108]⟩))) (.ag1 (.ls ⟨#[72, 101, 97, 114]⟩))) (.ag1 (.ls ⟨#[76, 111, 97, 100]⟩))) (.ag1 (.ls ⟨#[83, 97, 118, 101]⟩))) (.ag1 (.ls ⟨#[72, 101, 97, 108]⟩)))] tyS tyK) (.ret (.var 7) [(.var 8), (.var 9), (.var 10)]))))
theorem vc_spec_l2Method_ok : vcOf Tryz.prog tbl rbt 123 (some tyK) = vc_spec_l2Method := by kernel_rfl
def ty_spec_l2Method : List VT := [(.one (.c (.sl 5))), tyI, tyI]
theorem ty_spec_l2Method_ok : tyOf Tryz.prog tbl 123 (some tyK) = ty_spec_l2Method := by kernel_rfl
def vc_spec_l3Text : VC := (.rq (.callR 122 (some [(.var 0), (.var 1), (.var 2)]) [] (.one (.c (.sl 125))) tyK [(0, 2)]) (.rq (.call [] 143 none [(.var 3)] tyS []) (.rq (.call [] 52 (some [(.var 4), (.var 5), (.var 6)]) [(.li .i64 7)] tyI tyK) (.ite (.ic .eql (.var 8) (.li .i64 0)) (.rq (.call [] 125 (some [(.var 9), (.var 10), (.var 11)]) [(.put (.put (.put (.put (.put (.nilS 9) (.ag1 (.ls ⟨#[44]⟩))) (.ag1 (.ls ⟨#[44, 122, 61, 49]⟩))) (.ag1 (.ls ⟨#[61]⟩))) (.ag1 (.ls ⟨#[32]⟩))) (.ag1 (.ls ⟨#[48]⟩)))] tyS tyK) (.rq (.cond [] (.sok (.var 7) (.var 12))) (.ret (.scat (.var 7) (.var 12)) [(.var 13), (.var 14), (.var 15)]))) (.ite (.ic .eql (.var 8) (.li .i64 1)) (.rq (.call [] 125 (some [(.var 9), (.var 10), (.var 11)]) [(.put (.put (.put (.put (.put (.put (.put (.put (.nilS 9) (.ag1 (.ls ⟨#[]⟩))) (.ag1 (.ls ⟨#[45]⟩))) (.ag1 (.ls ⟨#[98, 61, 49, 44, 97, 61, 50]⟩))) (.ag1 (.ls ⟨#[97, 61, 49, 44, 97, 61, 49]⟩))) (.ag1 (.ls ⟨#[97, 61, 49, 44, 98, 61, 50, 44, 99, 61, 51, 44, 100, 61, 52, 44, 101, 61, 53]⟩))) (.ag1 (.ls ⟨#[97, 32, 61, 32, 49]⟩))) (.ag1 (.ls ⟨#[97, 61, 48, 49]⟩))) (.ag1 (.ls ⟨#[45, 45]⟩)))] tyS tyK) (.ret (.var 12) [(.var 13), (.var 14), (.var 15)])) (.ret (.var 7) [(.var 9), (.var 10), (.var 11)]))))))
theorem vc_spec_l3Text_ok : vcOf Tryz.prog tbl rbt 127 (some tyK) = vc_spec_l3Text := by kernel_rfl
def ty_spec_l3Text : List VT := [(.one (.c (.sl 5))), tyI, tyI]
theorem ty_spec_l3Text_ok : tyOf Tryz.prog tbl 127 (some tyK) = ty_spec_l3Text := by kernel_rfl
def vc_spec_l1Int : VC := (.rq (.call [] 52 (some [(.var 1), (.var 2), (.var 3)]) [(.len (.var 0))] tyI tyK) (.rq (.cond [] (.inb (.var 0) (.var 4))) (.ret (.cell (.row [(.int .i64)] (.var 0) (.var 4)) 0) [(.var 5), (.var 6), (.var 7)])))
theorem vc_spec_l1Int_ok : vcOf Tryz.prog tbl rbt 132 (some tyK) = vc_spec_l1Int := by kernel_rfl
def ty_spec_l1Int : List VT := [(.one (.c (.sl 3))), (.one (.c (.sl 5))), tyI, tyI]
theorem ty_spec_l1Int_ok : tyOf Tryz.prog tbl 132 (some tyK) = ty_spec_l1Int := by kernel_rfl
def vc_impl_FormatNumber : VC := (.rq (.call [] 154 none [(.var 0)] tyS []) (.ret (.var 1) []))
theorem vc_impl_FormatNumber_ok : vcOf Tryz.prog tbl rbt 144 none = vc_impl_FormatNumber := by kernel_rfl
def ty_impl_FormatNumber : List VT := [tyI]
theorem ty_impl_FormatNumber_ok : tyOf Tryz.prog tbl 144 none = ty_impl_FormatNumber := by kernel_rfl
end Go.Proofs.YtbgcaneflfdddaaGreatDoor
/- From 'it ends so' to 'it ends with this': a condition that is met has an outcome. No program in sight. -/
namespace Go.Proofs.YtbgcaneflfdddaaGreatDoor
open Go.RowKit
variable [GC]
section
open Classical
variable {P : Program} {tab : Nat → List CT} {T : D → List D → Prop}
abbrev Out := List D → D × List D
theorem VC.exact {r0 : D × List D} (hT : T r0.1 r0.2) : ∀ (V : VC) (env : List D) (L : List ((List D → Prop) × Out)), (∀ x ∈ L, ∀ ys, T (x.2 ys).1 (x.2 ys).2) → V.den P tab env T (L.map (·.1)) →
  ∃ r : D × List D, T r.1 r.2 ∧ V.den P tab env (fun d bs => d = r.1 ∧ bs = r.2) (L.map fun x => fun ys => x.1 ys ∧ x.2 ys = r)
 | .fail _, _, _, _, h => h.elim
 | .ret e bs, env, L, _, h => by
  simp only [VC.den] at h
  exact ⟨(e.den env, bs.map (fun x => x.den env)), h, ⟨rfl, rfl⟩⟩
 | .rq (.cond gs c) k, env, L, hL, ⟨h1, h2⟩ => by
  obtain ⟨r, q1, q2⟩ := VC.exact hT k env L hL h2
  exact ⟨r, q1, h1, q2⟩
 | .rq (.call gs f bx args vt nb) k, env, L, hL, ⟨d, cs, h1, h2, h3, h4⟩ => by
  obtain ⟨r, q1, q2⟩ := VC.exact hT k _ L hL h4
  exact ⟨r, q1, d, cs, h1, h2, h3, q2⟩
 | .rq (.callR f bx args vt nb rt) k, env, L, hL, ⟨d, cs, h1, h2, h3, h4⟩ => by
  obtain ⟨r, q1, q2⟩ := VC.exact hT k _ L hL h4
  exact ⟨r, q1, d, cs, h1, h2, h3, q2⟩
 | .rq (.callV gs e args vt) k, env, L, hL, ⟨d, h1, h3, h4⟩ => by
  obtain ⟨r, q1, q2⟩ := VC.exact hT k _ L hL h4
  exact ⟨r, q1, d, h1, h3, q2⟩
 | .rq (.glob g vt ix) k, env, L, hL, ⟨d, h1, h2, h3, h4⟩ => by
  obtain ⟨r, q1, q2⟩ := VC.exact hT k _ L hL h4
  exact ⟨r, q1, d, h1, h2, h3, q2⟩
 | .rq (.new f args nb) k, env, L, hL, ⟨cs, h2, h3, h4⟩ => by
  obtain ⟨r, q1, q2⟩ := VC.exact hT k _ L hL h4
  exact ⟨r, q1, cs, h2, h3, q2⟩
 | .ite c a b, env, L, hL, ⟨h1, h2⟩ => by
  cases hc : (c.den env).toB with
  | true =>
   obtain ⟨r, q1, q2⟩ := VC.exact hT a env L hL (h1 hc)
   exact ⟨r, q1, ⟨fun _ => q2, fun h => absurd (hc.symm.trans h) (by simp)⟩⟩
  | false =>
   obtain ⟨r, q1, q2⟩ := VC.exact hT b env L hL (h2 hc)
   exact ⟨r, q1, ⟨fun h => absurd (hc.symm.trans h) (by simp), fun _ => q2⟩⟩
 | .again d es, env, L, hL, h => by
  simp only [VC.den, List.getElem?_map] at h
  cases hd : L[d]? with
  | none => rw [hd] at h; exact h.elim
  | some x =>
   rw [hd] at h
   refine ⟨x.2 (es.map (·.den env)), hL x (List.mem_of_getElem? hd) _, ?_⟩
   simp only [VC.den, List.getElem?_map, hd]
   exact ⟨h, rfl⟩
 | .loop tys inits body, env, L, hL, ⟨I, μ, hI, hb⟩ => by
  let D1 (xs : List D) (o : Out) (r : D × List D) : Prop := T r.1 r.2 ∧ body.den P tab (env ++ xs) (fun d bs => d = r.1 ∧ bs = r.2) ((fun ys => (I ys ∧ μ ys < μ xs) ∧ o ys = r) :: L.map fun x => fun ys => x.1 ys ∧ x.2 ys = r)
  let G : (xs : List D) → ((ys : List D) → μ ys < μ xs → D × List D) → D × List D := fun xs rec =>
   if h : ∃ r, D1 xs (fun ys => if hy : μ ys < μ xs then rec ys hy else r0) r then h.choose else r0
  let o : Out := (measure μ).wf.fix G
  have ho : ∀ xs, o xs = if h : ∃ r, D1 xs (fun ys => if μ ys < μ xs then o ys else r0) r then h.choose else r0 := fun xs => by
   show (measure μ).wf.fix G xs = _
   rw [WellFounded.fix_eq]
   rfl
  have hoT : ∀ xs, T (o xs).1 (o xs).2 := fun xs => by
   rw [ho]
   split
   ·rename_i h; exact h.choose_spec.1
   ·exact hT
  have hbody : ∀ xs, HasTys tab tys xs → FitsL xs → I xs → body.den P tab (env ++ xs) (fun d bs => d = (o xs).1 ∧ bs = (o xs).2) ((fun ys => (I ys ∧ o ys = o xs) ∧ μ ys < μ xs) :: L.map fun x => fun ys => x.1 ys ∧ x.2 ys = o xs) := by
   intro xs h1 h2 h3
   have hex : ∃ r, D1 xs (fun ys => if μ ys < μ xs then o ys else r0) r := by
    refine VC.exact hT body (env ++ xs) ((fun ys => I ys ∧ μ ys < μ xs, fun ys => if μ ys < μ xs then o ys else r0) :: L) ?_ (hb xs h1 h2 h3)
    intro x hx ys
    rcases List.mem_cons.1 hx with rfl | hx
    ·simp only; split
     ·exact hoT ys
     ·exact hT
    ·exact hL x hx ys
   have hox : o xs = hex.choose := by rw [ho, dif_pos hex]
   have hs := hex.choose_spec.2
   rw [← hox] at hs
   have he : (fun ys => (I ys ∧ μ ys < μ xs) ∧ (if μ ys < μ xs then o ys else r0) = o xs) = (fun ys => (I ys ∧ o ys = o xs) ∧ μ ys < μ xs) := by
    funext ys
    apply propext
    by_cases hy : μ ys < μ xs <;> simp [hy]
   rw [he] at hs
   exact hs
  refine ⟨o (inits.map (·.den env)), hoT _, fun xs => I xs ∧ o xs = o (inits.map (·.den env)), μ, ⟨hI, rfl⟩, ?_⟩
  rintro xs h1 h2 ⟨h3, h4⟩
  have := hbody xs h1 h2 h3
  rw [h4] at this
  exact this
theorem FunR.ex {f : FuncId} {tb : TB} {rb : RB} {bx : Option (List CT)} {V : VC} {Γ : List VT} (hV : vcOf P tb rb f bx = V) (hok : V.ok = true) (hΓ : tyOf P tb f bx = Γ) (htb : tbOk P tb tb = true) (hm : P.follows .mixedOrders = true)
  {bc : Option (List D)} {ds : List D} {r0 : D × List D} (hT : T r0.1 r0.2) (hbc : bc.map List.length = bx.map List.length) (hty : HasTys tb.tab Γ (ds ++ bc.getD [])) (hbx' : bx = none → ∀ d bs, T d bs → bs = [])
  (hden : FitsL ds → FitsL (bc.getD []) → V.den P tb.tab (ds ++ bc.getD []) T []) : ∃ r : D × List D, T r.1 r.2 ∧ FunR P f bc ds r.1 r.2 (rb.get f) := by
 by_cases hf : FitsL ds ∧ FitsL (bc.getD [])
 ·obtain ⟨r, q1, q2⟩ := VC.exact hT V _ [] (by simp) (hden hf.1 hf.2)
  exact ⟨r, q1, FunR.of hV hok hΓ htb hm hbc hty (fun h => hbx' h _ _ q1) fun _ _ => q2⟩
 ·exact ⟨r0, hT, FunR.of hV hok hΓ htb hm hbc hty (fun h => hbx' h _ _ hT) fun h1 h2 => absurd ⟨h1, h2⟩ hf⟩
theorem Fun.ex {f : FuncId} {tb : TB} {rb : RB} {bx : Option (List CT)} {V : VC} {Γ : List VT} (hV : vcOf P tb rb f bx = V) (hok : V.ok = true) (hΓ : tyOf P tb f bx = Γ) (htb : tbOk P tb tb = true) (hm : P.follows .mixedOrders = true)
  {bc : Option (List D)} {ds : List D} {r0 : D × List D} (hT : T r0.1 r0.2) (hbc : bc.map List.length = bx.map List.length) (hty : HasTys tb.tab Γ (ds ++ bc.getD [])) (hbx' : bx = none → ∀ d bs, T d bs → bs = [])
  (hden : FitsL ds → FitsL (bc.getD []) → V.den P tb.tab (ds ++ bc.getD []) T []) : ∃ r : D × List D, T r.1 r.2 ∧ Fun P f bc ds r.1 r.2 := by
 obtain ⟨r, h1, h2⟩ := FunR.ex hV hok hΓ htb hm hT hbc hty hbx' hden
 exact ⟨r, h1, .ofR h2⟩
end
end Go.Proofs.YtbgcaneflfdddaaGreatDoor
/- Contracts out of conditions, for the user: lists of data as lists of structures; loops; calls. -/
namespace Go.Proofs.YtbgcaneflfdddaaGreatDoor
open Go.RowKit Go
variable [GC]
theorem cA : (∀ {α : Type} {a : α} {r s : List α}, (a :: r) ++ s = a :: (r ++ s)) ∧ (∀ {α : Type} (r : List α), [] ++ r = r) := ⟨by simp, by simp⟩
theorem gE : (∀ {α : Type} {a b : α} {l : List α}, a ∈ b :: l ↔ a = b ∨ a ∈ l) ∧ (∀ {α : Type} {a : α}, ¬ a ∈ ([] : List α)) ∧ (∀ (p : Prop), (p ∨ False) = p) ∧ (∀ {α : Type} {p : α → Prop} {q : α → Prop} {a : α}, (∀ x, x = a ∨ q x → p x) ↔ p a ∧ ∀ x, q x → p x) ∧ (∀ {α : Type} {p : α → Prop} {a : α}, (∀ x, x = a → p x) ↔ p a) := ⟨List.mem_cons, List.not_mem_nil, or_false, forall_eq_or_imp, forall_eq⟩
theorem mo : Tryz.prog.follows .mixedOrders = true := by kernel_rfl
theorem FunR.ofV {f : FuncId} {V : VC} {Γ : List VT} (hV : vcOf Tryz.prog tbl rbt f none = V) (hΓ : tyOf Tryz.prog tbl f none = Γ) {rt : List (Nat × Nat)} (hrt : rbt.get f = rt) (hok : V.ok = true) {ds : List D} {r : D}
  (hty : HasTys tbl.tab Γ ds) (hden : FitsL ds → V.den Tryz.prog tbl.tab ds (fun d bs => d = r ∧ bs = []) []) : FunR Tryz.prog f none ds r [] rt :=
 hrt ▸ FunR.of hV hok hΓ tbl_ok mo rfl (by simpa using hty) (fun _ => rfl) (fun h _ => by simpa using hden h)
theorem Fun.ofV {f : FuncId} {V : VC} {Γ : List VT} (hV : vcOf Tryz.prog tbl rbt f none = V) (hΓ : tyOf Tryz.prog tbl f none = Γ) (hok : V.ok = true) {ds : List D} {r : D}
  (hty : HasTys tbl.tab Γ ds) (hden : FitsL ds → V.den Tryz.prog tbl.tab ds (fun d bs => d = r ∧ bs = []) []) : Fun Tryz.prog f none ds r [] :=
 Fun.of hV hok hΓ tbl_ok mo rfl (by simpa using hty) (fun _ => rfl) (fun h _ => by simpa using hden h)
theorem Fun.of_calls {P : Program} {f : FuncId} {ds : List D} {r : D} (hf : callable P f = true)
  (h : ∀ (w : World) (M : Addr → Prop) (vs : List Value), (∀ p, M p → p.block < w.heap.size) → Rs w M ds vs → Calls P f vs.toArray w fun e w' => ∃ v, e = .returned v ∧ R w' M r v ∧ Below w.heap.size w w') : Fun P f none ds r [] :=
 ⟨hf, fun w M g vs hM hr _ => (h w M vs hM.1 hr).mono fun e w' ⟨v, h1, h2, h3⟩ => ⟨v, h1, h2, Fr.of_below h3 (Nat.le_refl _), fun h => by cases h⟩⟩
theorem Fun.of_callsG {P : Program} {f : FuncId} {ds : List D} {r : D} (hf : callable P f = true)
  (h : ∀ (w : World) (M : Addr → Prop) (vs : List Value), Rdy w M → Rs w M ds vs → Calls P f vs.toArray w fun e w' => ∃ v, e = .returned v ∧ R w' M r v ∧ Below w.heap.size w w') : Fun P f none ds r [] :=
 ⟨hf, fun w M g vs hM hr _ => (h w M vs hM hr).mono fun e w' ⟨v, h1, h2, h3⟩ => ⟨v, h1, h2, Fr.of_below h3 (Nat.le_refl _), fun h => by cases h⟩⟩
inductive AllImp : List (List D → Prop) → List (List D → Prop) → Prop
 | nil : AllImp [] []
 | cons {p q : List D → Prop} {L L' : List (List D → Prop)} (h : ∀ ys, p ys → q ys) (t : AllImp L L') : AllImp (p :: L) (q :: L')
theorem AllImp.refl : ∀ L, AllImp L L
 | [] => .nil
 | _ :: L => .cons (fun _ h => h) (AllImp.refl L)
theorem AllImp.get {L L' : List (List D → Prop)} (h : AllImp L L') : ∀ {d : Nat} {p : List D → Prop}, L[d]? = some p → ∃ q, L'[d]? = some q ∧ ∀ ys, p ys → q ys := by
 induction h with
 | nil => intro d p hp; simp at hp
 | cons h t ih =>
  intro d p hp
  cases d with
  | zero => simp at hp; subst hp; exact ⟨_, rfl, h⟩
  | succ d => simp at hp; simpa using ih hp
theorem VC.den_mono {P : Program} {tab : Nat → List CT} {Q Q' : D → List D → Prop} (hQ : ∀ d bs, Q d bs → Q' d bs) : ∀ (V : VC) (env : List D) {L L' : List (List D → Prop)}, AllImp L L' → V.den P tab env Q L → V.den P tab env Q' L'
 | .fail _, _, _, _, _, h => h.elim
 | .ret e bs, env, _, _, _, h => hQ _ _ h
 | .rq (.cond gs c) k, env, _, _, hL, ⟨h1, h2⟩ => ⟨h1, VC.den_mono hQ k env hL h2⟩
 | .rq (.call gs f bx args vt nb) k, env, _, _, hL, ⟨d, cs, h1, h2, h3, h4⟩ => ⟨d, cs, h1, h2, h3, VC.den_mono hQ k _ hL h4⟩
 | .rq (.callR f bx args vt nb rt) k, env, _, _, hL, ⟨d, cs, h1, h2, h3, h4⟩ => ⟨d, cs, h1, h2, h3, VC.den_mono hQ k _ hL h4⟩
 | .rq (.callV gs e args vt) k, env, _, _, hL, ⟨d, h1, h3, h4⟩ => ⟨d, h1, h3, VC.den_mono hQ k _ hL h4⟩
 | .rq (.glob g vt ix) k, env, _, _, hL, ⟨d, h1, h2, h3, h4⟩ => ⟨d, h1, h2, h3, VC.den_mono hQ k _ hL h4⟩
 | .rq (.new f args nb) k, env, _, _, hL, ⟨cs, h2, h3, h4⟩ => ⟨cs, h2, h3, VC.den_mono hQ k _ hL h4⟩
 | .ite c a b, env, _, _, hL, ⟨h1, h2⟩ => ⟨fun h => VC.den_mono hQ a env hL (h1 h), fun h => VC.den_mono hQ b env hL (h2 h)⟩
 | .loop tys inits body, env, _, _, hL, ⟨I, μ, h1, h2⟩ => ⟨I, μ, h1, fun xs q1 q2 q3 => VC.den_mono hQ body _ (.cons (fun _ h => h) hL) (h2 xs q1 q2 q3)⟩
 | .again d es, env, L, L', hL, h => by
  simp only [VC.den] at h ⊢
  cases hd : L[d]? with
  | none => rw [hd] at h; exact h.elim
  | some p =>
   rw [hd] at h
   obtain ⟨q, h1, h2⟩ := hL.get hd
   rw [h1]; exact h2 _ h
class Enc (α : Type) extends Inhabited α where
 cells : α → List D
def nth {α : Type} [Inhabited α] (l : List α) (k : Nat) : α := l.getD k default
def enc {α : Type} [Enc α] (x : α) : D := .agg (Enc.cells x)
def encS {α : Type} [Enc α] (l : List α) : D := .sl (l.map Enc.cells)
theorem row_enc {α : Type} [Enc α] (l : List α) (k : Nat) {z : List D} (h : Enc.cells (default : α) = z) : D.agg (((l.map Enc.cells)[k]?).getD z) = enc (nth l k) := by
 unfold enc nth
 rw [List.getD_eq_getElem?_getD, List.getElem?_map]
 cases l[k]? <;> simp [h]
@[simp] theorem encS_toR {α : Type} [Enc α] (l : List α) : (encS l).toR = l.map Enc.cells := rfl
@[simp] theorem encS_len {α : Type} [Enc α] (l : List α) : lenD (encS l) = l.length := by simp [encS, lenD]
@[simp] theorem enc_toA {α : Type} [Enc α] (x : α) : (enc x).toA = Enc.cells x := rfl
theorem den_loop {P : Program} {tab : Nat → List CT} {env : List D} {Q : D → List D → Prop} {L : List (List D → Prop)} {tys : List VT} {inits : List E} {body : VC}
  (St : Type) (e : St → List D) (I : St → Prop) (μ : St → Nat) (s0 : St) (hμ : ∀ s s', e s = e s' → μ s = μ s') (h0 : inits.map (·.den env) = e s0) (hI : I s0)
  (hs : ∀ s, I s → FitsL (e s) → body.den P tab (env ++ e s) Q ((fun ys => ∃ s', ys = e s' ∧ I s' ∧ μ s' < μ s) :: L)) : (VC.loop tys inits body).den P tab env Q L := by
 classical
 let m : List D → Nat := fun xs => if h : ∃ s, xs = e s then μ h.choose else 0
 have hm : ∀ s, m (e s) = μ s := by
  intro s
  have hx : ∃ s', e s = e s' := ⟨s, rfl⟩
  show (if h : ∃ s', e s = e s' then μ h.choose else 0) = μ s
  rw [dif_pos hx]
  exact (hμ _ _ hx.choose_spec).symm
 refine ⟨fun xs => ∃ s, xs = e s ∧ I s, m, ⟨s0, h0, hI⟩, ?_⟩
 rintro xs _ hf ⟨s, rfl, hIs⟩
 have := hs s hIs hf
 have he : (fun ys => (∃ s, ys = e s ∧ I s) ∧ m ys < m (e s)) = (fun ys => ∃ s', ys = e s' ∧ I s' ∧ μ s' < μ s) := by
  funext ys
  apply propext
  constructor
  ·rintro ⟨⟨s', rfl, h⟩, h2⟩; exact ⟨s', rfl, h, by rwa [hm, hm] at h2⟩
  ·rintro ⟨s', rfl, h, h2⟩; exact ⟨⟨s', rfl, h⟩, by rwa [hm, hm]⟩
 rw [he]
 exact this
theorem wrap_i64 {n : Int} (h1 : -9223372036854775808 ≤ n) (h2 : n ≤ 9223372036854775807) : IntKind.i64.wrap n = n := by
 simp only [IntKind.wrap, IntKind.bits, IntKind.signed]
 simp
 omega
theorem den_call {P : Program} {tab : Nat → List CT} {env : List D} {Q : D → List D → Prop} {L : List (List D → Prop)} {gs : Gd} {f : FuncId} {args : List E} {vt : VT} {k : VC} {r : D} {xs : List D}
  (ha : args.map (·.den env) = xs) (hc : Fun P f none xs r []) (hty : HasVT tab vt r) (hk : k.den P tab (env ++ [r]) Q L) : (VC.rq (.call gs f none args vt []) k).den P tab env Q L :=
 ⟨r, [], hty, trivial, fun _ => ha ▸ hc, hk⟩
theorem den_callR {P : Program} {tab : Nat → List CT} {env : List D} {Q : D → List D → Prop} {L : List (List D → Prop)} {f : FuncId} {args : List E} {vt : VT} {rt : List (Nat × Nat)} {k : VC} {r : D} {xs : List D}
  (ha : args.map (·.den env) = xs) (hc : FunR P f none xs r [] rt) (hty : HasVT tab vt r) (hk : k.den P tab (env ++ [r]) Q L) : (VC.rq (.callR f none args vt [] rt) k).den P tab env Q L :=
 ⟨r, [], hty, trivial, ha ▸ hc, hk⟩
theorem den_cond {P : Program} {tab : Nat → List CT} {env : List D} {Q : D → List D → Prop} {L : List (List D → Prop)} {gs : Gd} {c : E} {k : VC}
  (h : gsH env gs → c.den env = .bool true) (hk : k.den P tab env Q L) : (VC.rq (.cond gs c) k).den P tab env Q L := ⟨h, hk⟩
theorem den_ite {P : Program} {tab : Nat → List CT} {env : List D} {Q : D → List D → Prop} {L : List (List D → Prop)} {c : E} {a b : VC}
  (h1 : (c.den env).toB = true → a.den P tab env Q L) (h2 : (c.den env).toB = false → b.den P tab env Q L) : (VC.ite c a b).den P tab env Q L := ⟨h1, h2⟩
theorem den_ret {P : Program} {tab : Nat → List CT} {env : List D} {L : List (List D → Prop)} {e : E} {r : D} (h : e.den env = r) : (VC.ret e []).den P tab env (fun d bs => d = r ∧ bs = []) L := ⟨h, rfl⟩
theorem FunR.exV {f : FuncId} {V : VC} {Γ : List VT} {ds : List D} {T : D → Prop} {rt : List (Nat × Nat)} (hV : vcOf Tryz.prog tbl rbt f none = V) (hrt : rbt.get f = rt) (hok : V.ok = true) (hΓ : tyOf Tryz.prog tbl f none = Γ) (hty : HasTys tbl.tab Γ ds) (r0 : D) (hT : T r0)
  (hden : FitsL ds → V.den Tryz.prog tbl.tab ds (fun d bs => T d ∧ bs = []) []) : ∃ r, T r ∧ FunR Tryz.prog f none ds r [] rt := by
 obtain ⟨⟨r, bs⟩, ⟨q1, q2⟩, q3⟩ := FunR.ex (T := fun d bs => T d ∧ bs = []) (r0 := (r0, [])) hV hok hΓ tbl_ok mo ⟨hT, rfl⟩ (bc := none) rfl (by simpa using hty) (fun _ d bs h => h.2) (fun h _ => by simpa using hden h)
 simp only at q2; subst q2
 exact ⟨r, q1, hrt ▸ q3⟩
theorem den_callRE {P : Program} {tab : Nat → List CT} {env : List D} {Q : D → List D → Prop} {L : List (List D → Prop)} {f : FuncId} {args : List E} {vt : VT} {rt : List (Nat × Nat)} {k : VC} {T : D → Prop} {xs : List D}
  (ha : args.map (·.den env) = xs) (hc : ∃ r, T r ∧ FunR P f none xs r [] rt) (hty : ∀ r, T r → HasVT tab vt r) (hk : ∀ r, T r → k.den P tab (env ++ [r]) Q L) : (VC.rq (.callR f none args vt [] rt) k).den P tab env Q L := by
 obtain ⟨r, h1, h2⟩ := hc
 exact ⟨r, [], hty r h1, trivial, ha ▸ h2, hk r h1⟩
theorem den_for {P : Program} {tab : Nat → List CT} {env : List D} {Q : D → List D → Prop} {L : List (List D → Prop)} {tys : List VT} {inits : List E} {body : VC}
  (n : Nat) (st : Nat → List D) (I : Nat → Prop) (h0 : inits.map (·.den env) = st 0) (hI : I 0)
  (hs : ∀ k, k ≤ n → I k → FitsL (st k) → body.den P tab (env ++ st k) Q ((fun ys => k < n ∧ ys = st (k + 1) ∧ I (k + 1)) :: L)) : (VC.loop tys inits body).den P tab env Q L := by
 classical
 let last : List D → Nat → Nat := fun xs m => Nat.rec 0 (fun j r => if xs = st (j + 1) ∧ I (j + 1) then j + 1 else r) m
 have last_le : ∀ xs m, last xs m ≤ m := by
  intro xs m
  induction m with
  | zero => exact Nat.le_refl _
  | succ m ih =>
   show (if xs = st (m + 1) ∧ I (m + 1) then m + 1 else last xs m) ≤ m + 1
   split <;> omega
 have last_ge : ∀ xs m k, k ≤ m → xs = st k → I k → k ≤ last xs m := by
  intro xs m
  induction m with
  | zero => intro k hk _ _; omega
  | succ m ih =>
   intro k hk hx hi
   show k ≤ (if xs = st (m + 1) ∧ I (m + 1) then m + 1 else last xs m)
   by_cases h : k = m + 1
   ·subst h; rw [if_pos ⟨hx, hi⟩]; exact Nat.le_refl _
   ·have := ih k (by omega) hx hi
    split <;> omega
 have last_is : ∀ xs m k, k ≤ m → xs = st k → I k → xs = st (last xs m) ∧ I (last xs m) := by
  intro xs m
  induction m with
  | zero =>
   intro k hk hx hi
   have : k = 0 := by omega
   subst this; exact ⟨hx, hi⟩
  | succ m ih =>
   intro k hk hx hi
   show xs = st (if xs = st (m + 1) ∧ I (m + 1) then m + 1 else last xs m) ∧ I (if xs = st (m + 1) ∧ I (m + 1) then m + 1 else last xs m)
   by_cases h : xs = st (m + 1) ∧ I (m + 1)
   ·rw [if_pos h]; exact h
   ·rw [if_neg h]
    refine ih k ?_ hx hi
    rcases Nat.lt_or_ge k (m + 1) with hlt | hge
    ·omega
    ·have : k = m + 1 := by omega
     subst this; exact absurd ⟨hx, hi⟩ h
 refine ⟨fun xs => ∃ k, k ≤ n ∧ xs = st k ∧ I k, fun xs => n - last xs n, ⟨0, Nat.zero_le _, h0, hI⟩, ?_⟩
 rintro xs _ hf ⟨k, hk, hx, hi⟩
 obtain ⟨h1, h2⟩ := last_is xs n k hk hx hi
 have h3 := last_le xs n
 generalize hj : last xs n = j at *
 subst h1
 have := hs j h3 h2 hf
 refine VC.den_mono (fun _ _ h => h) _ _ ?_ this
 refine .cons (fun ys hys => ?_) (.refl _)
 obtain ⟨q1, q2, q3⟩ := hys
 refine ⟨⟨j + 1, by omega, q2, q3⟩, ?_⟩
 have := last_ge ys n (j + 1) (by omega) q2 q3
 show n - last ys n < n - last (st j) n
 rw [hj]; omega
theorem den_next {P : Program} {tab : Nat → List CT} {env : List D} {Q : D → List D → Prop} {L : List (List D → Prop)} {es : List E} {xs : List D} {p q : Prop}
  (hp : p) (h : es.map (·.den env) = xs) (hq : q) : (VC.again 0 es).den P tab env Q ((fun ys => p ∧ ys = xs ∧ q) :: L) := ⟨hp, h, hq⟩
def ix (k : Nat) : List D := [.int .i64 k]
theorem ar_add {x y : Int} (h1 : -9223372036854775808 ≤ x + y) (h2 : x + y ≤ 9223372036854775807) : arI .add .i64 x y = x + y := wrap_i64 h1 h2
theorem ar_sub {x y : Int} (h1 : -9223372036854775808 ≤ x - y) (h2 : x - y ≤ 9223372036854775807) : arI .sub .i64 x y = x - y := wrap_i64 h1 h2
theorem rowsTy_map {α : Type} [Enc α] {tab : Nat → List CT} {ts : List CT} (h : ∀ x : α, RowTy tab ts (Enc.cells x)) (l : List α) : RowsTy tab ts (l.map Enc.cells) :=
 RowsTy.of (by intro r hr; obtain ⟨x, _, rfl⟩ := List.mem_map.1 hr; exact h x)
theorem fits_encS {α : Type} [Enc α] {l : List α} (h : Fits (encS l)) : l.length ≤ maxLen := by
 unfold encS Fits at h; simpa using h.1
theorem cmpI_lss (x y : Int) : cmpI .lss x y = decide (x < y) := rfl
theorem cmpI_leq (x y : Int) : cmpI .leq x y = decide (x ≤ y) := rfl
theorem cmpI_gtr (x y : Int) : cmpI .gtr x y = decide (x > y) := rfl
theorem cmpI_geq (x y : Int) : cmpI .geq x y = decide (x ≥ y) := rfl
theorem cmpI_eql (x y : Int) : cmpI .eql x y = (x == y) := rfl
theorem cmpI_neq (x y : Int) : cmpI .neq x y = (x != y) := rfl
theorem dEq : (∀ {α β : Type} {f : α → β} {a : α} {l : List α}, List.map f (a :: l) = f a :: List.map f l) ∧ (∀ {α β : Type} {f : α → β}, List.map f [] = []) ∧ (∀ {α β : Type} (f : α → β), Option.map f none = none) ∧ (∀ {α β : Type} (a : α) (f : α → β), Option.map f (some a) = some (f a)) ∧
  (∀ {α : Type} {x : α} {xs : List α} {d : α}, (x :: xs).getD 0 d = x) ∧ (∀ {α : Type} {x : α} {xs : List α} {n : Nat} {d : α}, (x :: xs).getD (n + 1) d = xs.getD n d) ∧ (∀ {α : Type} {a : α} {r s : List α}, (a :: r) ++ s = a :: (r ++ s)) ∧ (∀ {α : Type} (r : List α), [] ++ r = r) ∧ (∀ {α : Type} (r : List α), r ++ [] = r) ∧
  (∀ {α : Type} {a : α} {l : List α} {i : Nat}, (a :: l).drop (i + 1) = l.drop i) ∧ (∀ {α : Type} {l : List α}, l.drop 0 = l) ∧ (∀ {α : Type} {a : α} {l : List α} {i : Nat}, (a :: l).take (i + 1) = a :: l.take i) ∧ (∀ {α : Type} {l : List α}, l.take 0 = []) ∧
  (∀ (k : IntKind) (n : Int), (D.int k n).toI = n) ∧ (∀ b : Bool, (D.bool b).toB = b) ∧ (∀ s : ByteArray, (D.str s).toS = s) ∧ (∀ l : List D, (D.agg l).toA = l) ∧ (∀ l : List D, (D.tup l).toT = l) ∧ (∀ l : List (List D), (D.sl l).toR = l) ∧
  (∀ {α : Type} [Enc α] (x : α), (enc x).toA = Enc.cells x) ∧ (∀ {α : Type} [Enc α] (l : List α), (encS l).toR = l.map Enc.cells) ∧ (∀ {α : Type} [Enc α] (l : List α), lenD (encS l) = l.length) :=
 ⟨by simp, by simp, by simp, by simp, by simp, by simp, by simp, by simp, by simp, by simp, by simp, by simp, by simp, by simp, by simp, by simp, by simp, by simp, by simp, by simp, by simp, by simp⟩
theorem iEq : (∀ x y : Int, cmpI .lss x y = decide (x < y)) ∧ (∀ x y : Int, cmpI .leq x y = decide (x ≤ y)) ∧ (∀ x y : Int, cmpI .gtr x y = decide (x > y)) ∧ (∀ x y : Int, cmpI .geq x y = decide (x ≥ y)) ∧ (∀ x y : Int, cmpI .eql x y = (x == y)) ∧ (∀ x y : Int, cmpI .neq x y = (x != y)) ∧ (∀ n : Nat, (n : Int).toNat = n) ∧ (0 : Int).toNat = 0 :=
 ⟨cmpI_lss, cmpI_leq, cmpI_gtr, cmpI_geq, cmpI_eql, cmpI_neq, Int.toNat_natCast, rfl⟩
end Go.Proofs.YtbgcaneflfdddaaGreatDoor
