/- Contracts of the library's functions that are called here, laid at this seat's program by the kit's tool (lay-shelf, lay-plain); those that are needed. -/
import Derived.Shelf.Strings.Builder1
import Derived.Shelf.Strings.Builder2
import Derived.Shelf.Strings.OnBuilder
import Derived.Shelf.Strconv.Atoi
import Derived.Shelf.Strconv.Itoa0
import Derived.Shelf.Strconv.Itoa1
import Derived.Shelf.LaysM
import Derived.Shelf.Strconv.Itoa2
import Derived.Shelf.Strconv.Itoa3
import Derived.Shelf.Strconv.AtoiErrFast
import Derived.Shelf.Strconv.ParseIntEmpty
import Derived.Shelf.Strconv.AtoiFail
import Derived.Shelf.Strconv.Clone
import Derived.Shelf.Strconv.SyntaxError
import Derived.Shelf.LaysC
import Derived.Shelf.Strconv.ToError
import Derived.Shelf.Strconv.AtoiErr
import Derived.Shelf.Strconv.ErrVar
import Derived.Shelf.Strconv.Lower
import Derived.Shelf.Strconv.ParseUint10
import Derived.Shelf.Strconv.ParseUint10Empty
import Derived.Shelf.Strconv.ParseUint10Any
import Derived.Shelf.Strconv.ParseInt10
import Derived.Shelf.Strconv.AtoiLong
import Derived.Shelf.Strconv.AtoiInnerAll
import Derived.Shelf.Strconv.RangeError
import Derived.Shelf.Strconv.ToErrorRange
import Derived.Shelf.Strconv.AtoiAll
import Derived.Shelf.Strconv.ErrVarAll
import Derived.Shelf.Strings.Search1
import Derived.Shelf.Strings.Search2
import Derived.Shelf.Strings.Search3
import Derived.Shelf.Strings.Cut
import Derived.Shelf.Strings.Count
import Derived.Shelf.Strings.Shaped
import Derived.Shelf.Strings.Split
import Derived.Shelf.Strings.SplitShaped
import Derived.Shelf.Unicode.DecodeSlow
import Derived.Test.YtimickglpboilaaGreatDoorProg
import Derived.Test.YtimickglpboilaaGreatDoorF11
import Derived.Test.YtimickglpboilaaGreatDoorF0
import Derived.Test.YtimickglpboilaaGreatDoorF10
set_option linter.unusedVariables false
set_option linter.unusedSimpArgs false
set_option maxRecDepth 100000
set_option linter.unusedSectionVars false
namespace Go.Proofs
open Go.Shelf
def Tryz.NW:Go.Shelf.Ren:=⟨fun|156=>114|165=>119|166=>120|169=>121|240=>129|241=>130|276=>147|277=>148|n=>n,fun|31=>114|9=>9|3=>3|4=>4|0=>0|20=>20|72=>140|76=>136|70=>138|37=>107|75=>135|127=>147|164=>164|5=>5|80=>142|n=>n,fun|n=>n⟩
theorem Tryz.NV:Go.Proofs.Lays.n156 Tryz.prog Tryz.NW:={
 mixed:=by kernel_rfl
 f156:=Tryz.func114.trans (congrArg some (by kernel_rfl))
 f165:=Tryz.func119.trans (congrArg some (by kernel_rfl))
 f166:=Tryz.func120.trans (congrArg some (by kernel_rfl))
 f169:=Tryz.func121.trans (congrArg some (by kernel_rfl))
 f240:=Tryz.func129.trans (congrArg some (by kernel_rfl))
 f241:=Tryz.func130.trans (congrArg some (by kernel_rfl))
 f276:=Tryz.func147.trans (congrArg some (by kernel_rfl))
 f277:=Tryz.func148.trans (congrArg some (by kernel_rfl))
 t0:=Tryz.underlying0
 a0:=Tryz.isAgg0
 z0:=Tryz.sizeOf0
 v0:=Tryz.zeroValue0
 t3:=Tryz.underlying3
 a3:=Tryz.isAgg3
 z3:=Tryz.sizeOf3
 v3:=Tryz.zeroValue3
 t4:=Tryz.underlying4
 a4:=Tryz.isAgg4
 z4:=Tryz.sizeOf4
 v4:=Tryz.zeroValue4
 t9:=Tryz.underlying9
 a9:=Tryz.isAgg9
 z9:=Tryz.sizeOf9
 v9:=Tryz.zeroValue9
 t20:=Tryz.underlying20
 a20:=Tryz.isAgg20
 z20:=Tryz.sizeOf20
 v20:=Tryz.zeroValue20
 t31:=Tryz.underlying114
 a31:=Tryz.isAgg114
 z31:=Tryz.sizeOf114
 v31:=Tryz.zeroValue114
 t37:=Tryz.underlying107
 a37:=Tryz.isAgg107
 z37:=Tryz.sizeOf107
 v37:=Tryz.zeroValue107
 t70:=Tryz.underlying138
 a70:=Tryz.isAgg138
 z70:=Tryz.sizeOf138
 v70:=Tryz.zeroValue138
 t72:=Tryz.underlying140
 a72:=Tryz.isAgg140
 z72:=Tryz.sizeOf140
 v72:=Tryz.zeroValue140
 t75:=Tryz.underlying135
 a75:=Tryz.isAgg135
 z75:=Tryz.sizeOf135
 v75:=Tryz.zeroValue135
 t76:=Tryz.underlying136
 a76:=Tryz.isAgg136
 z76:=Tryz.sizeOf136
 v76:=Tryz.zeroValue136
 t127:=Tryz.underlying147
 a127:=Tryz.isAgg147
 z127:=Tryz.sizeOf147
 v127:=Tryz.zeroValue147
 t164:=Tryz.underlying164
 a164:=Tryz.isAgg164
 z164:=Tryz.sizeOf164
 v164:=Tryz.zeroValue164}
theorem Tryz.Jq:Builder.Extra Tryz.prog Tryz.NW:={
 sizeBuilder:=by kernel_rfl
 liesBuilder:=by kernel_rfl
 t5:=Tryz.underlying5
 a5:=Tryz.isAgg5
 z5:=Tryz.sizeOf5
 v5:=Tryz.zeroValue5
 infoByte:=by kernel_rfl
 cellsByte:=by kernel_rfl
 sizeByte:=by kernel_rfl
 neB5:=by decide}
open Go.RowKit in
theorem Tryz.strings_Join_none(a:Option Addr)(c:Nat)(sep:ByteArray)(w:World) :
  Calls Tryz.prog 114 #[.slice a 0 c,.string sep] w fun e w'=>e= .returned (.string ⟨#[]⟩)/\w'=w:=Any.strings_Join_none Tryz.NV Tryz.Jq a c sep w
open Go.RowKit in
theorem Tryz.strings_Join(bk o c:Nat)(xs:List ByteArray)(sep:ByteArray)(w:World)(hcells: ∀(j:Nat) x,xs[j]? =some x->w.cell? ⟨bk,o+j,none⟩=some (.string x))(hbk:bk<w.heap.size)(hN:xs.length<=140737488355328)(hcap:xs.length<=c)(hlen:(Lib.join (xs.map (·.data.toList)) sep.data.toList).length<=140737488355328) :
  Calls Tryz.prog 114 #[.slice (some ⟨bk,o,none⟩) xs.length c,.string sep] w fun e w'=>e= .returned (.string ⟨(Lib.join (xs.map (·.data.toList)) sep.data.toList).toArray⟩)/\Below w.heap.size w w':=Any.strings_Join Tryz.NV Tryz.Jq bk o c xs sep w hcells hbk hN hcap hlen
def Tryz.Z7:Go.Shelf.Ren:=⟨fun|172=>117|244=>126|245=>127|247=>138|279=>139|280=>140|281=>141|282=>142|287=>152|316=>153|171=>113|205=>154|321=>160|322=>161|243=>118|246=>128|283=>143|284=>144|285=>145|286=>146|129=>156|317=>155|318=>157|319=>158|320=>159|337=>162|338=>163|n=>n,fun|9=>9|3=>3|75=>135|76=>136|4=>4|5=>5|167=>152|37=>107|0=>0|85=>153|2=>2|168=>155|53=>159|175=>170|46=>151|210=>174|127=>147|145=>187|143=>185|21=>21|171=>158|173=>162|212=>177|51=>167|20=>20|213=>178|232=>189|233=>190|80=>142|n=>n,fun|15=>1|16=>2|17=>3|18=>6|19=>7|n=>n⟩
theorem Tryz.Z6:Go.Proofs.Lays.n172 Tryz.prog Tryz.Z7:={
 mixed:=by kernel_rfl
 f129:=Tryz.func156.trans (congrArg some (by kernel_rfl))
 f171:=Tryz.func113.trans (congrArg some (by kernel_rfl))
 f172:=Tryz.func117.trans (congrArg some (by kernel_rfl))
 f205:=Tryz.func154.trans (congrArg some (by kernel_rfl))
 f243:=Tryz.func118.trans (congrArg some (by kernel_rfl))
 f244:=Tryz.func126.trans (congrArg some (by kernel_rfl))
 f245:=Tryz.func127.trans (congrArg some (by kernel_rfl))
 f246:=Tryz.func128.trans (congrArg some (by kernel_rfl))
 f247:=Tryz.func138.trans (congrArg some (by kernel_rfl))
 f279:=Tryz.func139.trans (congrArg some (by kernel_rfl))
 f280:=Tryz.func140.trans (congrArg some (by kernel_rfl))
 f281:=Tryz.func141.trans (congrArg some (by kernel_rfl))
 f282:=Tryz.func142.trans (congrArg some (by kernel_rfl))
 f283:=Tryz.func143.trans (congrArg some (by kernel_rfl))
 f284:=Tryz.func144.trans (congrArg some (by kernel_rfl))
 f285:=Tryz.func145.trans (congrArg some (by kernel_rfl))
 f286:=Tryz.func146.trans (congrArg some (by kernel_rfl))
 f287:=Tryz.func152.trans (congrArg some (by kernel_rfl))
 f316:=Tryz.func153.trans (congrArg some (by kernel_rfl))
 f317:=Tryz.func155.trans (congrArg some (by kernel_rfl))
 f318:=Tryz.func157.trans (congrArg some (by kernel_rfl))
 f319:=Tryz.func158.trans (congrArg some (by kernel_rfl))
 f320:=Tryz.func159.trans (congrArg some (by kernel_rfl))
 f321:=Tryz.func160.trans (congrArg some (by kernel_rfl))
 f322:=Tryz.func161.trans (congrArg some (by kernel_rfl))
 f337:=Tryz.func162.trans (congrArg some (by kernel_rfl))
 f338:=Tryz.func163.trans (congrArg some (by kernel_rfl))
 t0:=Tryz.underlying0
 a0:=Tryz.isAgg0
 z0:=Tryz.sizeOf0
 v0:=Tryz.zeroValue0
 t2:=Tryz.underlying2
 a2:=Tryz.isAgg2
 z2:=Tryz.sizeOf2
 v2:=Tryz.zeroValue2
 t3:=Tryz.underlying3
 a3:=Tryz.isAgg3
 z3:=Tryz.sizeOf3
 v3:=Tryz.zeroValue3
 t4:=Tryz.underlying4
 a4:=Tryz.isAgg4
 z4:=Tryz.sizeOf4
 v4:=Tryz.zeroValue4
 t5:=Tryz.underlying5
 a5:=Tryz.isAgg5
 z5:=Tryz.sizeOf5
 v5:=Tryz.zeroValue5
 t9:=Tryz.underlying9
 a9:=Tryz.isAgg9
 z9:=Tryz.sizeOf9
 v9:=Tryz.zeroValue9
 t20:=Tryz.underlying20
 a20:=Tryz.isAgg20
 z20:=Tryz.sizeOf20
 v20:=Tryz.zeroValue20
 t21:=Tryz.underlying21
 a21:=Tryz.isAgg21
 z21:=Tryz.sizeOf21
 v21:=Tryz.zeroValue21
 t37:=Tryz.underlying107
 a37:=Tryz.isAgg107
 z37:=Tryz.sizeOf107
 v37:=Tryz.zeroValue107
 t46:=Tryz.underlying151
 a46:=Tryz.isAgg151
 z46:=Tryz.sizeOf151
 v46:=Tryz.zeroValue151
 t51:=Tryz.underlying167
 a51:=Tryz.isAgg167
 z51:=Tryz.sizeOf167
 v51:=Tryz.zeroValue167
 t53:=Tryz.underlying159
 a53:=Tryz.isAgg159
 z53:=Tryz.sizeOf159
 v53:=Tryz.zeroValue159
 t75:=Tryz.underlying135
 a75:=Tryz.isAgg135
 z75:=Tryz.sizeOf135
 v75:=Tryz.zeroValue135
 t76:=Tryz.underlying136
 a76:=Tryz.isAgg136
 z76:=Tryz.sizeOf136
 v76:=Tryz.zeroValue136
 t85:=Tryz.underlying153
 a85:=Tryz.isAgg153
 z85:=Tryz.sizeOf153
 v85:=Tryz.zeroValue153
 t127:=Tryz.underlying147
 a127:=Tryz.isAgg147
 z127:=Tryz.sizeOf147
 v127:=Tryz.zeroValue147
 t143:=Tryz.underlying185
 a143:=Tryz.isAgg185
 z143:=Tryz.sizeOf185
 v143:=Tryz.zeroValue185
 t145:=Tryz.underlying187
 a145:=Tryz.isAgg187
 z145:=Tryz.sizeOf187
 v145:=Tryz.zeroValue187
 t167:=Tryz.underlying152
 a167:=Tryz.isAgg152
 z167:=Tryz.sizeOf152
 v167:=Tryz.zeroValue152
 t168:=Tryz.underlying155
 a168:=Tryz.isAgg155
 z168:=Tryz.sizeOf155
 v168:=Tryz.zeroValue155
 t171:=Tryz.underlying158
 a171:=Tryz.isAgg158
 z171:=Tryz.sizeOf158
 v171:=Tryz.zeroValue158
 t173:=Tryz.underlying162
 a173:=Tryz.isAgg162
 z173:=Tryz.sizeOf162
 v173:=Tryz.zeroValue162
 t175:=Tryz.underlying170
 a175:=Tryz.isAgg170
 z175:=Tryz.sizeOf170
 v175:=Tryz.zeroValue170
 t210:=Tryz.underlying174
 a210:=Tryz.isAgg174
 z210:=Tryz.sizeOf174
 v210:=Tryz.zeroValue174
 t212:=Tryz.underlying177
 a212:=Tryz.isAgg177
 z212:=Tryz.sizeOf177
 v212:=Tryz.zeroValue177
 t213:=Tryz.underlying178
 a213:=Tryz.isAgg178
 z213:=Tryz.sizeOf178
 t232:=Tryz.underlying189
 a232:=Tryz.isAgg189
 z232:=Tryz.sizeOf189
 v232:=Tryz.zeroValue189
 t233:=Tryz.underlying190
 a233:=Tryz.isAgg190
 z233:=Tryz.sizeOf190
 v233:=Tryz.zeroValue190
 g15:=by kernel_rfl
 g16:=by kernel_rfl
 g17:=by kernel_rfl
 g18:=by kernel_rfl
 g19:=by kernel_rfl}
open Go.RowKit in
theorem Tryz.strconv_Atoi(s:ByteArray)(n:Int)(hl:s.size<=18)(h:Lib.atoi s.data.toList=some n)(w:World) :
  Calls Tryz.prog 117 #[.string s] w fun e w'=>e= .returned (.tuple #[.int .i64 n,.nilIface])/\ ∃t,w'=Lib.bytesWorld w 5 t:=Any.strconv_Atoi Tryz.Z6 s n hl h w
def Tryz.aab:Go.Shelf.Ren:=⟨fun|171=>113|243=>118|246=>128|283=>143|284=>144|285=>145|286=>146|129=>156|317=>155|318=>157|319=>158|320=>159|337=>162|338=>163|n=>n,fun|3=>3|9=>9|2=>2|4=>4|171=>158|0=>0|53=>159|37=>107|5=>5|173=>162|212=>177|51=>167|20=>20|213=>178|46=>151|232=>189|233=>190|n=>n,fun|17=>3|18=>6|19=>7|n=>n⟩
theorem Tryz.aaa:Go.Proofs.LaysM.n171 Tryz.prog Tryz.aab:={
 mixed:=by kernel_rfl
 f129:=Tryz.func156.trans (congrArg some (by kernel_rfl))
 f171:=Tryz.func113.trans (congrArg some (by kernel_rfl))
 f243:=Tryz.func118.trans (congrArg some (by kernel_rfl))
 f246:=Tryz.func128.trans (congrArg some (by kernel_rfl))
 f283:=Tryz.func143.trans (congrArg some (by kernel_rfl))
 f284:=Tryz.func144.trans (congrArg some (by kernel_rfl))
 f285:=Tryz.func145.trans (congrArg some (by kernel_rfl))
 f286:=Tryz.func146.trans (congrArg some (by kernel_rfl))
 f317:=Tryz.func155.trans (congrArg some (by kernel_rfl))
 f318:=Tryz.func157.trans (congrArg some (by kernel_rfl))
 f319:=Tryz.func158.trans (congrArg some (by kernel_rfl))
 f320:=Tryz.func159.trans (congrArg some (by kernel_rfl))
 f337:=Tryz.func162.trans (congrArg some (by kernel_rfl))
 f338:=Tryz.func163.trans (congrArg some (by kernel_rfl))
 t0:=Tryz.underlying0
 a0:=Tryz.isAgg0
 z0:=Tryz.sizeOf0
 v0:=Tryz.zeroValue0
 t2:=Tryz.underlying2
 a2:=Tryz.isAgg2
 z2:=Tryz.sizeOf2
 v2:=Tryz.zeroValue2
 t3:=Tryz.underlying3
 a3:=Tryz.isAgg3
 z3:=Tryz.sizeOf3
 v3:=Tryz.zeroValue3
 t4:=Tryz.underlying4
 a4:=Tryz.isAgg4
 z4:=Tryz.sizeOf4
 v4:=Tryz.zeroValue4
 t5:=Tryz.underlying5
 a5:=Tryz.isAgg5
 z5:=Tryz.sizeOf5
 v5:=Tryz.zeroValue5
 t9:=Tryz.underlying9
 a9:=Tryz.isAgg9
 z9:=Tryz.sizeOf9
 v9:=Tryz.zeroValue9
 t20:=Tryz.underlying20
 a20:=Tryz.isAgg20
 z20:=Tryz.sizeOf20
 v20:=Tryz.zeroValue20
 t37:=Tryz.underlying107
 a37:=Tryz.isAgg107
 z37:=Tryz.sizeOf107
 v37:=Tryz.zeroValue107
 t46:=Tryz.underlying151
 a46:=Tryz.isAgg151
 z46:=Tryz.sizeOf151
 v46:=Tryz.zeroValue151
 t51:=Tryz.underlying167
 a51:=Tryz.isAgg167
 z51:=Tryz.sizeOf167
 v51:=Tryz.zeroValue167
 t53:=Tryz.underlying159
 a53:=Tryz.isAgg159
 z53:=Tryz.sizeOf159
 v53:=Tryz.zeroValue159
 t171:=Tryz.underlying158
 a171:=Tryz.isAgg158
 z171:=Tryz.sizeOf158
 v171:=Tryz.zeroValue158
 t173:=Tryz.underlying162
 a173:=Tryz.isAgg162
 z173:=Tryz.sizeOf162
 v173:=Tryz.zeroValue162
 t212:=Tryz.underlying177
 a212:=Tryz.isAgg177
 z212:=Tryz.sizeOf177
 v212:=Tryz.zeroValue177
 t213:=Tryz.underlying178
 a213:=Tryz.isAgg178
 z213:=Tryz.sizeOf178
 t232:=Tryz.underlying189
 a232:=Tryz.isAgg189
 z232:=Tryz.sizeOf189
 v232:=Tryz.zeroValue189
 t233:=Tryz.underlying190
 a233:=Tryz.isAgg190
 z233:=Tryz.sizeOf190
 v233:=Tryz.zeroValue190
 g17:=by kernel_rfl
 g18:=by kernel_rfl
 g19:=by kernel_rfl
 i0:=by kernel_rfl
 i2:=by kernel_rfl
 i3:=by kernel_rfl
 i4:=by kernel_rfl
 i5:=by kernel_rfl
 i9:=by kernel_rfl
 i20:=by kernel_rfl
 i37:=by kernel_rfl
 i46:=by kernel_rfl
 i51:=by kernel_rfl
 i53:=by kernel_rfl
 i171:=by kernel_rfl
 i173:=by kernel_rfl
 i212:=by kernel_rfl
 i232:=by kernel_rfl
 i233:=by kernel_rfl
 m17:=by kernel_rfl
 m18:=by kernel_rfl
 m19:=by kernel_rfl}
def Tryz.Z5:Go.Shelf.Ren:=⟨fun|171=>113|243=>118|246=>128|283=>143|284=>144|285=>145|286=>146|129=>156|317=>155|318=>157|319=>158|320=>159|337=>162|338=>163|n=>n,fun|3=>3|9=>9|2=>2|4=>4|171=>158|0=>0|53=>159|37=>107|5=>5|173=>162|212=>177|51=>167|20=>20|213=>178|46=>151|232=>189|233=>190|n=>n,fun|17=>3|18=>6|19=>7|n=>n⟩
theorem Tryz.Z4:Go.Proofs.Lays.n171 Tryz.prog Tryz.Z5:={
 mixed:=by kernel_rfl
 f129:=Tryz.func156.trans (congrArg some (by kernel_rfl))
 f171:=Tryz.func113.trans (congrArg some (by kernel_rfl))
 f243:=Tryz.func118.trans (congrArg some (by kernel_rfl))
 f246:=Tryz.func128.trans (congrArg some (by kernel_rfl))
 f283:=Tryz.func143.trans (congrArg some (by kernel_rfl))
 f284:=Tryz.func144.trans (congrArg some (by kernel_rfl))
 f285:=Tryz.func145.trans (congrArg some (by kernel_rfl))
 f286:=Tryz.func146.trans (congrArg some (by kernel_rfl))
 f317:=Tryz.func155.trans (congrArg some (by kernel_rfl))
 f318:=Tryz.func157.trans (congrArg some (by kernel_rfl))
 f319:=Tryz.func158.trans (congrArg some (by kernel_rfl))
 f320:=Tryz.func159.trans (congrArg some (by kernel_rfl))
 f337:=Tryz.func162.trans (congrArg some (by kernel_rfl))
 f338:=Tryz.func163.trans (congrArg some (by kernel_rfl))
 t0:=Tryz.underlying0
 a0:=Tryz.isAgg0
 z0:=Tryz.sizeOf0
 v0:=Tryz.zeroValue0
 t2:=Tryz.underlying2
 a2:=Tryz.isAgg2
 z2:=Tryz.sizeOf2
 v2:=Tryz.zeroValue2
 t3:=Tryz.underlying3
 a3:=Tryz.isAgg3
 z3:=Tryz.sizeOf3
 v3:=Tryz.zeroValue3
 t4:=Tryz.underlying4
 a4:=Tryz.isAgg4
 z4:=Tryz.sizeOf4
 v4:=Tryz.zeroValue4
 t5:=Tryz.underlying5
 a5:=Tryz.isAgg5
 z5:=Tryz.sizeOf5
 v5:=Tryz.zeroValue5
 t9:=Tryz.underlying9
 a9:=Tryz.isAgg9
 z9:=Tryz.sizeOf9
 v9:=Tryz.zeroValue9
 t20:=Tryz.underlying20
 a20:=Tryz.isAgg20
 z20:=Tryz.sizeOf20
 v20:=Tryz.zeroValue20
 t37:=Tryz.underlying107
 a37:=Tryz.isAgg107
 z37:=Tryz.sizeOf107
 v37:=Tryz.zeroValue107
 t46:=Tryz.underlying151
 a46:=Tryz.isAgg151
 z46:=Tryz.sizeOf151
 v46:=Tryz.zeroValue151
 t51:=Tryz.underlying167
 a51:=Tryz.isAgg167
 z51:=Tryz.sizeOf167
 v51:=Tryz.zeroValue167
 t53:=Tryz.underlying159
 a53:=Tryz.isAgg159
 z53:=Tryz.sizeOf159
 v53:=Tryz.zeroValue159
 t171:=Tryz.underlying158
 a171:=Tryz.isAgg158
 z171:=Tryz.sizeOf158
 v171:=Tryz.zeroValue158
 t173:=Tryz.underlying162
 a173:=Tryz.isAgg162
 z173:=Tryz.sizeOf162
 v173:=Tryz.zeroValue162
 t212:=Tryz.underlying177
 a212:=Tryz.isAgg177
 z212:=Tryz.sizeOf177
 v212:=Tryz.zeroValue177
 t213:=Tryz.underlying178
 a213:=Tryz.isAgg178
 z213:=Tryz.sizeOf178
 t232:=Tryz.underlying189
 a232:=Tryz.isAgg189
 z232:=Tryz.sizeOf189
 v232:=Tryz.zeroValue189
 t233:=Tryz.underlying190
 a233:=Tryz.isAgg190
 z233:=Tryz.sizeOf190
 v233:=Tryz.zeroValue190
 g17:=by kernel_rfl
 g18:=by kernel_rfl
 g19:=by kernel_rfl}
open Go.RowKit Go.Sort Go.Lib in
theorem Tryz.strconv_Itoa_small(i:Nat)(hi:i<100)(w:World) :
  Calls Tryz.prog 113 #[.int .i64 i] w fun e w'=>e= .returned (.string ⟨(Lib.decDigits i).toArray⟩)/\w'=w:=Any.strconv_Itoa_small Tryz.Z4 i hi w
def Tryz.Z9:Go.Shelf.Ren:=⟨fun|172=>117|244=>126|245=>127|247=>138|279=>139|280=>140|281=>141|282=>142|287=>152|316=>153|171=>113|205=>154|321=>160|322=>161|243=>118|246=>128|283=>143|284=>144|285=>145|286=>146|129=>156|317=>155|318=>157|319=>158|320=>159|337=>162|338=>163|n=>n,fun|9=>9|3=>3|75=>135|76=>136|4=>4|5=>5|167=>152|37=>107|0=>0|85=>153|2=>2|168=>155|53=>159|175=>170|46=>151|210=>174|127=>147|145=>187|143=>185|21=>21|171=>158|173=>162|212=>177|51=>167|20=>20|213=>178|232=>189|233=>190|80=>142|n=>n,fun|15=>1|16=>2|17=>3|18=>6|19=>7|n=>n⟩
theorem Tryz.Z8:Go.Proofs.LaysC.n172 Tryz.prog Tryz.Z9:={
 mixed:=by kernel_rfl
 f129:=Tryz.func156.trans (congrArg some (by kernel_rfl))
 f171:=Tryz.func113.trans (congrArg some (by kernel_rfl))
 f172:=Tryz.func117.trans (congrArg some (by kernel_rfl))
 f205:=Tryz.func154.trans (congrArg some (by kernel_rfl))
 f243:=Tryz.func118.trans (congrArg some (by kernel_rfl))
 f244:=Tryz.func126.trans (congrArg some (by kernel_rfl))
 f245:=Tryz.func127.trans (congrArg some (by kernel_rfl))
 f246:=Tryz.func128.trans (congrArg some (by kernel_rfl))
 f247:=Tryz.func138.trans (congrArg some (by kernel_rfl))
 f279:=Tryz.func139.trans (congrArg some (by kernel_rfl))
 f280:=Tryz.func140.trans (congrArg some (by kernel_rfl))
 f281:=Tryz.func141.trans (congrArg some (by kernel_rfl))
 f282:=Tryz.func142.trans (congrArg some (by kernel_rfl))
 f283:=Tryz.func143.trans (congrArg some (by kernel_rfl))
 f284:=Tryz.func144.trans (congrArg some (by kernel_rfl))
 f285:=Tryz.func145.trans (congrArg some (by kernel_rfl))
 f286:=Tryz.func146.trans (congrArg some (by kernel_rfl))
 f287:=Tryz.func152.trans (congrArg some (by kernel_rfl))
 f316:=Tryz.func153.trans (congrArg some (by kernel_rfl))
 f317:=Tryz.func155.trans (congrArg some (by kernel_rfl))
 f318:=Tryz.func157.trans (congrArg some (by kernel_rfl))
 f319:=Tryz.func158.trans (congrArg some (by kernel_rfl))
 f320:=Tryz.func159.trans (congrArg some (by kernel_rfl))
 f321:=Tryz.func160.trans (congrArg some (by kernel_rfl))
 f322:=Tryz.func161.trans (congrArg some (by kernel_rfl))
 f337:=Tryz.func162.trans (congrArg some (by kernel_rfl))
 f338:=Tryz.func163.trans (congrArg some (by kernel_rfl))
 t0:=Tryz.underlying0
 a0:=Tryz.isAgg0
 z0:=Tryz.sizeOf0
 v0:=Tryz.zeroValue0
 t2:=Tryz.underlying2
 a2:=Tryz.isAgg2
 z2:=Tryz.sizeOf2
 v2:=Tryz.zeroValue2
 t3:=Tryz.underlying3
 a3:=Tryz.isAgg3
 z3:=Tryz.sizeOf3
 v3:=Tryz.zeroValue3
 t4:=Tryz.underlying4
 a4:=Tryz.isAgg4
 z4:=Tryz.sizeOf4
 v4:=Tryz.zeroValue4
 t5:=Tryz.underlying5
 a5:=Tryz.isAgg5
 z5:=Tryz.sizeOf5
 v5:=Tryz.zeroValue5
 t9:=Tryz.underlying9
 a9:=Tryz.isAgg9
 z9:=Tryz.sizeOf9
 v9:=Tryz.zeroValue9
 t20:=Tryz.underlying20
 a20:=Tryz.isAgg20
 z20:=Tryz.sizeOf20
 v20:=Tryz.zeroValue20
 t21:=Tryz.underlying21
 a21:=Tryz.isAgg21
 z21:=Tryz.sizeOf21
 v21:=Tryz.zeroValue21
 t37:=Tryz.underlying107
 a37:=Tryz.isAgg107
 z37:=Tryz.sizeOf107
 v37:=Tryz.zeroValue107
 t46:=Tryz.underlying151
 a46:=Tryz.isAgg151
 z46:=Tryz.sizeOf151
 v46:=Tryz.zeroValue151
 t51:=Tryz.underlying167
 a51:=Tryz.isAgg167
 z51:=Tryz.sizeOf167
 v51:=Tryz.zeroValue167
 t53:=Tryz.underlying159
 a53:=Tryz.isAgg159
 z53:=Tryz.sizeOf159
 v53:=Tryz.zeroValue159
 t75:=Tryz.underlying135
 a75:=Tryz.isAgg135
 z75:=Tryz.sizeOf135
 v75:=Tryz.zeroValue135
 t76:=Tryz.underlying136
 a76:=Tryz.isAgg136
 z76:=Tryz.sizeOf136
 v76:=Tryz.zeroValue136
 t85:=Tryz.underlying153
 a85:=Tryz.isAgg153
 z85:=Tryz.sizeOf153
 v85:=Tryz.zeroValue153
 t127:=Tryz.underlying147
 a127:=Tryz.isAgg147
 z127:=Tryz.sizeOf147
 v127:=Tryz.zeroValue147
 t143:=Tryz.underlying185
 a143:=Tryz.isAgg185
 z143:=Tryz.sizeOf185
 v143:=Tryz.zeroValue185
 t145:=Tryz.underlying187
 a145:=Tryz.isAgg187
 z145:=Tryz.sizeOf187
 v145:=Tryz.zeroValue187
 t167:=Tryz.underlying152
 a167:=Tryz.isAgg152
 z167:=Tryz.sizeOf152
 v167:=Tryz.zeroValue152
 t168:=Tryz.underlying155
 a168:=Tryz.isAgg155
 z168:=Tryz.sizeOf155
 v168:=Tryz.zeroValue155
 t171:=Tryz.underlying158
 a171:=Tryz.isAgg158
 z171:=Tryz.sizeOf158
 v171:=Tryz.zeroValue158
 t173:=Tryz.underlying162
 a173:=Tryz.isAgg162
 z173:=Tryz.sizeOf162
 v173:=Tryz.zeroValue162
 t175:=Tryz.underlying170
 a175:=Tryz.isAgg170
 z175:=Tryz.sizeOf170
 v175:=Tryz.zeroValue170
 t210:=Tryz.underlying174
 a210:=Tryz.isAgg174
 z210:=Tryz.sizeOf174
 v210:=Tryz.zeroValue174
 t212:=Tryz.underlying177
 a212:=Tryz.isAgg177
 z212:=Tryz.sizeOf177
 v212:=Tryz.zeroValue177
 t213:=Tryz.underlying178
 a213:=Tryz.isAgg178
 z213:=Tryz.sizeOf178
 t232:=Tryz.underlying189
 a232:=Tryz.isAgg189
 z232:=Tryz.sizeOf189
 v232:=Tryz.zeroValue189
 t233:=Tryz.underlying190
 a233:=Tryz.isAgg190
 z233:=Tryz.sizeOf190
 v233:=Tryz.zeroValue190
 g15:=by kernel_rfl
 g16:=by kernel_rfl
 g17:=by kernel_rfl
 g18:=by kernel_rfl
 g19:=by kernel_rfl
 t80:=Tryz.underlying142
 a80:=Tryz.isAgg142
 z80:=Tryz.sizeOf142
 v80:=Tryz.zeroValue142
 i0:=by kernel_rfl
 i2:=by kernel_rfl
 i3:=by kernel_rfl
 i4:=by kernel_rfl
 i5:=by kernel_rfl
 i9:=by kernel_rfl
 i20:=by kernel_rfl
 i21:=by kernel_rfl
 i37:=by kernel_rfl
 i46:=by kernel_rfl
 i51:=by kernel_rfl
 i53:=by kernel_rfl
 i75:=by kernel_rfl
 i76:=by kernel_rfl
 i80:=by kernel_rfl
 i85:=by kernel_rfl
 i127:=by kernel_rfl
 i143:=by kernel_rfl
 i145:=by kernel_rfl
 i167:=by kernel_rfl
 i168:=by kernel_rfl
 i171:=by kernel_rfl
 i173:=by kernel_rfl
 i175:=by kernel_rfl
 i210:=by kernel_rfl
 i212:=by kernel_rfl
 i232:=by kernel_rfl
 i233:=by kernel_rfl
 m15:=by kernel_rfl
 m16:=by kernel_rfl
 m17:=by kernel_rfl
 m18:=by kernel_rfl
 m19:=by kernel_rfl
 c0:=by kernel_rfl
 c2:=by kernel_rfl
 c3:=by kernel_rfl
 c4:=by kernel_rfl
 c5:=by kernel_rfl
 c9:=by kernel_rfl
 c20:=by kernel_rfl
 c21:=by kernel_rfl
 c37:=by kernel_rfl
 c46:=by kernel_rfl
 c51:=by kernel_rfl
 c53:=by kernel_rfl
 c75:=by kernel_rfl
 c76:=by kernel_rfl
 c80:=by kernel_rfl
 c85:=by kernel_rfl
 c127:=by kernel_rfl
 c143:=by kernel_rfl
 c145:=by kernel_rfl
 c167:=by kernel_rfl
 c168:=by kernel_rfl
 c171:=by kernel_rfl
 c173:=by kernel_rfl
 c175:=by kernel_rfl
 c210:=by kernel_rfl
 c212:=by kernel_rfl
 c213:=by kernel_rfl
 c232:=by kernel_rfl
 c233:=by kernel_rfl}
open Go.RowKit in
theorem Tryz.strconv_Atoi_err(s:ByteArray)(hl:s.size<=18)(h:Lib.atoi s.data.toList=none)(ev:Value)(w:World)(hv:w.cell? ⟨1,0,none⟩=some ev)(hev:ev= .nilIface\/ ∃te pe,ev= .iface te pe) :
  Calls Tryz.prog 117 #[.string s] w fun e w'=> ∃N,e= .returned (.tuple #[.int .i64 0,.iface 155 (.pointer (some ⟨N,0,none⟩))])/\w.heap.size<=N/\w'.heap[N]? =some (.cells #[.string ⟨#[65,116,111,105]⟩,.string s,ev] 174 (0,0))/\Below w.heap.size w w':=Any.strconv_Atoi_err Tryz.Z8 s hl h ev w hv hev
def Tryz.Z1:Go.Shelf.Ren:=⟨fun|145=>105|220=>116|219=>125|217=>134|225=>135|224=>136|267=>137|266=>150|314=>151|n=>n,fun|9=>9|4=>4|59=>129|3=>3|5=>5|46=>151|146=>168|51=>167|n=>n,fun|1=>0|n=>n⟩
theorem Tryz.Z0:Go.Proofs.Lays.n145 Tryz.prog Tryz.Z1:={
 mixed:=by kernel_rfl
 f145:=Tryz.func105.trans (congrArg some (by kernel_rfl))
 f217:=Tryz.func134.trans (congrArg some (by kernel_rfl))
 f219:=Tryz.func125.trans (congrArg some (by kernel_rfl))
 f220:=Tryz.func116.trans (congrArg some (by kernel_rfl))
 f224:=Tryz.func136.trans (congrArg some (by kernel_rfl))
 f225:=Tryz.func135.trans (congrArg some (by kernel_rfl))
 f266:=Tryz.func150.trans (congrArg some (by kernel_rfl))
 f267:=Tryz.func137.trans (congrArg some (by kernel_rfl))
 f314:=Tryz.func151.trans (congrArg some (by kernel_rfl))
 t3:=Tryz.underlying3
 a3:=Tryz.isAgg3
 z3:=Tryz.sizeOf3
 v3:=Tryz.zeroValue3
 t4:=Tryz.underlying4
 a4:=Tryz.isAgg4
 z4:=Tryz.sizeOf4
 v4:=Tryz.zeroValue4
 t5:=Tryz.underlying5
 a5:=Tryz.isAgg5
 z5:=Tryz.sizeOf5
 v5:=Tryz.zeroValue5
 t9:=Tryz.underlying9
 a9:=Tryz.isAgg9
 z9:=Tryz.sizeOf9
 v9:=Tryz.zeroValue9
 t46:=Tryz.underlying151
 a46:=Tryz.isAgg151
 z46:=Tryz.sizeOf151
 v46:=Tryz.zeroValue151
 t51:=Tryz.underlying167
 a51:=Tryz.isAgg167
 z51:=Tryz.sizeOf167
 v51:=Tryz.zeroValue167
 t59:=Tryz.underlying129
 a59:=Tryz.isAgg129
 z59:=Tryz.sizeOf129
 v59:=Tryz.zeroValue129
 t146:=Tryz.underlying168
 a146:=Tryz.isAgg168
 z146:=Tryz.sizeOf168
 v146:=Tryz.zeroValue168
 g1:=by kernel_rfl}
open Go.RowKit Go.Lib in
theorem Tryz.strings_Cut(s sep:ByteArray)(m:Int)(w:World)(hs:s.size<4294967281)(hm:w.cell? ⟨0,0,none⟩=some (.int .i64 m)) :
  Calls Tryz.prog 105 #[.string s,.string sep] w fun e w'=>e= .returned (.tuple #[.string ⟨(Lib.cut s.data.toList sep.data.toList).1.toArray⟩,.string ⟨(Lib.cut s.data.toList sep.data.toList).2.1.toArray⟩,.bool (Lib.cut s.data.toList sep.data.toList).2.2])/\ ∃n,w'=w.drewN n:=Any.strings_Cut Tryz.Z0 s sep m w hs hm
def Tryz.Z3:Go.Shelf.Ren:=⟨fun|146=>104|221=>115|268=>122|138=>123|143=>124|195=>131|197=>132|218=>133|219=>125|260=>149|217=>134|225=>135|224=>136|267=>137|266=>150|314=>151|n=>n,fun|9=>9|31=>114|3=>3|4=>4|0=>0|105=>148|21=>21|5=>5|46=>151|119=>180|139=>183|138=>182|146=>168|51=>167|n=>n,fun|1=>0|3=>4|4=>5|n=>n⟩
theorem Tryz.Z2:Go.Proofs.Lays.n146 Tryz.prog Tryz.Z3:={
 mixed:=by kernel_rfl
 f138:=Tryz.func123.trans (congrArg some (by kernel_rfl))
 f143:=Tryz.func124.trans (congrArg some (by kernel_rfl))
 f146:=Tryz.func104.trans (congrArg some (by kernel_rfl))
 f195:=Tryz.func131.trans (congrArg some (by kernel_rfl))
 f197:=Tryz.func132.trans (congrArg some (by kernel_rfl))
 f217:=Tryz.func134.trans (congrArg some (by kernel_rfl))
 f218:=Tryz.func133.trans (congrArg some (by kernel_rfl))
 f219:=Tryz.func125.trans (congrArg some (by kernel_rfl))
 f221:=Tryz.func115.trans (congrArg some (by kernel_rfl))
 f224:=Tryz.func136.trans (congrArg some (by kernel_rfl))
 f225:=Tryz.func135.trans (congrArg some (by kernel_rfl))
 f260:=Tryz.func149.trans (congrArg some (by kernel_rfl))
 f266:=Tryz.func150.trans (congrArg some (by kernel_rfl))
 f267:=Tryz.func137.trans (congrArg some (by kernel_rfl))
 f268:=Tryz.func122.trans (congrArg some (by kernel_rfl))
 f314:=Tryz.func151.trans (congrArg some (by kernel_rfl))
 t0:=Tryz.underlying0
 a0:=Tryz.isAgg0
 z0:=Tryz.sizeOf0
 v0:=Tryz.zeroValue0
 t3:=Tryz.underlying3
 a3:=Tryz.isAgg3
 z3:=Tryz.sizeOf3
 v3:=Tryz.zeroValue3
 t4:=Tryz.underlying4
 a4:=Tryz.isAgg4
 z4:=Tryz.sizeOf4
 v4:=Tryz.zeroValue4
 t5:=Tryz.underlying5
 a5:=Tryz.isAgg5
 z5:=Tryz.sizeOf5
 v5:=Tryz.zeroValue5
 t9:=Tryz.underlying9
 a9:=Tryz.isAgg9
 z9:=Tryz.sizeOf9
 v9:=Tryz.zeroValue9
 t21:=Tryz.underlying21
 a21:=Tryz.isAgg21
 z21:=Tryz.sizeOf21
 v21:=Tryz.zeroValue21
 t31:=Tryz.underlying114
 a31:=Tryz.isAgg114
 z31:=Tryz.sizeOf114
 v31:=Tryz.zeroValue114
 t46:=Tryz.underlying151
 a46:=Tryz.isAgg151
 z46:=Tryz.sizeOf151
 v46:=Tryz.zeroValue151
 t51:=Tryz.underlying167
 a51:=Tryz.isAgg167
 z51:=Tryz.sizeOf167
 v51:=Tryz.zeroValue167
 t105:=Tryz.underlying148
 a105:=Tryz.isAgg148
 z105:=Tryz.sizeOf148
 v105:=Tryz.zeroValue148
 t119:=Tryz.underlying180
 a119:=Tryz.isAgg180
 z119:=Tryz.sizeOf180
 t138:=Tryz.underlying182
 a138:=Tryz.isAgg182
 z138:=Tryz.sizeOf182
 v138:=Tryz.zeroValue182
 t139:=Tryz.underlying183
 a139:=Tryz.isAgg183
 z139:=Tryz.sizeOf183
 v139:=Tryz.zeroValue183
 t146:=Tryz.underlying168
 a146:=Tryz.isAgg168
 z146:=Tryz.sizeOf168
 v146:=Tryz.zeroValue168
 g1:=by kernel_rfl
 g3:=by kernel_rfl
 g4:=by kernel_rfl}
open Go.RowKit Go.Lib in
theorem Tryz.strings_Split(s sep:ByteArray)(m:Int)(w:World)(hs:s.size<4294967281)(hm:w.cell? ⟨0,0,none⟩=some (.int .i64 m))(h1:1<=sep.size) :
  Calls Tryz.prog 104 #[.string s,.string sep] w fun e w' =>
   e= .returned (.slice (some ⟨w.heap.size,0,none⟩) (Lib.countB s sep+1) (Lib.countB s sep+1))/\w'=w.alloc (.cells ((Lib.splitB sep 0 (Lib.countB s sep) s).map Value.string).toArray 9):=Any.strings_Split Tryz.Z2 (by kernel_rfl) s sep m w hs hm h1
end Go.Proofs
namespace Go.Proofs.YtimickglpboilaaGreatDoor
section
open Go.RowKit Go
variable [GC]
def bs(l:List UInt8):ByteArray:=⟨l.toArray⟩
@[simp] theorem Ff (l:List UInt8):(bs l).data.toList=l:=by simp [bs]
theorem Cq(s:ByteArray):bs s.data.toList=s:=by simp [bs]
@[simp] theorem mV (l:List UInt8):(bs l).size=l.length:=by simp [bs,ByteArray.size]
theorem UM{l m:List UInt8}(h:bs l=bs m):l=m:=by have:=congrArg (fun s:ByteArray=>s.data.toList) h;simpa using this
@[simp] theorem aiu (l m:List UInt8):bs l=bs m↔l=m:=⟨UM,fun h=>by rw [h]⟩
theorem UL(l m:List UInt8):bs l++bs m=bs (l++m):=by
 apply ByteArray.ext
 simp [bs]
class mi:Prop where
 h: ∀w:World,kp w->ko w 3 fun cs=>cs=(Lib.pow10Tab.map fun z=>Value.int .u64 z).toArray
class nN:Prop where
 h: ∀w:World,kp w->ko w 0 fun cs=> ∃m,cs[0]? =some (Value.int .i64 m)
class pN:Prop where
 h: ∀w:World,kp w->ko w 1 fun cs=> ∃tp p,cs= #[.iface tp p]
theorem ko.cell{w:World}{g:Nat}{p:Array Value->Prop}(h:ko w g p): ∃cs,p cs/\ ∀i:Nat,w.cell? ⟨g,i,none⟩=cs[i]? :=by
 obtain ⟨cs,t,f,h1,h2⟩:=h
 exact ⟨cs,h2,fun i=>by simp [World.cell?,h1]⟩
theorem UR[mi]{n:Nat}(h:n<1000):aG Tryz.prog 113 none [.int .i64 n] (.str (bs (eO n))) []:=by
 refine aG.vU (by kernel_rfl) fun w M vs hG hr=> ?_
 obtain ⟨v,q,rfl,⟨rfl,_⟩,rfl⟩:=hr
 have c:=Any.strconv_Itoa Tryz.aaa n (by omega) (by omega) w (by
  obtain ⟨cs,t,f,h1,rfl⟩:=mi.h w hG.2.1
  unfold Lib.TabIs World.var?
  rw [show Tryz.prog.globalNamed _=some 3 by kernel_rfl]
  simp [h1])
 refine c.mono ?_
 rintro e w' ⟨rfl,k,os,rfl⟩
 have hl:=xA h
 refine ⟨_,rfl,⟨?_,by rw [mV];unfold maxLen;omega⟩,?_⟩
 ·unfold Lib.itoa
  rw [if_neg (by omega),Int.toNat_natCast,Fw h];rfl
 ·exact ⟨rfl,rfl,rfl,by simp [Go.Sort.grow],fun j hj=>by simp [Go.Sort.grow,Array.getElem?_append,hj]⟩
theorem Kd[mi]{n:Nat}(h:n<1000):aG Tryz.prog 102 none [.int .i64 n] (.str (bs (eO n))) []:=by
 refine aG.bV agh adE rfl ?_ (fun hfit=> ?_)
 ·simp [QE,fH,bX,cE,bW]
 unfold QX
 (refine bD ?_ (UR h) (trivial) ?_;(focus (simp only [VC.den,E.den,aa,aP,and_true];try exact rfl));(simp only [cA]))
 exact aK rfl
theorem Wv{n:Nat}(h1: ¬n<10)(h2:n<1000):eO n=eO (n/10)++[UInt8.ofNat (48+n%10)]:=by
 rw [<-Fw h2, <-Fw (n:=n/10) (by omega),Lib.decDigits,dif_neg h1]
theorem Ww(n:Nat):strOfNums [IntKind.u8.wrap (IntKind.i64.wrap (48+(n:Int).tmod 10))]=bs [UInt8.ofNat (48+n%10)]:=by
 have h1:(n:Int).tmod 10=((n%10:Nat):Int):=by rw [Int.tmod_eq_emod_of_nonneg (by omega)];omega
 rw [h1,wrap_i64 (by omega) (by omega)]
 have h2:IntKind.u8.wrap (48+((n%10:Nat):Int))=((48+n%10:Nat):Int):=by
  simp only [IntKind.wrap,IntKind.bits,IntKind.signed]
  simp
  omega
 rw [h2]
 unfold strOfNums bs
 simp only [List.map_cons,List.map_nil,Int.toNat_natCast]
theorem abA(n:Nat)(h:n<1000):cP .quo .i64 n 10=((n/10:Nat):Int):=by
 simp only [cP]
 have h1:(n:Int).tdiv 10=((n/10:Nat):Int):=by rw [Int.tdiv_eq_ediv_of_nonneg (by omega)];omega
 rw [h1,wrap_i64 (by omega) (by omega)]
theorem Kj: ∀{n:Nat},n<1000->aG Tryz.prog 109 none [.int .i64 n] (.str (bs (eO n))) []:=by
 intro n
 induction n using Nat.strongRecOn with
 | ind n ih =>
  intro hn
  have hb:s9 (.sl ([[D.int .u8 (IntKind.u8.wrap (cP .add .i64 48 (cP .rem .i64 (n:Int) 10)))]]))=bs [UInt8.ofNat (48+n%10)]:=by
   rw [<-Ww];rfl
  refine aG.bV ag8 afb rfl ?_ (fun hfit=> ?_)
  ·simp [QL,fH,bX,cE,bW]
  unfold RV
  refine aL (fun h=> ?_) (fun _=> ?_)
  ·simp [E.den,bb] at h
  refine aL (fun h=> ?_) (fun _=> ?_)
  ·simp [E.den,bb] at h;omega
  refine bH (fun _=>rfl) ?_
  refine aL (fun h=> ?_) (fun h=> ?_)
  ·simp [E.den,bb] at h
   refine bH (fun _=>rfl) ?_
   refine bD (xs:=[.int .i64 ((n/10:Nat):Int)]) ?_ (ih (n/10) (by omega) (by omega)) trivial ?_
   ·simp [E.den,abA n hn]
   refine bH (fun _=> ?_) (aK ?_)
   ·simp only [E.den,aa,aj,ak]
    rw [hb,mV,mV]
    have:=xA (n:=n/10) (by omega)
    simp;unfold maxLen;omega
   ·simp only [E.den,aa,aj,ak]
    rw [hb,UL,Wv (n:=n) (by omega) hn]
  ·simp [E.den,bb] at h
   refine aK ?_
   simp only [E.den,aa,aj,ak]
   rw [hb]
   have:eO n=[UInt8.ofNat (48+n%10)]:=by unfold eO;rw [if_pos (by omega)];congr;omega
   rw [this]
def vT(s:ByteArray):Int:=match gY s.data.toList with|some n=>n|none=>0
def qi(s:ByteArray):Bool:=(gY s.data.toList).isSome
def lW(s:ByteArray):D:= .aE [.int .i64 (vT s),.bool (qi s)]
theorem QK(s:ByteArray):bX aD.tab (.aE [.c (.int .i64),.c .bool]) (lW s):=⟨rfl,trivial,trivial⟩
theorem Ie{s:ByteArray}{n:Nat}(h:gY s.data.toList=some n):vT s=n:=by unfold vT;rw [h]
theorem OJ{s:ByteArray}{n:Nat}(h:gY s.data.toList=some n):qi s=true:=by unfold qi;rw [h];rfl
theorem OH{s:ByteArray}(h:gY s.data.toList=none):vT s=0:=by unfold vT;rw [h]
theorem OI{s:ByteArray}(h:gY s.data.toList=none):qi s=false:=by unfold qi;rw [h];rfl
theorem aa8{s:ByteArray}(h:qi s=true): ∃n:Nat,n<1000/\s=bs (eO n)/\vT s=n:=by
 unfold qi at h
 obtain ⟨n,hn⟩:=Option.isSome_iff_exists.1 h
 obtain ⟨h1,h2⟩:=rK.1 hn
 exact ⟨n,h1,by rw [h2,Cq],Ie hn⟩
theorem Fa{l:List UInt8}{n:Nat}(h:gY l=some n):Lib.atoi l=some (n:Int):=by
 obtain ⟨h1,rfl⟩:=rK.1 h
 exact FB h1
theorem size_data(s:ByteArray):s.data.toList.length=s.size:=Array.length_toList
theorem Cs{w w':World}{e:TypeId}{t:ByteArray}(h:w'=Lib.bytesWorld w e t):Below w.heap.size w w':=by
 subst h
 exact Lib.bytesWorld_below _ _ _
theorem JI{w:World}{M:Addr->Prop}{n:Int}{b:Bool}(h0: -9223372036854775808<=n)(h1:n<=9223372036854775807):R w M (.aE [.int .i64 n,.bool b]) (.tuple #[.int .i64 n,.bool b]) :=
 ⟨_,rfl,_,_,rfl,⟨rfl,h0,h1⟩,_,_,rfl,rfl,rfl⟩
theorem Tq{w:World}{M:Addr->Prop}{s:ByteArray}(h:gY s.data.toList=none):R w M (lW s) (.tuple #[.int .i64 0,.bool false]):=by
 unfold lW;rw [OH h,OI h];exact JI (by omega) (by omega)
theorem Tr{w:World}{M:Addr->Prop}{s:ByteArray}{n:Nat}(h:gY s.data.toList=some n):R w M (lW s) (.tuple #[.int .i64 n,.bool true]):=by
 have:=(rK.1 h).1
 unfold lW;rw [Ie h,OJ h];exact JI (by omega) (by omega)
theorem U7[mi][pN](s:ByteArray):aG Tryz.prog 106 none [.str s] (lW s) []:=by
 refine aG.vU (by kernel_rfl) fun w M vs hG hr=> ?_
 obtain ⟨v,q,rfl,⟨rfl,YK⟩,rfl⟩:=hr
 have hM:=hG.1
 have yV:=fun W (h:gY s.data.toList=none)=>Tq (w:=W) (M:=M) h
 by_cases hl:1<=s.size/\s.size<=3
 ·have a1:((s.size:Int)<1)=False:=by simp;omega
  have a2:((s.size:Int)>3)=False:=by simp;omega
  cases ha:Lib.atoi s.data.toList with
  | none =>
   have hn:gY s.data.toList=none:=by
    cases h:gY s.data.toList with
    | none=>rfl
    | some n=>rw [Fa h] at ha;cases ha
   obtain ⟨cs,⟨tp,p,rfl⟩,hc⟩:=(pN.h w hG.2.1).cell
   have hv:=hc 0
   simp at hv
   have HC:=Lib.hid (fun W (hW:W=w)=>Tryz.strconv_Atoi_err s (by omega) ha (.iface tp p) W (by rw [hW];exact hv) (Or.inr ⟨tp,p,rfl⟩))
   have HN:=Lib.hid hn
   clear hv hc ha hn
   go_enter Tryz.func106,Tryz.ntmps106
   go_wp2_with (go_at_call 117;refine (HC.out _ rfl).mono ?_;rintro e w1 ⟨N0,rfl,hb0,hb1,hb⟩)
   go_ret2
   exact ⟨_,rfl,yV _ HN.out,hb⟩
  | some z =>
   have HC:=Lib.hid (fun W=>Tryz.strconv_Atoi s z (by omega) ha W)
   by_cases hz:0<=z/\z<=999
   ·obtain ⟨n,rfl⟩:=Int.eq_ofNat_of_zero_le hz.1
    have hn:n<1000:=by omega
    have b1:(0:Int)<=(n:Int):=by omega
    have b2:(n:Int)<=999:=by omega
    have HF:=Lib.hid (fun (w0:World) (hb:Below w.heap.size w w0)=>(Kd hn).2 w0 M 0 [.int .i64 n] (hG.below hb fun p hp=>Nat.lt_of_lt_of_le (hM p hp) hb.size) (Rs.one ⟨rfl,by show (-9223372036854775808:Int)<=n;omega,by show (n:Int)<=9223372036854775807;omega⟩) (fun cs h=>by cases h))
    have hne:((bs (eO n)).toList==s.toList)=decide (gY s.data.toList=some n):=by
     rw [wM]
     by_cases h:gY s.data.toList=some n
     ·have:=(rK.1 h).2
      simp [h,this,Cq]
     ·have:bs (eO n)≠s:=fun e=>h (by rw [<-e,Ff];exact aa9 hn)
      simp [h,this]
    by_cases hq:gY s.data.toList=some n
    ·have HQ:=Lib.hid hq
     have e1:((bs (eO n)).toList==s.toList)=true:=by rw [hne];simp [hq]
     clear hne hq ha
     go_enter Tryz.func106,Tryz.ntmps106
     go_wp2_with (first|(go_at_call 117;refine (HC.out _).mono ?_;rintro e w1 ⟨rfl,t1,hb1⟩;replace hb1:=Cs hb1)|(go_at_call 102;refine (HF.out _ (by go_grown)).mono ?_;rintro e w2 ⟨v2,rfl,⟨rfl, -⟩,hb2, -⟩;replace hb2:=hb2.lF)|go_in)
     go_ret2
     exact ⟨_,rfl,Tr HQ.out,bt hb1 hb2⟩
    ·have e1:((bs (eO n)).toList==s.toList)=false:=by rw [hne];simp [hq]
     have hno:gY s.data.toList=none:=by
      cases h:gY s.data.toList with
      | none=>rfl
      | some m =>
       have:=Fa h
       rw [ha] at this
       have e:n=m:=by have:=Option.some.inj this;omega
       subst e
       exact absurd h hq
     have HN:=Lib.hid hno
     clear hne hq ha hno
     go_enter Tryz.func106,Tryz.ntmps106
     go_wp2_with (first|(go_at_call 117;refine (HC.out _).mono ?_;rintro e w1 ⟨rfl,t1,hb1⟩;replace hb1:=Cs hb1)|(go_at_call 102;refine (HF.out _ (by go_grown)).mono ?_;rintro e w2 ⟨v2,rfl,⟨rfl, -⟩,hb2, -⟩;replace hb2:=hb2.lF)|go_in)
     go_ret2
     exact ⟨_,rfl,yV _ HN.out,bt hb1 hb2⟩
   ·have hno:gY s.data.toList=none:=by
     cases h:gY s.data.toList with
     | none=>rfl
     | some m =>
      have h1:=(rK.1 h).1
      have:=Fa h
      rw [ha] at this
      have e:z=(m:Int):=Option.some.inj this
      subst e
      exact absurd ⟨by omega,by omega⟩ hz
    have HN:=Lib.hid hno
    have e1:(decide (0<=z)&&decide (z<=999))=false:=by
     rw [Bool.and_eq_false_iff];simp;omega
    by_cases hz0:0<=z
    ·have b2:(z<=999)=False:=by simp;omega
     clear e1 hz hno ha
     go_enter Tryz.func106,Tryz.ntmps106
     go_wp2_with (first|(go_at_call 117;refine (HC.out _).mono ?_;rintro e w1 ⟨rfl,t1,hb1⟩;replace hb1:=Cs hb1)|go_in)
     go_ret2
     exact ⟨_,rfl,yV _ HN.out,hb1⟩
    ·have b2:(0<=z)=False:=by simp;omega
     clear e1 hz hno hz0 ha
     go_enter Tryz.func106,Tryz.ntmps106
     go_wp2_with (first|(go_at_call 117;refine (HC.out _).mono ?_;rintro e w1 ⟨rfl,t1,hb1⟩;replace hb1:=Cs hb1)|go_in)
     go_ret2
     exact ⟨_,rfl,yV _ HN.out,hb1⟩
 ·have hno:gY s.data.toList=none:=by
   cases h:gY s.data.toList with
   | none=>rfl
   | some m =>
    obtain ⟨h1,h2⟩:=rK.1 h
    have h3:=KG h1
    have h4:=xA h1
    rw [h2,size_data] at h3 h4
    exact absurd ⟨h3,h4⟩ hl
  have HN:=Lib.hid hno
  clear hno
  by_cases h0:s.size=0
  ·have a1:((s.size:Int)<1)=True:=by simp;omega
   clear hl h0
   go_enter Tryz.func106,Tryz.ntmps106
   go_wp2_with fail
   go_ret2
   exact ⟨_,rfl,yV _ HN.out,Below.refl _ _⟩
  ·have a1:((s.size:Int)<1)=False:=by simp;omega
   have a2:((s.size:Int)>3)=True:=by simp;omega
   clear hl h0
   go_enter Tryz.func106,Tryz.ntmps106
   go_wp2_with fail
   go_ret2
   exact ⟨_,rfl,yV _ HN.out,Below.refl _ _⟩
def lX(l:List UInt8)(k:Nat):Int:=(l.take k).foldl (fun n c=>10*n+(c.toNat:Int)-48) 0
def wm:Nat->Int
 | 0=>0
 | k+1=>10*wm k+255
theorem Pr{l:List UInt8}{k:Nat}(h:k<l.length):lX l (k+1)=10*lX l k+(l[k].toNat:Int)-48:=by
 unfold lX
 rw [List.take_add_one,List.getElem?_eq_getElem h,Option.toList_some,List.foldl_append]
 rfl
theorem Pq(l:List UInt8): ∀k, -wm k<=lX l k/\lX l k<=wm k
 | 0=>by simp [lX,wm]
 | k+1=>by
  have ih:=Pq l k
  rcases Nat.lt_or_ge k l.length with h|h
  ·rw [Pr h]
   have:=l[k].toNat_lt
   simp only [wm];omega
  ·have:lX l (k+1)=lX l k:=by unfold lX;rw [List.take_of_length_le h,List.take_of_length_le (by omega)]
   rw [this];simp only [wm];omega
theorem abG: ∀k,k<=4->wm k<=283305
 | 0,_=>by decide
 | 1,_=>by decide
 | 2,_=>by decide
 | 3,_=>by decide
 | 4,_=>by decide
 | k+5,h=>by omega
theorem abH(l:List UInt8){k:Nat}(h:k=4\/l.length<=k/\k<=4):lX l k=nJ l:=by
 unfold lX nJ
 rcases h with rfl|⟨h1,h2⟩
 ·rfl
 ·rw [List.take_of_length_le h1,List.take_of_length_le (by omega)]
theorem UB{s:ByteArray}{k:Nat}(h:k<s.data.toList.length):((s[k]?).map (fun (c:UInt8)=>(c.toNat:Int))).getD 0=((s.data.toList[k]).toNat:Int):=by
 have h2:k<s.size:=by rw [size_data] at h;exact h
 rw [getElem?_pos s k h2]
 simp [ByteArray.getElem_eq_getElem_data]
theorem Vz(s:ByteArray):aG Tryz.prog 112 none [.str s] (lW s) []:=by
 refine aG.bV ahl afx rfl ?_ (fun hfit=> ?_)
 ·simp [QN,fH,bX,cE,bW]
 have YK:s.size<=maxLen:=by simp [eB,Fits] at hfit;exact hfit
 unfold Sh
 refine gJ 4 (fun k=>[.int .i64 (lX s.data.toList k),.int .i64 k]) (fun k=>k<=s.size) rfl (Nat.zero_le _) (fun k hk hI _=> ?_)
 have hb:=Pq s.data.toList k
 have hB:=abG k hk
 refine aL (fun h=> ?_) (fun h=> ?_)
 ·simp only [E.den,aa,aj,ak] at h
  simp at h
  obtain ⟨h1,h2⟩:=h
  have hlt:k<s.data.toList.length:=by rw [size_data];omega
  refine bH (fun _=> ?_) ?_
  ·simp only [E.den,aa,aj,ak];simp;omega
  refine fT (by omega) ?_ (by omega)
  have hc:=(s.data.toList[k]).toNat_lt
  simp only [E.den,aa,aj,ak]
  rw [Pr hlt]
  have hz:sZ s k=((s.data.toList[k]).toNat:Int):=UB hlt
  simp only [cP,hz]
  rw [wrap_i64 (n:=10*lX s.data.toList k) (by omega) (by omega),wrap_i64 (n:=(s.data.toList[k].toNat:Int)) (by omega) (by omega),wrap_i64 (n:=10*lX s.data.toList k+_) (by omega) (by omega),wrap_i64 (n:=_-48) (by omega) (by omega),wrap_i64 (by omega) (by omega)]
  rfl
 ·simp only [E.den,aa,aj,ak] at h
  simp at h
  have h4:lX s.data.toList k=nJ s.data.toList:=abH _ (by rw [size_data];omega)
  rw [h4] at hb ⊢
  refine Wr (xs:=[.int .i64 (nJ s.data.toList)]) (r:= .str (bs (eO (nJ s.data.toList).toNat))) rfl (fun hg=> ?_) trivial ?_
  ·simp only [bE,List.mem_cons,List.not_mem_nil,or_false,forall_eq] at hg
   simp only [E.den,aa,aj,ak] at hg
   simp at hg
   have e:nJ s.data.toList=((nJ s.data.toList).toNat:Int):=by omega
   rw [e]
   exact Kj (by omega)
  refine aL (fun h=> ?_) (fun h=> ?_)
  ·simp only [E.den,aa,aj,ak] at h
   refine aK ?_
   simp only [E.den,aa,aj,ak]
   have hno:gY s.data.toList=none:=by
    cases hq:gY s.data.toList with
    | none=>rfl
    | some m =>
     exfalso
     obtain ⟨q1,q2⟩:=rK.1 hq
     have q3:=Wu q1
     rw [q2] at q3
     have q4:=KG q1
     rw [q2,size_data] at q4
     have hs':bs (eO m)=s:=by rw [q2,Cq]
     have hne:s≠ByteArray.empty:=by rintro rfl;simp at q4
     rw [q3] at h
     simp [hs',hne] at h
     omega
   rw [lW,OH hno,OI hno]
  ·simp only [E.den,aa,aj,ak] at h
   simp at h
   obtain ⟨⟨⟨h1,h2⟩,h3⟩,h5⟩:=h
   refine aK ?_
   simp only [E.den,aa,aj,ak]
   have e:nJ s.data.toList=((nJ s.data.toList).toNat:Int):=by omega
   have hs:eO (nJ s.data.toList).toNat=s.data.toList:=by
    have h7:=congrArg (fun x:ByteArray=>x.data.toList) h5
    simpa using h7
   have hn:=rK.2 ⟨(by omega:(nJ s.data.toList).toNat<1000),hs⟩
   rw [lW,Ie hn,OJ hn, <-e]
end
section
open Go.RowKit Go
variable [GC]
end
section
open Go.RowKit Go
variable [GC]
def eV(n:Int)(P:Prop)(r:D):Prop:= ∃m:Int,r= .int .i64 m/\ -1<=m/\m<=n/\(0<=m->P)
theorem eV.no{n:Int}{P:Prop}(h:0<=n):eV n P (.int .i64 (-1)):=⟨-1,rfl,by omega,by omega,by omega⟩
theorem eV.ty{n:Int}{P:Prop}{r:D}(h:eV n P r):bX aD.tab (.one (.c (.int .i64))) r:=by obtain ⟨m,rfl,_⟩:=h;rfl
class Sm(α:Type) where
 sm:α->Prop
instance :Sm ByteArray:=⟨fun s=>s.size<=1048576⟩
instance {α:Type}[Inhabited α][Sm α]:Sm (List α):=⟨fun l=>l.length<=1048576/\ ∀k,k<l.length->Sm.sm (nth l k)⟩
theorem zg{s:ByteArray}:Sm.sm s↔s.size<=1048576:=Iff.rfl
theorem uk{α:Type}[Inhabited α][Sm α]{l:List α}:Sm.sm l↔l.length<=1048576/\ ∀k,k<l.length->Sm.sm (nth l k):=Iff.rfl
def qG{α:Type}[bC α](l:List α)(z:List D)(k:Nat):List (List D):=(l.take k).map bC.cells++List.replicate (l.length-k) z
theorem KD{α:Type}[bC α](l:List α)(z:List D):List.replicate l.length z=qG l z 0:=by simp [qG]
theorem KA{α:Type}[bC α](l:List α)(z:List D):D.sl (qG l z l.length)=bg l:=by simp [qG,bg]
theorem acV{α:Type}{cs l:List α}(h:l.length=cs.length):oC cs 0 l=l:=by
 apply List.ext_getElem?
 intro i
 rw [BG]
 split
 ·rw [Nat.sub_zero]
 ·rw [List.getElem?_eq_none (by omega),List.getElem?_eq_none (by omega)]
theorem KC{α:Type}[bC α]{l:List α}{z:List D}{k:Nat}(hk:k<l.length)(hz:(bC.cells (nth l k)).length=z.length):mR (qG l z k) k 0 (bC.cells (nth l k))=qG l z (k+1):=by
 have hA:((l.take k).map (bC.cells (α:=α))).length=k:=by simp;omega
 have hr:List.replicate (l.length-k) z=z::List.replicate (l.length-(k+1)) z:=by
  rw [show l.length-k=(l.length-(k+1))+1 by omega,List.replicate_succ]
 unfold mR qG
 rw [hr]
 have hg:(((l.take k).map bC.cells++z::List.replicate (l.length-(k+1)) z).getD k [])=z:=by
  rw [List.getD,List.getElem?_append_right (by omega),hA,Nat.sub_self];rfl
 rw [hg,acV hz,List.set_append_right _ _ (by omega),hA,Nat.sub_self,List.set_cons_zero,List.take_succ_eq_append_getElem hk,List.map_append]
 have:nth l k=l[k]:=by simp [nth,hk]
 rw [this]
 simp
instance :Sm fZ:=⟨fun x=>Sm.sm x.name⟩
theorem ah9(x:fZ)(n:Int)(h0:0<=n)(h1:n<=1048576): ∃r,eV n (Sm.sm x) r/\aG Tryz.prog 51 none [enc x,.int .i64 n] r []:=by
 refine aG.tz agT rfl aeM ⟨I6 x,rfl,trivial⟩ (.int .i64 (-1)) (eV.no h0) fun hfit=> ?_;unfold RE
 have hf:=hfit.1
 simp only [enc,Fits,jC,eB] at hf
 have hs0:x.name.size<=9223372036854775807:=tA (by simp only [Fits];exact hf.1)
 have e0:cP .sub .i64 n x.name.size=n-x.name.size:=kA (by omega) (by omega)
 refine aL (fun h=>⟨eV.no h0,rfl⟩) (fun g0=> ?_)
 simp only [E.den,List.map_cons,List.map_nil,List.getD_cons_zero,List.getD_cons_succ,D.dE,D.fL,D.fM,ig,iP,iO,fJ,iz,jC,e0] at g0
 simp at g0
 refine ⟨⟨(n-x.name.size),?_,by omega,by omega,fun _=>zg.2 (by omega)⟩,rfl⟩
 simp only [E.den,List.map_cons,List.map_nil,List.getD_cons_zero,List.getD_cons_succ,D.dE,D.fL,D.fM,ig,iP,iO,fJ,iz,jC,e0]
theorem aia(l:List fZ)(n:Int)(h0:0<=n)(h1:n<=1048576): ∃r,eV n (Sm.sm l) r/\aG Tryz.prog 25 none [bg l,.int .i64 n] r []:=by
 refine aG.tz agS rfl aeL ⟨I7 l,rfl,trivial⟩ (.int .i64 (-1)) (eV.no h0) fun hfit=> ?_;unfold RF
 have hl:l.length<=9223372036854775807:=qL hfit.1
 have e:cP .sub .i64 n l.length=n-l.length:=kA (by omega) (by omega)
 refine aL (fun h=> ?_) (fun h=> ?_)
 ·exact ⟨eV.no h0,rfl⟩
 simp only [E.den,List.map_cons,List.map_nil,List.getD_cons_zero,List.getD_cons_succ,D.dE,D.fL,D.fM,ig,iP,iO,fJ,iz,e] at h
 simp at h
 refine CM (Int×Nat) (fun s=>[.int .i64 s.1,.int .i64 s.2]) (fun s=>s.2<=l.length/\s.1<=n-l.length/\0<=s.1/\ ∀i,i<s.2->Sm.sm (nth l i)) (fun s=>l.length-s.2) (n-l.length,0) (fun s s' h=>by simp at h;omega) ?_ ⟨by omega,by omega,by omega,by omega⟩ ?_
 ·simp only [E.den,List.map_cons,List.map_nil,List.getD_cons_zero,List.getD_cons_succ,D.dE,D.fL,D.fM,ig,iP,iO,fJ,iz,e];rfl
 rintro ⟨m,k⟩ ⟨hk,hm,hm0,hI⟩ -
 simp only at hk hm hm0 hI
 simp only [cA]
 refine aL (fun h2=> ?_) (fun h2=> ?_)
 ·simp [E.den,bb] at h2
  refine bH (fun hg=> ?_) ?_
  ·simp [E.den];omega
  (refine zU ?_ (ah9 (nth l k) m hm0 (by omega)) (fun _ h=>eV.ty h) ?_;(focus (simp only [VC.den,E.den,aa,aP,and_true,oB,Int.toNat_natCast];try exact rfl));rintro _ ⟨q,rfl,q1,q2,q3⟩;(simp only [cA]))
  refine aL (fun h3=> ?_) (fun h3=> ?_)
  ·exact ⟨eV.no h0,rfl⟩
  simp only [E.den,List.map_cons,List.map_nil,List.getD_cons_zero,List.getD_cons_succ,D.dE,D.fL,D.fM,ig,iP,iO,fJ,iz] at h3
  simp at h3
  refine ⟨(q,k+1),?_,⟨by omega,by omega,h3,fun i hi=> ?_⟩,by omega⟩
  ·simp only [E.den,List.map_cons,List.map_nil,List.getD_cons_zero,List.getD_cons_succ,D.dE,D.fL,D.fM,ig,iP,iO,fJ,iz];rw [eM (by omega) (by omega)];rfl
  rcases Nat.lt_or_ge i k with h'|h'
  ·exact hI i h'
  ·obtain rfl:i=k:=by omega
   exact q3 h3
 ·simp [E.den,bb] at h2
  obtain rfl:k=l.length:=by omega
  exact ⟨⟨m,rfl,by omega,by omega,fun _=>uk.2 ⟨by omega,hI⟩⟩,rfl⟩
theorem Vo(x:fZ)(h:Sm.sm x):aG Tryz.prog 63 none [enc x] (enc x) []:=by
 refine aG.bV ag2 ae0 rfl ?_ (fun hfit=> ?_)
 ·exact ⟨I6 x,trivial⟩
 unfold RM
 exact aK (by simp [E.den,jC,enc])
theorem Vp(l:List fZ)(h:l.length<=1048576)(H: ∀k,k<l.length->Sm.sm (nth l k)):dw Tryz.prog 34 none [bg l] (bg l) [] [(0,2)]:=by
 refine dw.bV agZ aeZ ab2 rfl ?_ (fun hfit=> ?_)
 ·exact ⟨I7 l,trivial⟩
 unfold RN
 refine bH (fun _=> ?_) ?_
 ·simp only [E.den,aa,aj,ak];simp;omega
 refine gJ l.length (fun k=>[.int .i64 k,.sl (qG l (List.map jy [.str,.int .i64]) k)]) (fun _=>True) ?_ trivial ?_
 ·simp only [E.den,aa,aj,ak]
  rw [KD];rfl
 intro k hk _ _
 simp only [cA]
 refine aL (fun h2=> ?_) (fun h2=> ?_)
 ·simp only [E.den,aa,aj,ak] at h2
  have h2:k<l.length:=by simp at h2;exact h2
  (refine bH (fun hg=> ?_) ?_;(focus (simp only [bE,gE,E.den,aa,aj,ak] at hg ⊢;(try simp only [D.bool.injEq] at hg);(try simp only [D.bool.injEq]);grind)))
  (refine bD ?_ (Vo (nth l k) (H k h2)) (EA _) ?_;(focus (simp only [VC.den,E.den,aa,aP,and_true,oB,Int.toNat_natCast];try exact rfl));(simp only [cA]))
  refine bH (fun _=> ?_) ?_
  ·simp only [E.den,aa,aj,ak,qg,Og];simp;omega
  refine fT h2 ?_ trivial
  simp only [E.den,aa,aj,ak,ig]
  rw [eM (by omega) (by omega)]
  exact congrArg (fun r=>[D.int .i64 ((k+1:Nat):Int),D.sl r]) (KC h2 rfl)
 ·simp only [E.den,aa,aj,ak] at h2
  obtain rfl:k=l.length:=by simp at h2;omega
  refine aK ?_
  simp only [E.den,aa,aj,ak]
  exact KA l _
theorem Vh(x y:fZ):aG Tryz.prog 76 none [enc x,enc y] (.bool (decide (x=y))) []:=by
 refine aG.bV agG aem rfl ?_ (fun hfit=> ?_)
 ·exact ⟨EA x,EA y,trivial⟩
 have e:=WT x y
 unfold Rm
 refine aL (fun h=> ?_) (fun h0=> ?_)
 ·simp [E.den,bb,gG,jC] at h
  exact aK (by simp [E.den,e,h])
 simp [E.den,bb,gG,jC] at h0
 refine aL (fun h=> ?_) (fun h1=> ?_)
 ·simp [E.den,bb,gG,jC] at h
  exact aK (by simp [E.den,e,h])
 simp [E.den,bb,gG,jC] at h1
 exact aK (by simp [E.den,e,h0,h1])
theorem Vi(l l':List fZ):aG Tryz.prog 43 none [bg l,bg l'] (.bool (decide (l=l'))) []:=by
 refine aG.bV agF ael rfl ?_ (fun hfit=> ?_)
 ·exact ⟨EB l,EB l',trivial⟩
 have hl:l.length<=9223372036854775807:=qL hfit.1
 unfold Rn
 refine aL (fun h=> ?_) (fun h=> ?_)
 ·simp [E.den,bb] at h
  refine aK ?_
  have:l≠l':=fun e=>h (by rw [e])
  simp [E.den,this]
 simp [E.den,bb] at h
 have h:l.length=l'.length:=by omega
 refine gJ l.length (fun k=>[.int .i64 k]) (fun k=> ∀i,i<k->nth l i=nth l' i) rfl (by omega) ?_
 intro k hk hI _
 simp only [cA]
 refine aL (fun h2=> ?_) (fun h2=> ?_)
 ·simp [E.den,bb] at h2
  refine bH (fun hg=> ?_) (bH (fun hg=> ?_) ?_)
  ·simp [E.den];omega
  ·simp [E.den];omega
  (refine bD ?_ (Vh (nth l k) (nth l' k)) (trivial) ?_;(focus (simp only [VC.den,E.den,aa,aP,and_true,oB,Int.toNat_natCast];try exact rfl));(simp only [cA]))
  refine aL (fun h3=> ?_) (fun h3=> ?_)
  ·simp [E.den] at h3
   exact aK (by have:l≠l':=fun e=>h3 (by rw [e])
                simp [E.den,this])
  simp [E.den] at h3
  refine fT h2 ?_ fun i hi=> ?_
  ·simp [E.den];rw [eM (by omega) (by omega)]
  rcases Nat.lt_or_ge i k with h'|h'
  ·exact hI i h'
  ·obtain rfl:i=k:=by omega
   exact h3
 ·simp [E.den,bb] at h2
  obtain rfl:k=l.length:=by omega
  exact aK (by simp [E.den,LJ h hI])
instance :Sm Cell:=⟨fun x=>Sm.sm x.key⟩
theorem ah6(x:Cell)(n:Int)(h0:0<=n)(h1:n<=1048576): ∃r,eV n (Sm.sm x) r/\aG Tryz.prog 79 none [enc x,.int .i64 n] r []:=by
 refine aG.tz agQ rfl aeG ⟨I5 x,rfl,trivial⟩ (.int .i64 (-1)) (eV.no h0) fun hfit=> ?_;unfold RA
 have hf:=hfit.1
 simp only [enc,Fits,dR,eB] at hf
 have hs0:x.key.size<=9223372036854775807:=tA (by simp only [Fits];exact hf.1)
 have e0:cP .sub .i64 n x.key.size=n-x.key.size:=kA (by omega) (by omega)
 refine aL (fun h=>⟨eV.no h0,rfl⟩) (fun g0=> ?_)
 simp only [E.den,List.map_cons,List.map_nil,List.getD_cons_zero,List.getD_cons_succ,D.dE,D.fL,D.fM,ig,iP,iO,fJ,iz,dR,e0] at g0
 simp at g0
 refine ⟨⟨(n-x.key.size),?_,by omega,by omega,fun _=>zg.2 (by omega)⟩,rfl⟩
 simp only [E.den,List.map_cons,List.map_nil,List.getD_cons_zero,List.getD_cons_succ,D.dE,D.fL,D.fM,ig,iP,iO,fJ,iz,dR,e0]
theorem ah7(l:List Cell)(n:Int)(h0:0<=n)(h1:n<=1048576): ∃r,eV n (Sm.sm l) r/\aG Tryz.prog 50 none [bg l,.int .i64 n] r []:=by
 refine aG.tz agP rfl aeF ⟨EC l,rfl,trivial⟩ (.int .i64 (-1)) (eV.no h0) fun hfit=> ?_;unfold RC
 have hl:l.length<=9223372036854775807:=qL hfit.1
 have e:cP .sub .i64 n l.length=n-l.length:=kA (by omega) (by omega)
 refine aL (fun h=> ?_) (fun h=> ?_)
 ·exact ⟨eV.no h0,rfl⟩
 simp only [E.den,List.map_cons,List.map_nil,List.getD_cons_zero,List.getD_cons_succ,D.dE,D.fL,D.fM,ig,iP,iO,fJ,iz,e] at h
 simp at h
 refine CM (Int×Nat) (fun s=>[.int .i64 s.1,.int .i64 s.2]) (fun s=>s.2<=l.length/\s.1<=n-l.length/\0<=s.1/\ ∀i,i<s.2->Sm.sm (nth l i)) (fun s=>l.length-s.2) (n-l.length,0) (fun s s' h=>by simp at h;omega) ?_ ⟨by omega,by omega,by omega,by omega⟩ ?_
 ·simp only [E.den,List.map_cons,List.map_nil,List.getD_cons_zero,List.getD_cons_succ,D.dE,D.fL,D.fM,ig,iP,iO,fJ,iz,e];rfl
 rintro ⟨m,k⟩ ⟨hk,hm,hm0,hI⟩ -
 simp only at hk hm hm0 hI
 simp only [cA]
 refine aL (fun h2=> ?_) (fun h2=> ?_)
 ·simp [E.den,bb] at h2
  refine bH (fun hg=> ?_) ?_
  ·simp [E.den];omega
  (refine zU ?_ (ah6 (nth l k) m hm0 (by omega)) (fun _ h=>eV.ty h) ?_;(focus (simp only [VC.den,E.den,aa,aP,and_true,gC,Int.toNat_natCast];try exact rfl));rintro _ ⟨q,rfl,q1,q2,q3⟩;(simp only [cA]))
  refine aL (fun h3=> ?_) (fun h3=> ?_)
  ·exact ⟨eV.no h0,rfl⟩
  simp only [E.den,List.map_cons,List.map_nil,List.getD_cons_zero,List.getD_cons_succ,D.dE,D.fL,D.fM,ig,iP,iO,fJ,iz] at h3
  simp at h3
  refine ⟨(q,k+1),?_,⟨by omega,by omega,h3,fun i hi=> ?_⟩,by omega⟩
  ·simp only [E.den,List.map_cons,List.map_nil,List.getD_cons_zero,List.getD_cons_succ,D.dE,D.fL,D.fM,ig,iP,iO,fJ,iz];rw [eM (by omega) (by omega)];rfl
  rcases Nat.lt_or_ge i k with h'|h'
  ·exact hI i h'
  ·obtain rfl:i=k:=by omega
   exact q3 h3
 ·simp [E.den,bb] at h2
  obtain rfl:k=l.length:=by omega
  exact ⟨⟨m,rfl,by omega,by omega,fun _=>uk.2 ⟨by omega,hI⟩⟩,rfl⟩
theorem Vm(x:Cell)(h:Sm.sm x):aG Tryz.prog 89 none [enc x] (enc x) []:=by
 refine aG.bV agX aeU rfl ?_ (fun hfit=> ?_)
 ·exact ⟨I5 x,trivial⟩
 unfold RI
 exact aK (by simp [E.den,dR,enc])
theorem Vn(l:List Cell)(h:l.length<=1048576)(H: ∀k,k<l.length->Sm.sm (nth l k)):dw Tryz.prog 62 none [bg l] (bg l) [] [(0,2)]:=by
 refine dw.bV agW aeT ab0 rfl ?_ (fun hfit=> ?_)
 ·exact ⟨EC l,trivial⟩
 unfold RJ
 refine bH (fun _=> ?_) ?_
 ·simp only [E.den,aa,aj,ak];simp;omega
 refine gJ l.length (fun k=>[.int .i64 k,.sl (qG l (List.map jy [.str,.int .i64]) k)]) (fun _=>True) ?_ trivial ?_
 ·simp only [E.den,aa,aj,ak]
  rw [KD];rfl
 intro k hk _ _
 simp only [cA]
 refine aL (fun h2=> ?_) (fun h2=> ?_)
 ·simp only [E.den,aa,aj,ak] at h2
  have h2:k<l.length:=by simp at h2;exact h2
  (refine bH (fun hg=> ?_) ?_;(focus (simp only [bE,gE,E.den,aa,aj,ak] at hg ⊢;(try simp only [D.bool.injEq] at hg);(try simp only [D.bool.injEq]);grind)))
  (refine bD ?_ (Vm (nth l k) (H k h2)) (Ez _) ?_;(focus (simp only [VC.den,E.den,aa,aP,and_true,gC,Int.toNat_natCast];try exact rfl));(simp only [cA]))
  refine bH (fun _=> ?_) ?_
  ·simp only [E.den,aa,aj,ak,qg,Og];simp;omega
  refine fT h2 ?_ trivial
  simp only [E.den,aa,aj,ak,ig]
  rw [eM (by omega) (by omega)]
  exact congrArg (fun r=>[D.int .i64 ((k+1:Nat):Int),D.sl r]) (KC h2 rfl)
 ·simp only [E.den,aa,aj,ak] at h2
  obtain rfl:k=l.length:=by simp at h2;omega
  refine aK ?_
  simp only [E.den,aa,aj,ak]
  exact KA l _
theorem Ve(x y:Cell):aG Tryz.prog 97 none [enc x,enc y] (.bool (decide (x=y))) []:=by
 refine aG.bV agD aeg rfl ?_ (fun hfit=> ?_)
 ·exact ⟨Ez x,Ez y,trivial⟩
 have e:=WQ x y
 unfold Rh
 refine aL (fun h=> ?_) (fun h0=> ?_)
 ·simp [E.den,bb,gG,dR] at h
  exact aK (by simp [E.den,e,h])
 simp [E.den,bb,gG,dR] at h0
 refine aL (fun h=> ?_) (fun h1=> ?_)
 ·simp [E.den,bb,gG,dR] at h
  exact aK (by simp [E.den,e,h])
 simp [E.den,bb,gG,dR] at h1
 exact aK (by simp [E.den,e,h0,h1])
theorem Vf(l l':List Cell):aG Tryz.prog 75 none [bg l,bg l'] (.bool (decide (l=l'))) []:=by
 refine aG.bV agC aef rfl ?_ (fun hfit=> ?_)
 ·exact ⟨nK l,nK l',trivial⟩
 have hl:l.length<=9223372036854775807:=qL hfit.1
 unfold Ri
 refine aL (fun h=> ?_) (fun h=> ?_)
 ·simp [E.den,bb] at h
  refine aK ?_
  have:l≠l':=fun e=>h (by rw [e])
  simp [E.den,this]
 simp [E.den,bb] at h
 have h:l.length=l'.length:=by omega
 refine gJ l.length (fun k=>[.int .i64 k]) (fun k=> ∀i,i<k->nth l i=nth l' i) rfl (by omega) ?_
 intro k hk hI _
 simp only [cA]
 refine aL (fun h2=> ?_) (fun h2=> ?_)
 ·simp [E.den,bb] at h2
  refine bH (fun hg=> ?_) (bH (fun hg=> ?_) ?_)
  ·simp [E.den];omega
  ·simp [E.den];omega
  (refine bD ?_ (Ve (nth l k) (nth l' k)) (trivial) ?_;(focus (simp only [VC.den,E.den,aa,aP,and_true,gC,Int.toNat_natCast];try exact rfl));(simp only [cA]))
  refine aL (fun h3=> ?_) (fun h3=> ?_)
  ·simp [E.den] at h3
   exact aK (by have:l≠l':=fun e=>h3 (by rw [e])
                simp [E.den,this])
  simp [E.den] at h3
  refine fT h2 ?_ fun i hi=> ?_
  ·simp [E.den];rw [eM (by omega) (by omega)]
  rcases Nat.lt_or_ge i k with h'|h'
  ·exact hI i h'
  ·obtain rfl:i=k:=by omega
   exact h3
 ·simp [E.den,bb] at h2
  obtain rfl:k=l.length:=by omega
  exact aK (by simp [E.den,LJ h hI])
instance :Sm Core:=⟨fun x=>Sm.sm x.kind/\Sm.sm x.cells⟩
theorem ac3{x:Core}:Sm.sm x↔Sm.sm x.kind/\Sm.sm x.cells:=Iff.rfl
theorem ah8(x:Core)(n:Int)(h0:0<=n)(h1:n<=1048576): ∃r,eV n (Sm.sm x) r/\aG Tryz.prog 24 none [enc x,.int .i64 n] r []:=by
 refine aG.tz agR rfl aeI ⟨QI x,rfl,trivial⟩ (.int .i64 (-1)) (eV.no h0) fun hfit=> ?_;unfold RD
 have hf:=hfit.1
 simp only [enc,Fits,bR,eB] at hf
 have hs0:x.kind.size<=9223372036854775807:=tA (by simp only [Fits];exact hf.1)
 have e0:cP .sub .i64 n x.kind.size=n-x.kind.size:=kA (by omega) (by omega)
 refine aL (fun h=>⟨eV.no h0,rfl⟩) (fun g0=> ?_)
 simp only [E.den,List.map_cons,List.map_nil,List.getD_cons_zero,List.getD_cons_succ,D.dE,D.fL,D.fM,ig,iP,iO,fJ,iz,bR,e0] at g0
 simp at g0
 (refine zU ?_ (ah7 x.cells (n-x.kind.size) (by omega) (by omega)) (fun _ h=>eV.ty h) ?_;(focus (simp only [VC.den,E.den,aa,aP,and_true,bR,fJ,e0];try exact rfl));rintro _ ⟨m1,rfl,p1,q1,s1⟩;(simp only [cA]))
 refine aL (fun h=>⟨eV.no h0,rfl⟩) (fun g1=> ?_)
 simp only [E.den,List.map_cons,List.map_nil,List.getD_cons_zero,List.getD_cons_succ,D.dE,D.fL,D.fM,ig,iP,iO,fJ,iz] at g1
 simp at g1
 refine ⟨⟨m1,?_,by omega,by omega,fun _=>⟨zg.2 (by omega),s1 g1⟩⟩,rfl⟩
 simp only [E.den,List.map_cons,List.map_nil,List.getD_cons_zero,List.getD_cons_succ,D.dE,D.fL,D.fM,ig,iP,iO,fJ,iz,bR,e0]
theorem UO(x:Core)(h:Sm.sm x):dw Tryz.prog 33 none [enc x] (enc x) [] [(3,2)]:=by
 refine dw.bV agY aeW ab1 rfl ?_ (fun hfit=> ?_)
 ·exact ⟨QI x,trivial⟩
 unfold RL
 (refine nS ?_ (Vn x.cells (uk.1 (h.2)).1 (uk.1 (h.2)).2) (nK _) ?_;(focus (simp only [VC.den,E.den,aa,aP,and_true,bR];try exact rfl));(simp only [cA]))
 exact aK (by simp [E.den,bR,enc])
theorem Vg(x y:Core):aG Tryz.prog 42 none [enc x,enc y] (.bool (decide (x=y))) []:=by
 refine aG.bV agE aei rfl ?_ (fun hfit=> ?_)
 ·exact ⟨j9 x,j9 y,trivial⟩
 have e:=WR x y
 unfold Rl
 refine aL (fun h=> ?_) (fun h0=> ?_)
 ·simp [E.den,bb,gG,bR] at h
  exact aK (by simp [E.den,e,h])
 simp [E.den,bb,gG,bR] at h0
 refine aL (fun h=> ?_) (fun h1=> ?_)
 ·simp [E.den,bb,gG,bR] at h
  exact aK (by simp [E.den,e,h])
 simp [E.den,bb,gG,bR] at h1
 refine aL (fun h=> ?_) (fun h2=> ?_)
 ·simp [E.den,bb,gG,bR] at h
  exact aK (by simp [E.den,e,h])
 simp [E.den,bb,gG,bR] at h2
 (refine bD ?_ (Vf x.cells y.cells) (trivial) ?_;(focus (simp only [VC.den,E.den,aa,aP,and_true,bR];try exact rfl));(simp only [cA]))
 refine aL (fun h=> ?_) (fun h3=> ?_)
 ·simp [E.den] at h
  exact aK (by simp [E.den,e,h])
 simp [E.den] at h3
 refine aL (fun h=> ?_) (fun h4=> ?_)
 ·simp [E.den,bb,gG,bR] at h
  exact aK (by simp [E.den,e,h])
 simp [E.den,bb,gG,bR] at h4
 exact aK (by simp [E.den,e,h0,h1,h2,h3,h4])
instance :Sm Call:=⟨fun x=>Sm.sm x.method/\Sm.sm x.key/\Sm.sm x.text⟩
theorem ac2{x:Call}:Sm.sm x↔Sm.sm x.method/\Sm.sm x.key/\Sm.sm x.text:=Iff.rfl
theorem ah5(x:Call)(n:Int)(h0:0<=n)(h1:n<=1048576): ∃r,eV n (Sm.sm x) r/\aG Tryz.prog 6 none [enc x,.int .i64 n] r []:=by
 refine aG.tz agO rfl aeC ⟨QH x,rfl,trivial⟩ (.int .i64 (-1)) (eV.no h0) fun hfit=> ?_;unfold Rz
 have hf:=hfit.1
 simp only [enc,Fits,cF,eB] at hf
 have hs0:x.method.size<=9223372036854775807:=tA (by simp only [Fits];exact hf.1)
 have e0:cP .sub .i64 n x.method.size=n-x.method.size:=kA (by omega) (by omega)
 refine aL (fun h=>⟨eV.no h0,rfl⟩) (fun g0=> ?_)
 simp only [E.den,List.map_cons,List.map_nil,List.getD_cons_zero,List.getD_cons_succ,D.dE,D.fL,D.fM,ig,iP,iO,fJ,iz,cF,e0] at g0
 simp at g0
 have hs1:x.key.size<=9223372036854775807:=tA (by simp only [Fits];exact hf.2.1)
 have e1:cP .sub .i64 (n-x.method.size) x.key.size=(n-x.method.size)-x.key.size:=kA (by omega) (by omega)
 refine aL (fun h=>⟨eV.no h0,rfl⟩) (fun g1=> ?_)
 simp only [E.den,List.map_cons,List.map_nil,List.getD_cons_zero,List.getD_cons_succ,D.dE,D.fL,D.fM,ig,iP,iO,fJ,iz,cF,e0,e1] at g1
 simp at g1
 have hs2:x.text.size<=9223372036854775807:=tA (by simp only [Fits];exact hf.2.2.2.1)
 have e2:cP .sub .i64 ((n-x.method.size)-x.key.size) x.text.size=((n-x.method.size)-x.key.size)-x.text.size:=kA (by omega) (by omega)
 refine aL (fun h=>⟨eV.no h0,rfl⟩) (fun g2=> ?_)
 simp only [E.den,List.map_cons,List.map_nil,List.getD_cons_zero,List.getD_cons_succ,D.dE,D.fL,D.fM,ig,iP,iO,fJ,iz,cF,e0,e1,e2] at g2
 simp at g2
 refine ⟨⟨(((n-x.method.size)-x.key.size)-x.text.size),?_,by omega,by omega,fun _=>⟨zg.2 (by omega),zg.2 (by omega),zg.2 (by omega)⟩⟩,rfl⟩
 simp only [E.den,List.map_cons,List.map_nil,List.getD_cons_zero,List.getD_cons_succ,D.dE,D.fL,D.fM,ig,iP,iO,fJ,iz,cF,e0,e1,e2]
theorem Vl(x:Call)(h:Sm.sm x):aG Tryz.prog 9 none [enc x] (enc x) []:=by
 refine aG.bV agV aeQ rfl ?_ (fun hfit=> ?_)
 ·exact ⟨QH x,trivial⟩
 unfold RH
 exact aK (by simp [E.den,cF,enc])
instance :Sm dW:=⟨fun x=>Sm.sm x.text⟩
theorem Vk(x y:dW):aG Tryz.prog 12 none [enc x,enc y] (.bool (decide (x=y))) []:=by
 refine aG.bV agI aeq rfl ?_ (fun hfit=> ?_)
 ·exact ⟨zk x,zk y,trivial⟩
 have e:=WV x y
 unfold Rp
 refine aL (fun h=> ?_) (fun h0=> ?_)
 ·simp [E.den,bb,gG,pU] at h
  exact aK (by simp [E.den,e,h])
 simp [E.den,bb,gG,pU] at h0
 refine aL (fun h=> ?_) (fun h1=> ?_)
 ·simp [E.den,bb,gG,pU] at h
  exact aK (by simp [E.den,e,h])
 simp [E.den,bb,gG,pU] at h1
 refine aL (fun h=> ?_) (fun h2=> ?_)
 ·simp [E.den,bb,gG,pU] at h
  exact aK (by simp [E.den,e,h])
 simp [E.den,bb,gG,pU] at h2
 refine aL (fun h=> ?_) (fun h3=> ?_)
 ·simp [E.den,bb,gG,pU] at h
  exact aK (by simp [E.den,e,h])
 simp [E.den,bb,gG,pU] at h3
 refine aL (fun h=> ?_) (fun h4=> ?_)
 ·simp [E.den,bb,gG,pU] at h
  exact aK (by simp [E.den,e,h])
 simp [E.den,bb,gG,pU] at h4
 exact aK (by simp [E.den,e,h0,h1,h2,h3,h4])
instance :Sm Part:=⟨fun x=>Sm.sm x.core/\Sm.sm x.af⟩
theorem aib(x:Part)(n:Int)(h0:0<=n)(h1:n<=1048576): ∃r,eV n (Sm.sm x) r/\aG Tryz.prog 5 none [enc x,.int .i64 n] r []:=by
 refine aG.tz agU rfl aeO ⟨QJ x,rfl,trivial⟩ (.int .i64 (-1)) (eV.no h0) fun hfit=> ?_;unfold RG
 have hf:=hfit.1
 simp only [enc,Fits,dS,eB] at hf
 (refine zU ?_ (ah8 x.core n (by omega) (by omega)) (fun _ h=>eV.ty h) ?_;(focus (simp only [VC.den,E.den,aa,aP,and_true,dS];try exact rfl));rintro _ ⟨m0,rfl,p0,q0,s0⟩;(simp only [cA]))
 refine aL (fun h=>⟨eV.no h0,rfl⟩) (fun g0=> ?_)
 simp only [E.den,List.map_cons,List.map_nil,List.getD_cons_zero,List.getD_cons_succ,D.dE,D.fL,D.fM,ig,iP,iO,fJ,iz] at g0
 simp at g0
 (refine zU ?_ (aia x.af m0 (by omega) (by omega)) (fun _ h=>eV.ty h) ?_;(focus (simp only [VC.den,E.den,aa,aP,and_true,dS];try exact rfl));rintro _ ⟨m1,rfl,p1,q1,s1⟩;(simp only [cA]))
 refine aL (fun h=>⟨eV.no h0,rfl⟩) (fun g1=> ?_)
 simp only [E.den,List.map_cons,List.map_nil,List.getD_cons_zero,List.getD_cons_succ,D.dE,D.fL,D.fM,ig,iP,iO,fJ,iz] at g1
 simp at g1
 refine ⟨⟨m1,?_,by omega,by omega,fun _=>⟨s0 g0,s1 g1⟩⟩,rfl⟩
 simp only [E.den,List.map_cons,List.map_nil,List.getD_cons_zero,List.getD_cons_succ,D.dE,D.fL,D.fM,ig,iP,iO,fJ,iz,dS]
theorem J9(x:Part)(h:Sm.sm x):dw Tryz.prog 8 none [enc x] (enc x) [] [(3,2),(5,2)]:=by
 refine dw.bV ag3 ae2 ab3 rfl ?_ (fun hfit=> ?_)
 ·exact ⟨QJ x,trivial⟩
 unfold RO
 (refine nS ?_ (UO x.core (h.1)) (j9 _) ?_;(focus (simp only [VC.den,E.den,aa,aP,and_true,dS];try exact rfl));(simp only [cA]))
 (refine nS ?_ (Vp x.af (uk.1 (h.2)).1 (uk.1 (h.2)).2) (EB _) ?_;(focus (simp only [VC.den,E.den,aa,aP,and_true,dS];try exact rfl));(simp only [cA]))
 exact aK (by simp [E.den,dS,bR,enc])
theorem Vq(x:Part)(h:Sm.sm x):aG Tryz.prog 8 none [enc x] (enc x) []:= .D6 (J9 x h)
theorem Vj(x y:Part):aG Tryz.prog 11 none [enc x,enc y] (.bool (decide (x=y))) []:=by
 refine aG.bV agH aeo rfl ?_ (fun hfit=> ?_)
 ·exact ⟨qt x,qt y,trivial⟩
 have e:=WU x y
 unfold Ro
 (refine bD ?_ (Vg x.core y.core) (trivial) ?_;(focus (simp only [VC.den,E.den,aa,aP,and_true,dS];try exact rfl));(simp only [cA]))
 refine aL (fun h=> ?_) (fun h0=> ?_)
 ·simp [E.den] at h
  exact aK (by simp [E.den,e,h])
 simp [E.den] at h0
 (refine bD ?_ (Vi x.af y.af) (trivial) ?_;(focus (simp only [VC.den,E.den,aa,aP,and_true,dS];try exact rfl));(simp only [cA]))
 refine aL (fun h=> ?_) (fun h1=> ?_)
 ·simp [E.den] at h
  exact aK (by simp [E.den,e,h])
 simp [E.den] at h1
 exact aK (by simp [E.den,e,h0,h1])
end
section
open Go.RowKit Go
variable [GC]
def js(l:List ByteArray)(sep:ByteArray):ByteArray:=⟨(Lib.join (l.map (·.data.toList)) sep.data.toList).toArray⟩
theorem Bh(l:List ByteArray)(sep:ByteArray):(js l sep).size=(Lib.join (l.map (·.data.toList)) sep.data.toList).length:=mV _
theorem J6(s:ByteArray):bs s.data.toList=s:=by simp [bs]
theorem NI{l:List ByteArray}{k:Nat}(h:k<l.length)(sep:ByteArray):js (l.take (k+1)) sep=if k=0 then nth l k else js (l.take k) sep++sep++nth l k:=by
 cases l with
 | nil=>simp at h
 | cons x r =>
  cases k with
  | zero =>
   rw [if_pos rfl]
   show bs (Lib.join [x.data.toList] _)=_
   rw [Lib.join_one,J6];rfl
  | succ j =>
   rw [if_neg (by omega)]
   have hj:j<r.length:=by simpa using h
   have e:(r.map (·.data.toList))[j]? =some ((nth (x::r) (j+1)).data.toList):=by
    simp [nth,hj]
   simp only [js,List.take_succ_cons,List.map_cons,List.map_take,Lib.join_cons]
   rw [Lib.joinTail_take_succ _ _ _ _ e]
   apply ByteArray.ext
   simp [ByteArray.data_append]
theorem ZM(l:List ByteArray)(sep:ByteArray)(k:Nat):(js (l.take k) sep).size<=(js l sep).size:=by
 rw [Bh,Bh]
 cases l with
 | nil=>simp
 | cons x r =>
  cases k with
  | zero=>simp [Lib.join_nil]
  | succ j =>
   simp only [List.take_succ_cons,List.map_cons,List.map_take,Lib.join_cons,List.length_append]
   have:=Lib.joinTail_take_le sep.data.toList (r.map (·.data.toList)) j
   omega
theorem ZL{l:List ByteArray}{sep:ByteArray}{n:Nat}(h: ∀k,k<l.length->(nth l k).size<=n):(js l sep).size<=l.length*(n+sep.size):=by
 have: ∀k,k<=l.length->(js (l.take k) sep).size<=k*(n+sep.size):=by
  intro k
  induction k with
  | zero=>intro _;simp [Bh,Lib.join_nil]
  | succ k ih =>
   intro hk
   have h1:=ih (by omega)
   have h2:=h k (by omega)
   rw [NI (by omega),Nat.add_mul]
   split
   ·omega
   ·simp only [ByteArray.size_append];omega
 simpa using this l.length (Nat.le_refl _)
theorem US(l:List ByteArray)(sep:ByteArray)(hN:l.length<=140737488355328)(hlen:(js l sep).size<=140737488355328):aG Tryz.prog 114 none [bg l,.str sep] (.str (js l sep)) []:=by
 refine aG.vU (by kernel_rfl) fun w M vs hG hr=> ?_
 obtain ⟨v,q,rfl,⟨a,len,cap,rfl,rfl,hc,hm,ha,hb⟩,v2,q2,rfl,⟨rfl,_⟩,rfl⟩:=hr
 have hsz:(js l sep).size<=maxLen:=by unfold maxLen;omega
 by_cases h0:l=[]
 ·subst h0
  refine (Tryz.strings_Join_none a cap sep w).mono ?_
  rintro e w' ⟨rfl,rfl⟩
  exact ⟨_,rfl,⟨rfl,hsz⟩,Below.refl _ _⟩
 ·have hpos:0<l.length:=List.length_pos_iff.2 h0
  simp only [List.length_map] at hc hb ⊢
  cases a with
  | none=>have:=ha rfl;omega
  | some ad =>
   obtain ⟨b,o,s⟩:=ad
   obtain ⟨h1,h2⟩:=hb b o s rfl
   obtain rfl:=h1 hpos
   have hcell: ∀(j:Nat) x,l[j]? =some x->w.cell? ⟨b,o+j,none⟩=some (.string x):=fun j x hx=>by
    have h3:=dF.get (n:=1) h2 (fun r hr=>by obtain ⟨y,_,rfl⟩:=List.mem_map.1 hr;rfl) (i:=j) (r:=[.str x]) (by rw [List.getElem?_map,hx];rfl)
    obtain ⟨⟨v,h4,_,rfl,_⟩,_⟩:=h3
    simpa using h4
   have hbk:b<w.heap.size:=by
    have:=hcell 0 _ (List.getElem?_eq_getElem hpos)
    unfold World.cell? at this
    rcases Nat.lt_or_ge b w.heap.size with h|h
    ·exact h
    ·simp only [Array.getElem?_eq_none h] at this;cases this
   refine (Tryz.strings_Join b o cap l sep w hcell hbk hN hc (by rw [<-Bh];exact hlen)).mono ?_
   rintro e w' ⟨rfl,hw⟩
   exact ⟨_,rfl,⟨rfl,hsz⟩,hw⟩
theorem U5(l:List ByteArray)(sep:ByteArray)(hN:l.length<=140737488355328)(hlen:(js l sep).size<=140737488355328):aG Tryz.prog 103 none [bg l,.str sep] (.str (js l sep)) []:=by
 refine aG.bV agp adR rfl ?_ (fun hfit=> ?_)
 ·exact ⟨rS l,trivial,trivial⟩
 unfold Q4
 (refine bD ?_ (US l sep hN hlen) (trivial) ?_;(focus (simp only [VC.den,E.den,aa,aP,and_true];try exact rfl));(simp only [cA]))
 exact aK rfl
theorem Vw(l:List ByteArray)(sep:ByteArray)(hN:l.length<=140737488355328)(hlen:(js l sep).size<=140737488355328):aG Tryz.prog 110 none [bg l,.str sep] (.str (js l sep)) []:=by
 refine aG.bV ahf afo rfl ?_ (fun hfit=> ?_)
 ·exact ⟨rS l,trivial,trivial⟩
 unfold Sa
 refine gJ l.length (fun k=>[.str (js (l.take k) sep),.int .i64 k]) (fun _=>True) rfl trivial ?_
 intro k hk hI _
 simp only [cA]
 refine aL (fun h2=> ?_) (fun h2=> ?_)
 ·simp only [E.den,aa,aj,ak] at h2
  have h2:k<l.length:=by simp at h2;exact h2
  (refine bH (fun hg=> ?_) ?_;(focus (simp only [bE,gE,E.den,aa,aj,ak] at hg ⊢;(try simp only [D.bool.injEq] at hg);(try simp only [D.bool.injEq]);grind)))
  have hle:=ZM l sep (k+1)
  have e:=NI h2 sep
  refine aL (fun h3=> ?_) (fun h3=> ?_)
  ·simp only [E.den,aa,aj,ak] at h3
   have h3:k≠0:=by simp at h3;omega
   rw [if_neg h3] at e
   rw [e,ByteArray.size_append,ByteArray.size_append] at hle
   refine bH (fun _=> ?_) ?_
   ·simp only [E.den,aa,aj,ak];simp [maxLen];exact decide_eq_true (by omega)
   refine bH (fun _=> ?_) ?_
   ·simp only [E.den,aa,aj,ak,lD,jg];simp [maxLen,ByteArray.size_append];omega
   refine fT h2 ?_ trivial
   simp only [E.den,aa,aj,ak,lD,jg]
   rw [eM (by omega) (by omega),e];rfl
  ·simp only [E.den,aa,aj,ak] at h3
   have h3:k=0:=by simp at h3;omega
   subst h3
   rw [if_pos rfl] at e
   rw [e] at hle
   refine bH (fun _=> ?_) ?_
   ·simp only [E.den,aa,aj,ak,lD,jg];simp [maxLen,Bh,Lib.join_nil];omega
   refine fT h2 ?_ trivial
   simp only [E.den,aa,aj,ak,lD,jg]
   rw [e]
   have:js [] sep++nth l 0=nth l 0:=by
    apply ByteArray.ext
    simp [js,Lib.join_nil,ByteArray.data_append]
   rw [this];rfl
 ·simp only [E.den,aa,aj,ak] at h2
  obtain rfl:k=l.length:=by simp at h2;omega
  refine aK ?_
  simp only [E.den,aa,aj,ak]
  rw [List.take_length]
end
section
open Go.RowKit Go
variable [GC]
theorem CL{p:Prop}[Decidable p](h:p):D.bool (decide p)= .bool true:=by simp [h]
theorem Ia{s:ByteArray}(h:kY s=true):s.size<=8:=by
 unfold kY at h;simp at h;omega
theorem D2{α β:Type}[Inhabited α](f:α->β){l:List α}{k:Nat}(h:k<l.length):(l.take (k+1)).map f=(l.take k).map f++[f (nth l k)]:=by
 rw [List.take_succ_eq_append_getElem h,List.map_append]
 simp [nth,h]
end
end Go.Proofs.YtimickglpboilaaGreatDoor
