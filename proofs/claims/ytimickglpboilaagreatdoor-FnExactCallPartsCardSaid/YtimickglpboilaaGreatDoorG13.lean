/- Contracts of the library's functions that are called here, laid at this seat's program by the kit's tool (lay-shelf, lay-plain); those that are needed. -/
import Derived.Shelf.Strings.Builder1
import Derived.Shelf.Strings.Builder2
import Derived.Shelf.Strings.OnBuilder
import Derived.Shelf.Strconv.Atoi
import Derived.Shelf.Strconv.Itoa0
import Derived.Shelf.Strconv.Itoa1
import Derived.Shelf.LaysM
import Derived.Shelf.Strconv.Itoa2
import Derived.Shelf.Strconv.Itoa3
import Derived.Shelf.Strconv.AtoiErrFast
import Derived.Shelf.Strconv.ParseIntEmpty
import Derived.Shelf.Strconv.AtoiFail
import Derived.Shelf.Strconv.Clone
import Derived.Shelf.Strconv.SyntaxError
import Derived.Shelf.LaysC
import Derived.Shelf.Strconv.ToError
import Derived.Shelf.Strconv.AtoiErr
import Derived.Shelf.Strconv.ErrVar
import Derived.Shelf.Strconv.Lower
import Derived.Shelf.Strconv.ParseUint10
import Derived.Shelf.Strconv.ParseUint10Empty
import Derived.Shelf.Strconv.ParseUint10Any
import Derived.Shelf.Strconv.ParseInt10
import Derived.Shelf.Strconv.AtoiLong
import Derived.Shelf.Strconv.AtoiInnerAll
import Derived.Shelf.Strconv.RangeError
import Derived.Shelf.Strconv.ToErrorRange
import Derived.Shelf.Strconv.AtoiAll
import Derived.Shelf.Strconv.ErrVarAll
import Derived.Shelf.Strings.Search1
import Derived.Shelf.Strings.Search2
import Derived.Shelf.Strings.Search3
import Derived.Shelf.Strings.Cut
import Derived.Shelf.Strings.Count
import Derived.Shelf.Strings.Shaped
import Derived.Shelf.Strings.Split
import Derived.Shelf.Strings.SplitShaped
import Derived.Shelf.Unicode.DecodeSlow
import Derived.Test.YtimickglpboilaaGreatDoorProg
import Derived.Test.YtimickglpboilaaGreatDoorG11
import Derived.Test.YtimickglpboilaaGreatDoorG12
import Derived.Test.YtimickglpboilaaGreatDoorG0
set_option linter.unusedVariables false
set_option linter.unusedSimpArgs false
set_option maxRecDepth 100000
set_option linter.unusedSectionVars false
namespace Go.Proofs
open Go.Shelf
def Tryz.NW:Go.Shelf.Ren:=⟨fun|156=>114|165=>119|166=>120|169=>121|240=>129|241=>130|276=>147|277=>148|n=>n,fun|31=>114|9=>9|3=>3|4=>4|0=>0|20=>20|72=>140|76=>136|70=>138|37=>107|75=>135|127=>147|164=>164|5=>5|80=>142|n=>n,fun|n=>n⟩
theorem Tryz.NV:Go.Proofs.Lays.n156 Tryz.prog Tryz.NW:={
 mixed:=by kernel_rfl
 f156:=Tryz.func114.trans (congrArg some (by kernel_rfl))
 f165:=Tryz.func119.trans (congrArg some (by kernel_rfl))
 f166:=Tryz.func120.trans (congrArg some (by kernel_rfl))
 f169:=Tryz.func121.trans (congrArg some (by kernel_rfl))
 f240:=Tryz.func129.trans (congrArg some (by kernel_rfl))
 f241:=Tryz.func130.trans (congrArg some (by kernel_rfl))
 f276:=Tryz.func147.trans (congrArg some (by kernel_rfl))
 f277:=Tryz.func148.trans (congrArg some (by kernel_rfl))
 t0:=Tryz.underlying0
 a0:=Tryz.isAgg0
 z0:=Tryz.sizeOf0
 v0:=Tryz.zeroValue0
 t3:=Tryz.underlying3
 a3:=Tryz.isAgg3
 z3:=Tryz.sizeOf3
 v3:=Tryz.zeroValue3
 t4:=Tryz.underlying4
 a4:=Tryz.isAgg4
 z4:=Tryz.sizeOf4
 v4:=Tryz.zeroValue4
 t9:=Tryz.underlying9
 a9:=Tryz.isAgg9
 z9:=Tryz.sizeOf9
 v9:=Tryz.zeroValue9
 t20:=Tryz.underlying20
 a20:=Tryz.isAgg20
 z20:=Tryz.sizeOf20
 v20:=Tryz.zeroValue20
 t31:=Tryz.underlying114
 a31:=Tryz.isAgg114
 z31:=Tryz.sizeOf114
 v31:=Tryz.zeroValue114
 t37:=Tryz.underlying107
 a37:=Tryz.isAgg107
 z37:=Tryz.sizeOf107
 v37:=Tryz.zeroValue107
 t70:=Tryz.underlying138
 a70:=Tryz.isAgg138
 z70:=Tryz.sizeOf138
 v70:=Tryz.zeroValue138
 t72:=Tryz.underlying140
 a72:=Tryz.isAgg140
 z72:=Tryz.sizeOf140
 v72:=Tryz.zeroValue140
 t75:=Tryz.underlying135
 a75:=Tryz.isAgg135
 z75:=Tryz.sizeOf135
 v75:=Tryz.zeroValue135
 t76:=Tryz.underlying136
 a76:=Tryz.isAgg136
 z76:=Tryz.sizeOf136
 v76:=Tryz.zeroValue136
 t127:=Tryz.underlying147
 a127:=Tryz.isAgg147
 z127:=Tryz.sizeOf147
 v127:=Tryz.zeroValue147
 t164:=Tryz.underlying164
 a164:=Tryz.isAgg164
 z164:=Tryz.sizeOf164
 v164:=Tryz.zeroValue164}
theorem Tryz.Jq:Builder.Extra Tryz.prog Tryz.NW:={
 sizeBuilder:=by kernel_rfl
 liesBuilder:=by kernel_rfl
 t5:=Tryz.underlying5
 a5:=Tryz.isAgg5
 z5:=Tryz.sizeOf5
 v5:=Tryz.zeroValue5
 infoByte:=by kernel_rfl
 cellsByte:=by kernel_rfl
 sizeByte:=by kernel_rfl
 neB5:=by decide}
open Go.RowKit in
theorem Tryz.strings_Join_none(a:Option Addr)(c:Nat)(sep:ByteArray)(w:World) :
  Calls Tryz.prog 114 #[.slice a 0 c,.string sep] w fun e w'=>e= .returned (.string ⟨#[]⟩)/\w'=w:=Any.strings_Join_none Tryz.NV Tryz.Jq a c sep w
open Go.RowKit in
theorem Tryz.strings_Join(bk o c:Nat)(xs:List ByteArray)(sep:ByteArray)(w:World)(hcells: ∀(j:Nat) x,xs[j]? =some x->w.cell? ⟨bk,o+j,none⟩=some (.string x))(hbk:bk<w.heap.size)(hN:xs.length<=140737488355328)(hcap:xs.length<=c)(hlen:(Lib.join (xs.map (·.data.toList)) sep.data.toList).length<=140737488355328) :
  Calls Tryz.prog 114 #[.slice (some ⟨bk,o,none⟩) xs.length c,.string sep] w fun e w'=>e= .returned (.string ⟨(Lib.join (xs.map (·.data.toList)) sep.data.toList).toArray⟩)/\Below w.heap.size w w':=Any.strings_Join Tryz.NV Tryz.Jq bk o c xs sep w hcells hbk hN hcap hlen
def Tryz.aak:Go.Shelf.Ren:=⟨fun|172=>117|244=>126|245=>127|247=>138|279=>139|280=>140|281=>141|282=>142|287=>152|316=>153|171=>113|205=>154|321=>160|322=>161|243=>118|246=>128|283=>143|284=>144|285=>145|286=>146|129=>156|317=>155|318=>157|319=>158|320=>159|337=>162|338=>163|n=>n,fun|9=>9|3=>3|75=>135|76=>136|4=>4|5=>5|167=>152|37=>107|0=>0|85=>153|2=>2|168=>155|53=>159|175=>170|46=>151|210=>174|127=>147|145=>187|143=>185|21=>21|171=>158|173=>162|212=>177|51=>167|20=>20|213=>178|232=>189|233=>190|80=>142|n=>n,fun|15=>1|16=>2|17=>3|18=>6|19=>7|n=>n⟩
theorem Tryz.aaj:Go.Proofs.Lays.n172 Tryz.prog Tryz.aak:={
 mixed:=by kernel_rfl
 f129:=Tryz.func156.trans (congrArg some (by kernel_rfl))
 f171:=Tryz.func113.trans (congrArg some (by kernel_rfl))
 f172:=Tryz.func117.trans (congrArg some (by kernel_rfl))
 f205:=Tryz.func154.trans (congrArg some (by kernel_rfl))
 f243:=Tryz.func118.trans (congrArg some (by kernel_rfl))
 f244:=Tryz.func126.trans (congrArg some (by kernel_rfl))
 f245:=Tryz.func127.trans (congrArg some (by kernel_rfl))
 f246:=Tryz.func128.trans (congrArg some (by kernel_rfl))
 f247:=Tryz.func138.trans (congrArg some (by kernel_rfl))
 f279:=Tryz.func139.trans (congrArg some (by kernel_rfl))
 f280:=Tryz.func140.trans (congrArg some (by kernel_rfl))
 f281:=Tryz.func141.trans (congrArg some (by kernel_rfl))
 f282:=Tryz.func142.trans (congrArg some (by kernel_rfl))
 f283:=Tryz.func143.trans (congrArg some (by kernel_rfl))
 f284:=Tryz.func144.trans (congrArg some (by kernel_rfl))
 f285:=Tryz.func145.trans (congrArg some (by kernel_rfl))
 f286:=Tryz.func146.trans (congrArg some (by kernel_rfl))
 f287:=Tryz.func152.trans (congrArg some (by kernel_rfl))
 f316:=Tryz.func153.trans (congrArg some (by kernel_rfl))
 f317:=Tryz.func155.trans (congrArg some (by kernel_rfl))
 f318:=Tryz.func157.trans (congrArg some (by kernel_rfl))
 f319:=Tryz.func158.trans (congrArg some (by kernel_rfl))
 f320:=Tryz.func159.trans (congrArg some (by kernel_rfl))
 f321:=Tryz.func160.trans (congrArg some (by kernel_rfl))
 f322:=Tryz.func161.trans (congrArg some (by kernel_rfl))
 f337:=Tryz.func162.trans (congrArg some (by kernel_rfl))
 f338:=Tryz.func163.trans (congrArg some (by kernel_rfl))
 t0:=Tryz.underlying0
 a0:=Tryz.isAgg0
 z0:=Tryz.sizeOf0
 v0:=Tryz.zeroValue0
 t2:=Tryz.underlying2
 a2:=Tryz.isAgg2
 z2:=Tryz.sizeOf2
 v2:=Tryz.zeroValue2
 t3:=Tryz.underlying3
 a3:=Tryz.isAgg3
 z3:=Tryz.sizeOf3
 v3:=Tryz.zeroValue3
 t4:=Tryz.underlying4
 a4:=Tryz.isAgg4
 z4:=Tryz.sizeOf4
 v4:=Tryz.zeroValue4
 t5:=Tryz.underlying5
 a5:=Tryz.isAgg5
 z5:=Tryz.sizeOf5
 v5:=Tryz.zeroValue5
 t9:=Tryz.underlying9
 a9:=Tryz.isAgg9
 z9:=Tryz.sizeOf9
 v9:=Tryz.zeroValue9
 t20:=Tryz.underlying20
 a20:=Tryz.isAgg20
 z20:=Tryz.sizeOf20
 v20:=Tryz.zeroValue20
 t21:=Tryz.underlying21
 a21:=Tryz.isAgg21
 z21:=Tryz.sizeOf21
 v21:=Tryz.zeroValue21
 t37:=Tryz.underlying107
 a37:=Tryz.isAgg107
 z37:=Tryz.sizeOf107
 v37:=Tryz.zeroValue107
 t46:=Tryz.underlying151
 a46:=Tryz.isAgg151
 z46:=Tryz.sizeOf151
 v46:=Tryz.zeroValue151
 t51:=Tryz.underlying167
 a51:=Tryz.isAgg167
 z51:=Tryz.sizeOf167
 v51:=Tryz.zeroValue167
 t53:=Tryz.underlying159
 a53:=Tryz.isAgg159
 z53:=Tryz.sizeOf159
 v53:=Tryz.zeroValue159
 t75:=Tryz.underlying135
 a75:=Tryz.isAgg135
 z75:=Tryz.sizeOf135
 v75:=Tryz.zeroValue135
 t76:=Tryz.underlying136
 a76:=Tryz.isAgg136
 z76:=Tryz.sizeOf136
 v76:=Tryz.zeroValue136
 t85:=Tryz.underlying153
 a85:=Tryz.isAgg153
 z85:=Tryz.sizeOf153
 v85:=Tryz.zeroValue153
 t127:=Tryz.underlying147
 a127:=Tryz.isAgg147
 z127:=Tryz.sizeOf147
 v127:=Tryz.zeroValue147
 t143:=Tryz.underlying185
 a143:=Tryz.isAgg185
 z143:=Tryz.sizeOf185
 v143:=Tryz.zeroValue185
 t145:=Tryz.underlying187
 a145:=Tryz.isAgg187
 z145:=Tryz.sizeOf187
 v145:=Tryz.zeroValue187
 t167:=Tryz.underlying152
 a167:=Tryz.isAgg152
 z167:=Tryz.sizeOf152
 v167:=Tryz.zeroValue152
 t168:=Tryz.underlying155
 a168:=Tryz.isAgg155
 z168:=Tryz.sizeOf155
 v168:=Tryz.zeroValue155
 t171:=Tryz.underlying158
 a171:=Tryz.isAgg158
 z171:=Tryz.sizeOf158
 v171:=Tryz.zeroValue158
 t173:=Tryz.underlying162
 a173:=Tryz.isAgg162
 z173:=Tryz.sizeOf162
 v173:=Tryz.zeroValue162
 t175:=Tryz.underlying170
 a175:=Tryz.isAgg170
 z175:=Tryz.sizeOf170
 v175:=Tryz.zeroValue170
 t210:=Tryz.underlying174
 a210:=Tryz.isAgg174
 z210:=Tryz.sizeOf174
 v210:=Tryz.zeroValue174
 t212:=Tryz.underlying177
 a212:=Tryz.isAgg177
 z212:=Tryz.sizeOf177
 v212:=Tryz.zeroValue177
 t213:=Tryz.underlying178
 a213:=Tryz.isAgg178
 z213:=Tryz.sizeOf178
 t232:=Tryz.underlying189
 a232:=Tryz.isAgg189
 z232:=Tryz.sizeOf189
 v232:=Tryz.zeroValue189
 t233:=Tryz.underlying190
 a233:=Tryz.isAgg190
 z233:=Tryz.sizeOf190
 v233:=Tryz.zeroValue190
 g15:=by kernel_rfl
 g16:=by kernel_rfl
 g17:=by kernel_rfl
 g18:=by kernel_rfl
 g19:=by kernel_rfl}
open Go.RowKit in
theorem Tryz.strconv_Atoi(s:ByteArray)(n:Int)(hl:s.size<=18)(h:Lib.atoi s.data.toList=some n)(w:World) :
  Calls Tryz.prog 117 #[.string s] w fun e w'=>e= .returned (.tuple #[.int .i64 n,.nilIface])/\ ∃t,w'=Lib.bytesWorld w 5 t:=Any.strconv_Atoi Tryz.aaj s n hl h w
def Tryz.aao:Go.Shelf.Ren:=⟨fun|171=>113|243=>118|246=>128|283=>143|284=>144|285=>145|286=>146|129=>156|317=>155|318=>157|319=>158|320=>159|337=>162|338=>163|n=>n,fun|3=>3|9=>9|2=>2|4=>4|171=>158|0=>0|53=>159|37=>107|5=>5|173=>162|212=>177|51=>167|20=>20|213=>178|46=>151|232=>189|233=>190|n=>n,fun|17=>3|18=>6|19=>7|n=>n⟩
theorem Tryz.aan:Go.Proofs.LaysM.n171 Tryz.prog Tryz.aao:={
 mixed:=by kernel_rfl
 f129:=Tryz.func156.trans (congrArg some (by kernel_rfl))
 f171:=Tryz.func113.trans (congrArg some (by kernel_rfl))
 f243:=Tryz.func118.trans (congrArg some (by kernel_rfl))
 f246:=Tryz.func128.trans (congrArg some (by kernel_rfl))
 f283:=Tryz.func143.trans (congrArg some (by kernel_rfl))
 f284:=Tryz.func144.trans (congrArg some (by kernel_rfl))
 f285:=Tryz.func145.trans (congrArg some (by kernel_rfl))
 f286:=Tryz.func146.trans (congrArg some (by kernel_rfl))
 f317:=Tryz.func155.trans (congrArg some (by kernel_rfl))
 f318:=Tryz.func157.trans (congrArg some (by kernel_rfl))
 f319:=Tryz.func158.trans (congrArg some (by kernel_rfl))
 f320:=Tryz.func159.trans (congrArg some (by kernel_rfl))
 f337:=Tryz.func162.trans (congrArg some (by kernel_rfl))
 f338:=Tryz.func163.trans (congrArg some (by kernel_rfl))
 t0:=Tryz.underlying0
 a0:=Tryz.isAgg0
 z0:=Tryz.sizeOf0
 v0:=Tryz.zeroValue0
 t2:=Tryz.underlying2
 a2:=Tryz.isAgg2
 z2:=Tryz.sizeOf2
 v2:=Tryz.zeroValue2
 t3:=Tryz.underlying3
 a3:=Tryz.isAgg3
 z3:=Tryz.sizeOf3
 v3:=Tryz.zeroValue3
 t4:=Tryz.underlying4
 a4:=Tryz.isAgg4
 z4:=Tryz.sizeOf4
 v4:=Tryz.zeroValue4
 t5:=Tryz.underlying5
 a5:=Tryz.isAgg5
 z5:=Tryz.sizeOf5
 v5:=Tryz.zeroValue5
 t9:=Tryz.underlying9
 a9:=Tryz.isAgg9
 z9:=Tryz.sizeOf9
 v9:=Tryz.zeroValue9
 t20:=Tryz.underlying20
 a20:=Tryz.isAgg20
 z20:=Tryz.sizeOf20
 v20:=Tryz.zeroValue20
 t37:=Tryz.underlying107
 a37:=Tryz.isAgg107
 z37:=Tryz.sizeOf107
 v37:=Tryz.zeroValue107
 t46:=Tryz.underlying151
 a46:=Tryz.isAgg151
 z46:=Tryz.sizeOf151
 v46:=Tryz.zeroValue151
 t51:=Tryz.underlying167
 a51:=Tryz.isAgg167
 z51:=Tryz.sizeOf167
 v51:=Tryz.zeroValue167
 t53:=Tryz.underlying159
 a53:=Tryz.isAgg159
 z53:=Tryz.sizeOf159
 v53:=Tryz.zeroValue159
 t171:=Tryz.underlying158
 a171:=Tryz.isAgg158
 z171:=Tryz.sizeOf158
 v171:=Tryz.zeroValue158
 t173:=Tryz.underlying162
 a173:=Tryz.isAgg162
 z173:=Tryz.sizeOf162
 v173:=Tryz.zeroValue162
 t212:=Tryz.underlying177
 a212:=Tryz.isAgg177
 z212:=Tryz.sizeOf177
 v212:=Tryz.zeroValue177
 t213:=Tryz.underlying178
 a213:=Tryz.isAgg178
 z213:=Tryz.sizeOf178
 t232:=Tryz.underlying189
 a232:=Tryz.isAgg189
 z232:=Tryz.sizeOf189
 v232:=Tryz.zeroValue189
 t233:=Tryz.underlying190
 a233:=Tryz.isAgg190
 z233:=Tryz.sizeOf190
 v233:=Tryz.zeroValue190
 g17:=by kernel_rfl
 g18:=by kernel_rfl
 g19:=by kernel_rfl
 i0:=by kernel_rfl
 i2:=by kernel_rfl
 i3:=by kernel_rfl
 i4:=by kernel_rfl
 i5:=by kernel_rfl
 i9:=by kernel_rfl
 i20:=by kernel_rfl
 i37:=by kernel_rfl
 i46:=by kernel_rfl
 i51:=by kernel_rfl
 i53:=by kernel_rfl
 i171:=by kernel_rfl
 i173:=by kernel_rfl
 i212:=by kernel_rfl
 i232:=by kernel_rfl
 i233:=by kernel_rfl
 m17:=by kernel_rfl
 m18:=by kernel_rfl
 m19:=by kernel_rfl}
def Tryz.aai:Go.Shelf.Ren:=⟨fun|171=>113|243=>118|246=>128|283=>143|284=>144|285=>145|286=>146|129=>156|317=>155|318=>157|319=>158|320=>159|337=>162|338=>163|n=>n,fun|3=>3|9=>9|2=>2|4=>4|171=>158|0=>0|53=>159|37=>107|5=>5|173=>162|212=>177|51=>167|20=>20|213=>178|46=>151|232=>189|233=>190|n=>n,fun|17=>3|18=>6|19=>7|n=>n⟩
theorem Tryz.aah:Go.Proofs.Lays.n171 Tryz.prog Tryz.aai:={
 mixed:=by kernel_rfl
 f129:=Tryz.func156.trans (congrArg some (by kernel_rfl))
 f171:=Tryz.func113.trans (congrArg some (by kernel_rfl))
 f243:=Tryz.func118.trans (congrArg some (by kernel_rfl))
 f246:=Tryz.func128.trans (congrArg some (by kernel_rfl))
 f283:=Tryz.func143.trans (congrArg some (by kernel_rfl))
 f284:=Tryz.func144.trans (congrArg some (by kernel_rfl))
 f285:=Tryz.func145.trans (congrArg some (by kernel_rfl))
 f286:=Tryz.func146.trans (congrArg some (by kernel_rfl))
 f317:=Tryz.func155.trans (congrArg some (by kernel_rfl))
 f318:=Tryz.func157.trans (congrArg some (by kernel_rfl))
 f319:=Tryz.func158.trans (congrArg some (by kernel_rfl))
 f320:=Tryz.func159.trans (congrArg some (by kernel_rfl))
 f337:=Tryz.func162.trans (congrArg some (by kernel_rfl))
 f338:=Tryz.func163.trans (congrArg some (by kernel_rfl))
 t0:=Tryz.underlying0
 a0:=Tryz.isAgg0
 z0:=Tryz.sizeOf0
 v0:=Tryz.zeroValue0
 t2:=Tryz.underlying2
 a2:=Tryz.isAgg2
 z2:=Tryz.sizeOf2
 v2:=Tryz.zeroValue2
 t3:=Tryz.underlying3
 a3:=Tryz.isAgg3
 z3:=Tryz.sizeOf3
 v3:=Tryz.zeroValue3
 t4:=Tryz.underlying4
 a4:=Tryz.isAgg4
 z4:=Tryz.sizeOf4
 v4:=Tryz.zeroValue4
 t5:=Tryz.underlying5
 a5:=Tryz.isAgg5
 z5:=Tryz.sizeOf5
 v5:=Tryz.zeroValue5
 t9:=Tryz.underlying9
 a9:=Tryz.isAgg9
 z9:=Tryz.sizeOf9
 v9:=Tryz.zeroValue9
 t20:=Tryz.underlying20
 a20:=Tryz.isAgg20
 z20:=Tryz.sizeOf20
 v20:=Tryz.zeroValue20
 t37:=Tryz.underlying107
 a37:=Tryz.isAgg107
 z37:=Tryz.sizeOf107
 v37:=Tryz.zeroValue107
 t46:=Tryz.underlying151
 a46:=Tryz.isAgg151
 z46:=Tryz.sizeOf151
 v46:=Tryz.zeroValue151
 t51:=Tryz.underlying167
 a51:=Tryz.isAgg167
 z51:=Tryz.sizeOf167
 v51:=Tryz.zeroValue167
 t53:=Tryz.underlying159
 a53:=Tryz.isAgg159
 z53:=Tryz.sizeOf159
 v53:=Tryz.zeroValue159
 t171:=Tryz.underlying158
 a171:=Tryz.isAgg158
 z171:=Tryz.sizeOf158
 v171:=Tryz.zeroValue158
 t173:=Tryz.underlying162
 a173:=Tryz.isAgg162
 z173:=Tryz.sizeOf162
 v173:=Tryz.zeroValue162
 t212:=Tryz.underlying177
 a212:=Tryz.isAgg177
 z212:=Tryz.sizeOf177
 v212:=Tryz.zeroValue177
 t213:=Tryz.underlying178
 a213:=Tryz.isAgg178
 z213:=Tryz.sizeOf178
 t232:=Tryz.underlying189
 a232:=Tryz.isAgg189
 z232:=Tryz.sizeOf189
 v232:=Tryz.zeroValue189
 t233:=Tryz.underlying190
 a233:=Tryz.isAgg190
 z233:=Tryz.sizeOf190
 v233:=Tryz.zeroValue190
 g17:=by kernel_rfl
 g18:=by kernel_rfl
 g19:=by kernel_rfl}
open Go.RowKit Go.Sort Go.Lib in
theorem Tryz.strconv_Itoa_small(i:Nat)(hi:i<100)(w:World) :
  Calls Tryz.prog 113 #[.int .i64 i] w fun e w'=>e= .returned (.string ⟨(Lib.decDigits i).toArray⟩)/\w'=w:=Any.strconv_Itoa_small Tryz.aah i hi w
def Tryz.aam:Go.Shelf.Ren:=⟨fun|172=>117|244=>126|245=>127|247=>138|279=>139|280=>140|281=>141|282=>142|287=>152|316=>153|171=>113|205=>154|321=>160|322=>161|243=>118|246=>128|283=>143|284=>144|285=>145|286=>146|129=>156|317=>155|318=>157|319=>158|320=>159|337=>162|338=>163|n=>n,fun|9=>9|3=>3|75=>135|76=>136|4=>4|5=>5|167=>152|37=>107|0=>0|85=>153|2=>2|168=>155|53=>159|175=>170|46=>151|210=>174|127=>147|145=>187|143=>185|21=>21|171=>158|173=>162|212=>177|51=>167|20=>20|213=>178|232=>189|233=>190|80=>142|n=>n,fun|15=>1|16=>2|17=>3|18=>6|19=>7|n=>n⟩
theorem Tryz.aal:Go.Proofs.LaysC.n172 Tryz.prog Tryz.aam:={
 mixed:=by kernel_rfl
 f129:=Tryz.func156.trans (congrArg some (by kernel_rfl))
 f171:=Tryz.func113.trans (congrArg some (by kernel_rfl))
 f172:=Tryz.func117.trans (congrArg some (by kernel_rfl))
 f205:=Tryz.func154.trans (congrArg some (by kernel_rfl))
 f243:=Tryz.func118.trans (congrArg some (by kernel_rfl))
 f244:=Tryz.func126.trans (congrArg some (by kernel_rfl))
 f245:=Tryz.func127.trans (congrArg some (by kernel_rfl))
 f246:=Tryz.func128.trans (congrArg some (by kernel_rfl))
 f247:=Tryz.func138.trans (congrArg some (by kernel_rfl))
 f279:=Tryz.func139.trans (congrArg some (by kernel_rfl))
 f280:=Tryz.func140.trans (congrArg some (by kernel_rfl))
 f281:=Tryz.func141.trans (congrArg some (by kernel_rfl))
 f282:=Tryz.func142.trans (congrArg some (by kernel_rfl))
 f283:=Tryz.func143.trans (congrArg some (by kernel_rfl))
 f284:=Tryz.func144.trans (congrArg some (by kernel_rfl))
 f285:=Tryz.func145.trans (congrArg some (by kernel_rfl))
 f286:=Tryz.func146.trans (congrArg some (by kernel_rfl))
 f287:=Tryz.func152.trans (congrArg some (by kernel_rfl))
 f316:=Tryz.func153.trans (congrArg some (by kernel_rfl))
 f317:=Tryz.func155.trans (congrArg some (by kernel_rfl))
 f318:=Tryz.func157.trans (congrArg some (by kernel_rfl))
 f319:=Tryz.func158.trans (congrArg some (by kernel_rfl))
 f320:=Tryz.func159.trans (congrArg some (by kernel_rfl))
 f321:=Tryz.func160.trans (congrArg some (by kernel_rfl))
 f322:=Tryz.func161.trans (congrArg some (by kernel_rfl))
 f337:=Tryz.func162.trans (congrArg some (by kernel_rfl))
 f338:=Tryz.func163.trans (congrArg some (by kernel_rfl))
 t0:=Tryz.underlying0
 a0:=Tryz.isAgg0
 z0:=Tryz.sizeOf0
 v0:=Tryz.zeroValue0
 t2:=Tryz.underlying2
 a2:=Tryz.isAgg2
 z2:=Tryz.sizeOf2
 v2:=Tryz.zeroValue2
 t3:=Tryz.underlying3
 a3:=Tryz.isAgg3
 z3:=Tryz.sizeOf3
 v3:=Tryz.zeroValue3
 t4:=Tryz.underlying4
 a4:=Tryz.isAgg4
 z4:=Tryz.sizeOf4
 v4:=Tryz.zeroValue4
 t5:=Tryz.underlying5
 a5:=Tryz.isAgg5
 z5:=Tryz.sizeOf5
 v5:=Tryz.zeroValue5
 t9:=Tryz.underlying9
 a9:=Tryz.isAgg9
 z9:=Tryz.sizeOf9
 v9:=Tryz.zeroValue9
 t20:=Tryz.underlying20
 a20:=Tryz.isAgg20
 z20:=Tryz.sizeOf20
 v20:=Tryz.zeroValue20
 t21:=Tryz.underlying21
 a21:=Tryz.isAgg21
 z21:=Tryz.sizeOf21
 v21:=Tryz.zeroValue21
 t37:=Tryz.underlying107
 a37:=Tryz.isAgg107
 z37:=Tryz.sizeOf107
 v37:=Tryz.zeroValue107
 t46:=Tryz.underlying151
 a46:=Tryz.isAgg151
 z46:=Tryz.sizeOf151
 v46:=Tryz.zeroValue151
 t51:=Tryz.underlying167
 a51:=Tryz.isAgg167
 z51:=Tryz.sizeOf167
 v51:=Tryz.zeroValue167
 t53:=Tryz.underlying159
 a53:=Tryz.isAgg159
 z53:=Tryz.sizeOf159
 v53:=Tryz.zeroValue159
 t75:=Tryz.underlying135
 a75:=Tryz.isAgg135
 z75:=Tryz.sizeOf135
 v75:=Tryz.zeroValue135
 t76:=Tryz.underlying136
 a76:=Tryz.isAgg136
 z76:=Tryz.sizeOf136
 v76:=Tryz.zeroValue136
 t85:=Tryz.underlying153
 a85:=Tryz.isAgg153
 z85:=Tryz.sizeOf153
 v85:=Tryz.zeroValue153
 t127:=Tryz.underlying147
 a127:=Tryz.isAgg147
 z127:=Tryz.sizeOf147
 v127:=Tryz.zeroValue147
 t143:=Tryz.underlying185
 a143:=Tryz.isAgg185
 z143:=Tryz.sizeOf185
 v143:=Tryz.zeroValue185
 t145:=Tryz.underlying187
 a145:=Tryz.isAgg187
 z145:=Tryz.sizeOf187
 v145:=Tryz.zeroValue187
 t167:=Tryz.underlying152
 a167:=Tryz.isAgg152
 z167:=Tryz.sizeOf152
 v167:=Tryz.zeroValue152
 t168:=Tryz.underlying155
 a168:=Tryz.isAgg155
 z168:=Tryz.sizeOf155
 v168:=Tryz.zeroValue155
 t171:=Tryz.underlying158
 a171:=Tryz.isAgg158
 z171:=Tryz.sizeOf158
 v171:=Tryz.zeroValue158
 t173:=Tryz.underlying162
 a173:=Tryz.isAgg162
 z173:=Tryz.sizeOf162
 v173:=Tryz.zeroValue162
 t175:=Tryz.underlying170
 a175:=Tryz.isAgg170
 z175:=Tryz.sizeOf170
 v175:=Tryz.zeroValue170
 t210:=Tryz.underlying174
 a210:=Tryz.isAgg174
 z210:=Tryz.sizeOf174
 v210:=Tryz.zeroValue174
 t212:=Tryz.underlying177
 a212:=Tryz.isAgg177
 z212:=Tryz.sizeOf177
 v212:=Tryz.zeroValue177
 t213:=Tryz.underlying178
 a213:=Tryz.isAgg178
 z213:=Tryz.sizeOf178
 t232:=Tryz.underlying189
 a232:=Tryz.isAgg189
 z232:=Tryz.sizeOf189
 v232:=Tryz.zeroValue189
 t233:=Tryz.underlying190
 a233:=Tryz.isAgg190
 z233:=Tryz.sizeOf190
 v233:=Tryz.zeroValue190
 g15:=by kernel_rfl
 g16:=by kernel_rfl
 g17:=by kernel_rfl
 g18:=by kernel_rfl
 g19:=by kernel_rfl
 t80:=Tryz.underlying142
 a80:=Tryz.isAgg142
 z80:=Tryz.sizeOf142
 v80:=Tryz.zeroValue142
 i0:=by kernel_rfl
 i2:=by kernel_rfl
 i3:=by kernel_rfl
 i4:=by kernel_rfl
 i5:=by kernel_rfl
 i9:=by kernel_rfl
 i20:=by kernel_rfl
 i21:=by kernel_rfl
 i37:=by kernel_rfl
 i46:=by kernel_rfl
 i51:=by kernel_rfl
 i53:=by kernel_rfl
 i75:=by kernel_rfl
 i76:=by kernel_rfl
 i80:=by kernel_rfl
 i85:=by kernel_rfl
 i127:=by kernel_rfl
 i143:=by kernel_rfl
 i145:=by kernel_rfl
 i167:=by kernel_rfl
 i168:=by kernel_rfl
 i171:=by kernel_rfl
 i173:=by kernel_rfl
 i175:=by kernel_rfl
 i210:=by kernel_rfl
 i212:=by kernel_rfl
 i232:=by kernel_rfl
 i233:=by kernel_rfl
 m15:=by kernel_rfl
 m16:=by kernel_rfl
 m17:=by kernel_rfl
 m18:=by kernel_rfl
 m19:=by kernel_rfl
 c0:=by kernel_rfl
 c2:=by kernel_rfl
 c3:=by kernel_rfl
 c4:=by kernel_rfl
 c5:=by kernel_rfl
 c9:=by kernel_rfl
 c20:=by kernel_rfl
 c21:=by kernel_rfl
 c37:=by kernel_rfl
 c46:=by kernel_rfl
 c51:=by kernel_rfl
 c53:=by kernel_rfl
 c75:=by kernel_rfl
 c76:=by kernel_rfl
 c80:=by kernel_rfl
 c85:=by kernel_rfl
 c127:=by kernel_rfl
 c143:=by kernel_rfl
 c145:=by kernel_rfl
 c167:=by kernel_rfl
 c168:=by kernel_rfl
 c171:=by kernel_rfl
 c173:=by kernel_rfl
 c175:=by kernel_rfl
 c210:=by kernel_rfl
 c212:=by kernel_rfl
 c213:=by kernel_rfl
 c232:=by kernel_rfl
 c233:=by kernel_rfl}
open Go.RowKit in
theorem Tryz.strconv_Atoi_err(s:ByteArray)(hl:s.size<=18)(h:Lib.atoi s.data.toList=none)(ev:Value)(w:World)(hv:w.cell? ⟨1,0,none⟩=some ev)(hev:ev= .nilIface\/ ∃te pe,ev= .iface te pe) :
  Calls Tryz.prog 117 #[.string s] w fun e w'=> ∃N,e= .returned (.tuple #[.int .i64 0,.iface 155 (.pointer (some ⟨N,0,none⟩))])/\w.heap.size<=N/\w'.heap[N]? =some (.cells #[.string ⟨#[65,116,111,105]⟩,.string s,ev] 174 (0,0))/\Below w.heap.size w w':=Any.strconv_Atoi_err Tryz.aal s hl h ev w hv hev
def Tryz.aae:Go.Shelf.Ren:=⟨fun|145=>105|220=>116|219=>125|217=>134|225=>135|224=>136|267=>137|266=>150|314=>151|n=>n,fun|9=>9|4=>4|59=>129|3=>3|5=>5|46=>151|146=>168|51=>167|n=>n,fun|1=>0|n=>n⟩
theorem Tryz.aad:Go.Proofs.Lays.n145 Tryz.prog Tryz.aae:={
 mixed:=by kernel_rfl
 f145:=Tryz.func105.trans (congrArg some (by kernel_rfl))
 f217:=Tryz.func134.trans (congrArg some (by kernel_rfl))
 f219:=Tryz.func125.trans (congrArg some (by kernel_rfl))
 f220:=Tryz.func116.trans (congrArg some (by kernel_rfl))
 f224:=Tryz.func136.trans (congrArg some (by kernel_rfl))
 f225:=Tryz.func135.trans (congrArg some (by kernel_rfl))
 f266:=Tryz.func150.trans (congrArg some (by kernel_rfl))
 f267:=Tryz.func137.trans (congrArg some (by kernel_rfl))
 f314:=Tryz.func151.trans (congrArg some (by kernel_rfl))
 t3:=Tryz.underlying3
 a3:=Tryz.isAgg3
 z3:=Tryz.sizeOf3
 v3:=Tryz.zeroValue3
 t4:=Tryz.underlying4
 a4:=Tryz.isAgg4
 z4:=Tryz.sizeOf4
 v4:=Tryz.zeroValue4
 t5:=Tryz.underlying5
 a5:=Tryz.isAgg5
 z5:=Tryz.sizeOf5
 v5:=Tryz.zeroValue5
 t9:=Tryz.underlying9
 a9:=Tryz.isAgg9
 z9:=Tryz.sizeOf9
 v9:=Tryz.zeroValue9
 t46:=Tryz.underlying151
 a46:=Tryz.isAgg151
 z46:=Tryz.sizeOf151
 v46:=Tryz.zeroValue151
 t51:=Tryz.underlying167
 a51:=Tryz.isAgg167
 z51:=Tryz.sizeOf167
 v51:=Tryz.zeroValue167
 t59:=Tryz.underlying129
 a59:=Tryz.isAgg129
 z59:=Tryz.sizeOf129
 v59:=Tryz.zeroValue129
 t146:=Tryz.underlying168
 a146:=Tryz.isAgg168
 z146:=Tryz.sizeOf168
 v146:=Tryz.zeroValue168
 g1:=by kernel_rfl}
open Go.RowKit Go.Lib in
theorem Tryz.strings_Cut(s sep:ByteArray)(m:Int)(w:World)(hs:s.size<4294967281)(hm:w.cell? ⟨0,0,none⟩=some (.int .i64 m)) :
  Calls Tryz.prog 105 #[.string s,.string sep] w fun e w'=>e= .returned (.tuple #[.string ⟨(Lib.cut s.data.toList sep.data.toList).1.toArray⟩,.string ⟨(Lib.cut s.data.toList sep.data.toList).2.1.toArray⟩,.bool (Lib.cut s.data.toList sep.data.toList).2.2])/\ ∃n,w'=w.drewN n:=Any.strings_Cut Tryz.aad s sep m w hs hm
def Tryz.aag:Go.Shelf.Ren:=⟨fun|146=>104|221=>115|268=>122|138=>123|143=>124|195=>131|197=>132|218=>133|219=>125|260=>149|217=>134|225=>135|224=>136|267=>137|266=>150|314=>151|n=>n,fun|9=>9|31=>114|3=>3|4=>4|0=>0|105=>148|21=>21|5=>5|46=>151|119=>180|139=>183|138=>182|146=>168|51=>167|n=>n,fun|1=>0|3=>4|4=>5|n=>n⟩
theorem Tryz.aaf:Go.Proofs.Lays.n146 Tryz.prog Tryz.aag:={
 mixed:=by kernel_rfl
 f138:=Tryz.func123.trans (congrArg some (by kernel_rfl))
 f143:=Tryz.func124.trans (congrArg some (by kernel_rfl))
 f146:=Tryz.func104.trans (congrArg some (by kernel_rfl))
 f195:=Tryz.func131.trans (congrArg some (by kernel_rfl))
 f197:=Tryz.func132.trans (congrArg some (by kernel_rfl))
 f217:=Tryz.func134.trans (congrArg some (by kernel_rfl))
 f218:=Tryz.func133.trans (congrArg some (by kernel_rfl))
 f219:=Tryz.func125.trans (congrArg some (by kernel_rfl))
 f221:=Tryz.func115.trans (congrArg some (by kernel_rfl))
 f224:=Tryz.func136.trans (congrArg some (by kernel_rfl))
 f225:=Tryz.func135.trans (congrArg some (by kernel_rfl))
 f260:=Tryz.func149.trans (congrArg some (by kernel_rfl))
 f266:=Tryz.func150.trans (congrArg some (by kernel_rfl))
 f267:=Tryz.func137.trans (congrArg some (by kernel_rfl))
 f268:=Tryz.func122.trans (congrArg some (by kernel_rfl))
 f314:=Tryz.func151.trans (congrArg some (by kernel_rfl))
 t0:=Tryz.underlying0
 a0:=Tryz.isAgg0
 z0:=Tryz.sizeOf0
 v0:=Tryz.zeroValue0
 t3:=Tryz.underlying3
 a3:=Tryz.isAgg3
 z3:=Tryz.sizeOf3
 v3:=Tryz.zeroValue3
 t4:=Tryz.underlying4
 a4:=Tryz.isAgg4
 z4:=Tryz.sizeOf4
 v4:=Tryz.zeroValue4
 t5:=Tryz.underlying5
 a5:=Tryz.isAgg5
 z5:=Tryz.sizeOf5
 v5:=Tryz.zeroValue5
 t9:=Tryz.underlying9
 a9:=Tryz.isAgg9
 z9:=Tryz.sizeOf9
 v9:=Tryz.zeroValue9
 t21:=Tryz.underlying21
 a21:=Tryz.isAgg21
 z21:=Tryz.sizeOf21
 v21:=Tryz.zeroValue21
 t31:=Tryz.underlying114
 a31:=Tryz.isAgg114
 z31:=Tryz.sizeOf114
 v31:=Tryz.zeroValue114
 t46:=Tryz.underlying151
 a46:=Tryz.isAgg151
 z46:=Tryz.sizeOf151
 v46:=Tryz.zeroValue151
 t51:=Tryz.underlying167
 a51:=Tryz.isAgg167
 z51:=Tryz.sizeOf167
 v51:=Tryz.zeroValue167
 t105:=Tryz.underlying148
 a105:=Tryz.isAgg148
 z105:=Tryz.sizeOf148
 v105:=Tryz.zeroValue148
 t119:=Tryz.underlying180
 a119:=Tryz.isAgg180
 z119:=Tryz.sizeOf180
 t138:=Tryz.underlying182
 a138:=Tryz.isAgg182
 z138:=Tryz.sizeOf182
 v138:=Tryz.zeroValue182
 t139:=Tryz.underlying183
 a139:=Tryz.isAgg183
 z139:=Tryz.sizeOf183
 v139:=Tryz.zeroValue183
 t146:=Tryz.underlying168
 a146:=Tryz.isAgg168
 z146:=Tryz.sizeOf168
 v146:=Tryz.zeroValue168
 g1:=by kernel_rfl
 g3:=by kernel_rfl
 g4:=by kernel_rfl}
open Go.RowKit Go.Lib in
theorem Tryz.strings_Split(s sep:ByteArray)(m:Int)(w:World)(hs:s.size<4294967281)(hm:w.cell? ⟨0,0,none⟩=some (.int .i64 m))(h1:1<=sep.size) :
  Calls Tryz.prog 104 #[.string s,.string sep] w fun e w' =>
   e= .returned (.slice (some ⟨w.heap.size,0,none⟩) (Lib.countB s sep+1) (Lib.countB s sep+1))/\w'=w.alloc (.cells ((Lib.splitB sep 0 (Lib.countB s sep) s).map Value.string).toArray 9):=Any.strings_Split Tryz.aaf (by kernel_rfl) s sep m w hs hm h1
end Go.Proofs
namespace Go.Proofs.YtimickglpboilaaGreatDoor
section
open Go.RowKit Go
variable [GC]
def bs(l:List UInt8):ByteArray:=⟨l.toArray⟩
@[simp] theorem EY (l:List UInt8):(bs l).data.toList=l:=by simp [bs]
theorem Cp(s:ByteArray):bs s.data.toList=s:=by simp [bs]
@[simp] theorem ny (l:List UInt8):(bs l).size=l.length:=by simp [bs,ByteArray.size]
theorem UY{l m:List UInt8}(h:bs l=bs m):l=m:=by have:=congrArg (fun s:ByteArray=>s.data.toList) h;simpa using this
@[simp] theorem ajy (l m:List UInt8):bs l=bs m↔l=m:=⟨UY,fun h=>by rw [h]⟩
theorem UX(l m:List UInt8):bs l++bs m=bs (l++m):=by
 apply ByteArray.ext
 simp [bs]
class kI:Prop where
 h: ∀w:World,j6 w->j0 w 3 fun cs=>cs=(Lib.pow10Tab.map fun z=>Value.int .u64 z).toArray
class mi:Prop where
 h: ∀w:World,j6 w->j0 w 0 fun cs=> ∃m,cs[0]? =some (Value.int .i64 m)
class og:Prop where
 h: ∀w:World,j6 w->j0 w 1 fun cs=> ∃tp p,cs= #[.iface tp p]
theorem j0.cell{w:World}{g:Nat}{p:Array Value->Prop}(h:j0 w g p): ∃cs,p cs/\ ∀i:Nat,w.cell? ⟨g,i,none⟩=cs[i]? :=by
 obtain ⟨cs,t,f,h1,h2⟩:=h
 exact ⟨cs,h2,fun i=>by simp [World.cell?,h1]⟩
theorem U7[kI]{n:Nat}(h:n<1000):aD Tryz.prog 113 none [.int .i64 n] (.str (bs (eB n))) []:=by
 refine aD.v8 (by kernel_rfl) fun w M vs hG hr=> ?_
 obtain ⟨v,q,rfl,⟨rfl,_⟩,rfl⟩:=hr
 have c:=Any.strconv_Itoa Tryz.aan n (by omega) (by omega) w (by
  obtain ⟨cs,t,f,h1,rfl⟩:=kI.h w hG.2.1
  unfold Lib.TabIs World.var?
  rw [show Tryz.prog.globalNamed _=some 3 by kernel_rfl]
  simp [h1])
 refine c.mono ?_
 rintro e w' ⟨rfl,k,os,rfl⟩
 have hl:=xC h
 refine ⟨_,rfl,⟨?_,by rw [ny];unfold maxLen;omega⟩,?_⟩
 ·unfold Lib.itoa
  rw [if_neg (by omega),Int.toNat_natCast,Fh h];rfl
 ·exact ⟨rfl,rfl,rfl,by simp [Go.Sort.grow],fun j hj=>by simp [Go.Sort.grow,Array.getElem?_append,hj]⟩
theorem Kd[kI]{n:Nat}(h:n<1000):aD Tryz.prog 102 none [.int .i64 n] (.str (bs (eB n))) []:=by
 refine aD.bK ahb aeg rfl ?_ (fun hfit=> ?_)
 ·simp [QJ,fz,bU,cz,bM]
 unfold Q4
 (refine bu ?_ (U7 h) (trivial) ?_;(focus (simp only [VC.den,E.den,aa,aK,and_true];try exact rfl));(simp only [cA]))
 exact aF rfl
theorem WO{n:Nat}(h1: ¬n<10)(h2:n<1000):eB n=eB (n/10)++[UInt8.ofNat (48+n%10)]:=by
 rw [<-Fh h2, <-Fh (n:=n/10) (by omega),Lib.decDigits,dif_neg h1]
theorem WQ(n:Nat):strOfNums [IntKind.u8.wrap (IntKind.i64.wrap (48+(n:Int).tmod 10))]=bs [UInt8.ofNat (48+n%10)]:=by
 have h1:(n:Int).tmod 10=((n%10:Nat):Int):=by rw [Int.tmod_eq_emod_of_nonneg (by omega)];omega
 rw [h1,wrap_i64 (by omega) (by omega)]
 have h2:IntKind.u8.wrap (48+((n%10:Nat):Int))=((48+n%10:Nat):Int):=by
  simp only [IntKind.wrap,IntKind.bits,IntKind.signed]
  simp
  omega
 rw [h2]
 unfold strOfNums bs
 simp only [List.map_cons,List.map_nil,Int.toNat_natCast]
theorem abZ(n:Nat)(h:n<1000):cv .quo .i64 n 10=((n/10:Nat):Int):=by
 simp only [cv]
 have h1:(n:Int).tdiv 10=((n/10:Nat):Int):=by rw [Int.tdiv_eq_ediv_of_nonneg (by omega)];omega
 rw [h1,wrap_i64 (by omega) (by omega)]
theorem Kk: ∀{n:Nat},n<1000->aD Tryz.prog 109 none [.int .i64 n] (.str (bs (eB n))) []:=by
 intro n
 induction n using Nat.strongRecOn with
 | ind n ih =>
  intro hn
  have hb:tv (.sl ([[D.int .u8 (IntKind.u8.wrap (cv .add .i64 48 (cv .rem .i64 (n:Int) 10)))]]))=bs [UInt8.ofNat (48+n%10)]:=by
   rw [<-WQ];rfl
  refine aD.bK ah4 af0 rfl ?_ (fun hfit=> ?_)
  ·simp [QR,fz,bU,cz,bM]
  unfold Sd
  refine aG (fun h=> ?_) (fun _=> ?_)
  ·simp [E.den,aS] at h
  refine aG (fun h=> ?_) (fun _=> ?_)
  ·simp [E.den,aS] at h;omega
  refine bh (fun _=>rfl) ?_
  refine aG (fun h=> ?_) (fun h=> ?_)
  ·simp [E.den,aS] at h
   refine bh (fun _=>rfl) ?_
   refine bu (xs:=[.int .i64 ((n/10:Nat):Int)]) ?_ (ih (n/10) (by omega) (by omega)) trivial ?_
   ·simp [E.den,abZ n hn]
   refine bh (fun _=> ?_) (aF ?_)
   ·simp only [E.den,aa,ai,aj]
    rw [hb,ny,ny]
    have:=xC (n:=n/10) (by omega)
    simp;unfold maxLen;omega
   ·simp only [E.den,aa,ai,aj]
    rw [hb,UX,WO (n:=n) (by omega) hn]
  ·simp [E.den,aS] at h
   refine aF ?_
   simp only [E.den,aa,ai,aj]
   rw [hb]
   have:eB n=[UInt8.ofNat (48+n%10)]:=by unfold eB;rw [if_pos (by omega)];congr;omega
   rw [this]
def vZ(s:ByteArray):Int:=match gS s.data.toList with|some n=>n|none=>0
def qv(s:ByteArray):Bool:=(gS s.data.toList).isSome
def lX(s:ByteArray):D:= .aC [.int .i64 (vZ s),.bool (qv s)]
theorem QP(s:ByteArray):bU ay.tab (.aC [.c (.int .i64),.c .bool]) (lX s):=⟨rfl,trivial,trivial⟩
theorem H7{s:ByteArray}{n:Nat}(h:gS s.data.toList=some n):vZ s=n:=by unfold vZ;rw [h]
theorem OL{s:ByteArray}{n:Nat}(h:gS s.data.toList=some n):qv s=true:=by unfold qv;rw [h];rfl
theorem OJ{s:ByteArray}(h:gS s.data.toList=none):vZ s=0:=by unfold vZ;rw [h]
theorem OK{s:ByteArray}(h:gS s.data.toList=none):qv s=false:=by unfold qv;rw [h];rfl
theorem abx{s:ByteArray}(h:qv s=true): ∃n:Nat,n<1000/\s=bs (eB n)/\vZ s=n:=by
 unfold qv at h
 obtain ⟨n,hn⟩:=Option.isSome_iff_exists.1 h
 obtain ⟨h1,h2⟩:=rT.1 hn
 exact ⟨n,h1,by rw [h2,Cp],H7 hn⟩
theorem EU{l:List UInt8}{n:Nat}(h:gS l=some n):Lib.atoi l=some (n:Int):=by
 obtain ⟨h1,rfl⟩:=rT.1 h
 exact Fl h1
theorem size_data(s:ByteArray):s.data.toList.length=s.size:=Array.length_toList
theorem Cr{w w':World}{e:TypeId}{t:ByteArray}(h:w'=Lib.bytesWorld w e t):Below w.heap.size w w':=by
 subst h
 exact Lib.bytesWorld_below _ _ _
theorem JK{w:World}{M:Addr->Prop}{n:Int}{b:Bool}(h0: -9223372036854775808<=n)(h1:n<=9223372036854775807):R w M (.aC [.int .i64 n,.bool b]) (.tuple #[.int .i64 n,.bool b]) :=
 ⟨_,rfl,_,_,rfl,⟨rfl,h0,h1⟩,_,_,rfl,rfl,rfl⟩
theorem TE{w:World}{M:Addr->Prop}{s:ByteArray}(h:gS s.data.toList=none):R w M (lX s) (.tuple #[.int .i64 0,.bool false]):=by
 unfold lX;rw [OJ h,OK h];exact JK (by omega) (by omega)
theorem TF{w:World}{M:Addr->Prop}{s:ByteArray}{n:Nat}(h:gS s.data.toList=some n):R w M (lX s) (.tuple #[.int .i64 n,.bool true]):=by
 have:=(rT.1 h).1
 unfold lX;rw [H7 h,OL h];exact JK (by omega) (by omega)
theorem Vn[kI][og](s:ByteArray):aD Tryz.prog 106 none [.str s] (lX s) []:=by
 refine aD.v8 (by kernel_rfl) fun w M vs hG hr=> ?_
 obtain ⟨v,q,rfl,⟨rfl,YX⟩,rfl⟩:=hr
 have hM:=hG.1
 have yZ:=fun W (h:gS s.data.toList=none)=>TE (w:=W) (M:=M) h
 by_cases hl:1<=s.size/\s.size<=3
 ·have a1:((s.size:Int)<1)=False:=by simp;omega
  have a2:((s.size:Int)>3)=False:=by simp;omega
  cases ha:Lib.atoi s.data.toList with
  | none =>
   have hn:gS s.data.toList=none:=by
    cases h:gS s.data.toList with
    | none=>rfl
    | some n=>rw [EU h] at ha;cases ha
   obtain ⟨cs,⟨tp,p,rfl⟩,hc⟩:=(og.h w hG.2.1).cell
   have hv:=hc 0
   simp at hv
   have HC:=Lib.hid (fun W (hW:W=w)=>Tryz.strconv_Atoi_err s (by omega) ha (.iface tp p) W (by rw [hW];exact hv) (Or.inr ⟨tp,p,rfl⟩))
   have HN:=Lib.hid hn
   clear hv hc ha hn
   go_enter Tryz.func106,Tryz.ntmps106
   go_wp2_with (go_at_call 117;refine (HC.out _ rfl).mono ?_;rintro e w1 ⟨N0,rfl,hb0,hb1,hb⟩)
   go_ret2
   exact ⟨_,rfl,yZ _ HN.out,hb⟩
  | some z =>
   have HC:=Lib.hid (fun W=>Tryz.strconv_Atoi s z (by omega) ha W)
   by_cases hz:0<=z/\z<=999
   ·obtain ⟨n,rfl⟩:=Int.eq_ofNat_of_zero_le hz.1
    have hn:n<1000:=by omega
    have b1:(0:Int)<=(n:Int):=by omega
    have b2:(n:Int)<=999:=by omega
    have HF:=Lib.hid (fun (w0:World) (hb:Below w.heap.size w w0)=>(Kd hn).2 w0 M 0 [.int .i64 n] (hG.below hb fun p hp=>Nat.lt_of_lt_of_le (hM p hp) hb.size) (Rs.one ⟨rfl,by show (-9223372036854775808:Int)<=n;omega,by show (n:Int)<=9223372036854775807;omega⟩) (fun cs h=>by cases h))
    have hne:((bs (eB n)).toList==s.toList)=decide (gS s.data.toList=some n):=by
     rw [wM]
     by_cases h:gS s.data.toList=some n
     ·have:=(rT.1 h).2
      simp [h,this,Cp]
     ·have:bs (eB n)≠s:=fun e=>h (by rw [<-e,EY];exact aby hn)
      simp [h,this]
    by_cases hq:gS s.data.toList=some n
    ·have HQ:=Lib.hid hq
     have e1:((bs (eB n)).toList==s.toList)=true:=by rw [hne];simp [hq]
     clear hne hq ha
     go_enter Tryz.func106,Tryz.ntmps106
     go_wp2_with (first|(go_at_call 117;refine (HC.out _).mono ?_;rintro e w1 ⟨rfl,t1,hb1⟩;replace hb1:=Cr hb1)|(go_at_call 102;refine (HF.out _ (by go_grown)).mono ?_;rintro e w2 ⟨v2,rfl,⟨rfl, -⟩,hb2, -⟩;replace hb2:=hb2.jI)|go_in)
     go_ret2
     exact ⟨_,rfl,TF HQ.out,bt hb1 hb2⟩
    ·have e1:((bs (eB n)).toList==s.toList)=false:=by rw [hne];simp [hq]
     have hno:gS s.data.toList=none:=by
      cases h:gS s.data.toList with
      | none=>rfl
      | some m =>
       have:=EU h
       rw [ha] at this
       have e:n=m:=by have:=Option.some.inj this;omega
       subst e
       exact absurd h hq
     have HN:=Lib.hid hno
     clear hne hq ha hno
     go_enter Tryz.func106,Tryz.ntmps106
     go_wp2_with (first|(go_at_call 117;refine (HC.out _).mono ?_;rintro e w1 ⟨rfl,t1,hb1⟩;replace hb1:=Cr hb1)|(go_at_call 102;refine (HF.out _ (by go_grown)).mono ?_;rintro e w2 ⟨v2,rfl,⟨rfl, -⟩,hb2, -⟩;replace hb2:=hb2.jI)|go_in)
     go_ret2
     exact ⟨_,rfl,yZ _ HN.out,bt hb1 hb2⟩
   ·have hno:gS s.data.toList=none:=by
     cases h:gS s.data.toList with
     | none=>rfl
     | some m =>
      have h1:=(rT.1 h).1
      have:=EU h
      rw [ha] at this
      have e:z=(m:Int):=Option.some.inj this
      subst e
      exact absurd ⟨by omega,by omega⟩ hz
    have HN:=Lib.hid hno
    have e1:(decide (0<=z)&&decide (z<=999))=false:=by
     rw [Bool.and_eq_false_iff];simp;omega
    by_cases hz0:0<=z
    ·have b2:(z<=999)=False:=by simp;omega
     clear e1 hz hno ha
     go_enter Tryz.func106,Tryz.ntmps106
     go_wp2_with (first|(go_at_call 117;refine (HC.out _).mono ?_;rintro e w1 ⟨rfl,t1,hb1⟩;replace hb1:=Cr hb1)|go_in)
     go_ret2
     exact ⟨_,rfl,yZ _ HN.out,hb1⟩
    ·have b2:(0<=z)=False:=by simp;omega
     clear e1 hz hno hz0 ha
     go_enter Tryz.func106,Tryz.ntmps106
     go_wp2_with (first|(go_at_call 117;refine (HC.out _).mono ?_;rintro e w1 ⟨rfl,t1,hb1⟩;replace hb1:=Cr hb1)|go_in)
     go_ret2
     exact ⟨_,rfl,yZ _ HN.out,hb1⟩
 ·have hno:gS s.data.toList=none:=by
   cases h:gS s.data.toList with
   | none=>rfl
   | some m =>
    obtain ⟨h1,h2⟩:=rT.1 h
    have h3:=KH h1
    have h4:=xC h1
    rw [h2,size_data] at h3 h4
    exact absurd ⟨h3,h4⟩ hl
  have HN:=Lib.hid hno
  clear hno
  by_cases h0:s.size=0
  ·have a1:((s.size:Int)<1)=True:=by simp;omega
   clear hl h0
   go_enter Tryz.func106,Tryz.ntmps106
   go_wp2_with fail
   go_ret2
   exact ⟨_,rfl,yZ _ HN.out,Below.refl _ _⟩
  ·have a1:((s.size:Int)<1)=False:=by simp;omega
   have a2:((s.size:Int)>3)=True:=by simp;omega
   clear hl h0
   go_enter Tryz.func106,Tryz.ntmps106
   go_wp2_with fail
   go_ret2
   exact ⟨_,rfl,yZ _ HN.out,Below.refl _ _⟩
def lY(l:List UInt8)(k:Nat):Int:=(l.take k).foldl (fun n c=>10*n+(c.toNat:Int)-48) 0
def wA:Nat->Int
 | 0=>0
 | k+1=>10*wA k+255
theorem Pr{l:List UInt8}{k:Nat}(h:k<l.length):lY l (k+1)=10*lY l k+(l[k].toNat:Int)-48:=by
 unfold lY
 rw [List.take_add_one,List.getElem?_eq_getElem h,Option.toList_some,List.foldl_append]
 rfl
theorem Pq(l:List UInt8): ∀k, -wA k<=lY l k/\lY l k<=wA k
 | 0=>by simp [lY,wA]
 | k+1=>by
  have ih:=Pq l k
  rcases Nat.lt_or_ge k l.length with h|h
  ·rw [Pr h]
   have:=l[k].toNat_lt
   simp only [wA];omega
  ·have:lY l (k+1)=lY l k:=by unfold lY;rw [List.take_of_length_le h,List.take_of_length_le (by omega)]
   rw [this];simp only [wA];omega
theorem ab6: ∀k,k<=4->wA k<=283305
 | 0,_=>by decide
 | 1,_=>by decide
 | 2,_=>by decide
 | 3,_=>by decide
 | 4,_=>by decide
 | k+5,h=>by omega
theorem ab7(l:List UInt8){k:Nat}(h:k=4\/l.length<=k/\k<=4):lY l k=nU l:=by
 unfold lY nU
 rcases h with rfl|⟨h1,h2⟩
 ·rfl
 ·rw [List.take_of_length_le h1,List.take_of_length_le (by omega)]
theorem UO{s:ByteArray}{k:Nat}(h:k<s.data.toList.length):((s[k]?).map (fun (c:UInt8)=>(c.toNat:Int))).getD 0=((s.data.toList[k]).toNat:Int):=by
 have h2:k<s.size:=by rw [size_data] at h;exact h
 rw [getElem?_pos s k h2]
 simp [ByteArray.getElem_eq_getElem_data]
theorem VU(s:ByteArray):aD Tryz.prog 112 none [.str s] (lX s) []:=by
 refine aD.bK aii agn rfl ?_ (fun hfit=> ?_)
 ·simp [QT,fz,bU,cz,bM]
 have YX:s.size<=maxLen:=by simp [dU,Fits] at hfit;exact hfit
 unfold Su
 refine fp 4 (fun k=>[.int .i64 (lY s.data.toList k),.int .i64 k]) (fun k=>k<=s.size) rfl (Nat.zero_le _) (fun k hk hI _=> ?_)
 have hb:=Pq s.data.toList k
 have hB:=ab6 k hk
 refine aG (fun h=> ?_) (fun h=> ?_)
 ·simp only [E.den,aa,ai,aj] at h
  simp at h
  obtain ⟨h1,h2⟩:=h
  have hlt:k<s.data.toList.length:=by rw [size_data];omega
  refine bh (fun _=> ?_) ?_
  ·simp only [E.den,aa,ai,aj];simp;omega
  refine eH (by omega) ?_ (by omega)
  have hc:=(s.data.toList[k]).toNat_lt
  simp only [E.den,aa,ai,aj]
  rw [Pr hlt]
  have hz:tu s k=((s.data.toList[k]).toNat:Int):=UO hlt
  simp only [cv,hz]
  rw [wrap_i64 (n:=10*lY s.data.toList k) (by omega) (by omega),wrap_i64 (n:=(s.data.toList[k].toNat:Int)) (by omega) (by omega),wrap_i64 (n:=10*lY s.data.toList k+_) (by omega) (by omega),wrap_i64 (n:=_-48) (by omega) (by omega),wrap_i64 (by omega) (by omega)]
  rfl
 ·simp only [E.den,aa,ai,aj] at h
  simp at h
  have h4:lY s.data.toList k=nU s.data.toList:=ab7 _ (by rw [size_data];omega)
  rw [h4] at hb ⊢
  refine WJ (xs:=[.int .i64 (nU s.data.toList)]) (r:= .str (bs (eB (nU s.data.toList).toNat))) rfl (fun hg=> ?_) trivial ?_
  ·simp only [bB,List.mem_cons,List.not_mem_nil,or_false,forall_eq] at hg
   simp only [E.den,aa,ai,aj] at hg
   simp at hg
   have e:nU s.data.toList=((nU s.data.toList).toNat:Int):=by omega
   rw [e]
   exact Kk (by omega)
  refine aG (fun h=> ?_) (fun h=> ?_)
  ·simp only [E.den,aa,ai,aj] at h
   refine aF ?_
   simp only [E.den,aa,ai,aj]
   have hno:gS s.data.toList=none:=by
    cases hq:gS s.data.toList with
    | none=>rfl
    | some m =>
     exfalso
     obtain ⟨q1,q2⟩:=rT.1 hq
     have q3:=WN q1
     rw [q2] at q3
     have q4:=KH q1
     rw [q2,size_data] at q4
     have hs':bs (eB m)=s:=by rw [q2,Cp]
     have hne:s≠ByteArray.empty:=by rintro rfl;simp at q4
     rw [q3] at h
     simp [hs',hne] at h
     omega
   rw [lX,OJ hno,OK hno]
  ·simp only [E.den,aa,ai,aj] at h
   simp at h
   obtain ⟨⟨⟨h1,h2⟩,h3⟩,h5⟩:=h
   refine aF ?_
   simp only [E.den,aa,ai,aj]
   have e:nU s.data.toList=((nU s.data.toList).toNat:Int):=by omega
   have hs:eB (nU s.data.toList).toNat=s.data.toList:=by
    have h7:=congrArg (fun x:ByteArray=>x.data.toList) h5
    simpa using h7
   have hn:=rT.2 ⟨(by omega:(nU s.data.toList).toNat<1000),hs⟩
   rw [lX,H7 hn,OL hn, <-e]
end
section
open Go.RowKit Go
variable [GC]
end
section
open Go.RowKit Go
variable [GC]
def jm(l:List ByteArray)(sep:ByteArray):ByteArray:=⟨(Lib.join (l.map (·.data.toList)) sep.data.toList).toArray⟩
theorem Bh(l:List ByteArray)(sep:ByteArray):(jm l sep).size=(Lib.join (l.map (·.data.toList)) sep.data.toList).length:=ny _
theorem J8(s:ByteArray):bs s.data.toList=s:=by simp [bs]
theorem NJ{l:List ByteArray}{k:Nat}(h:k<l.length)(sep:ByteArray):jm (l.take (k+1)) sep=if k=0 then nth l k else jm (l.take k) sep++sep++nth l k:=by
 cases l with
 | nil=>simp at h
 | cons x r =>
  cases k with
  | zero =>
   rw [if_pos rfl]
   show bs (Lib.join [x.data.toList] _)=_
   rw [Lib.join_one,J8];rfl
  | succ j =>
   rw [if_neg (by omega)]
   have hj:j<r.length:=by simpa using h
   have e:(r.map (·.data.toList))[j]? =some ((nth (x::r) (j+1)).data.toList):=by
    simp [nth,hj]
   simp only [jm,List.take_succ_cons,List.map_cons,List.map_take,Lib.join_cons]
   rw [Lib.joinTail_take_succ _ _ _ _ e]
   apply ByteArray.ext
   simp [ByteArray.data_append]
theorem Z1(l:List ByteArray)(sep:ByteArray)(k:Nat):(jm (l.take k) sep).size<=(jm l sep).size:=by
 rw [Bh,Bh]
 cases l with
 | nil=>simp
 | cons x r =>
  cases k with
  | zero=>simp [Lib.join_nil]
  | succ j =>
   simp only [List.take_succ_cons,List.map_cons,List.map_take,Lib.join_cons,List.length_append]
   have:=Lib.joinTail_take_le sep.data.toList (r.map (·.data.toList)) j
   omega
theorem Z0{l:List ByteArray}{sep:ByteArray}{n:Nat}(h: ∀k,k<l.length->(nth l k).size<=n):(jm l sep).size<=l.length*(n+sep.size):=by
 have: ∀k,k<=l.length->(jm (l.take k) sep).size<=k*(n+sep.size):=by
  intro k
  induction k with
  | zero=>intro _;simp [Bh,Lib.join_nil]
  | succ k ih =>
   intro hk
   have h1:=ih (by omega)
   have h2:=h k (by omega)
   rw [NJ (by omega),Nat.add_mul]
   split
   ·omega
   ·simp only [ByteArray.size_append];omega
 simpa using this l.length (Nat.le_refl _)
theorem U8(l:List ByteArray)(sep:ByteArray)(hN:l.length<=140737488355328)(hlen:(jm l sep).size<=140737488355328):aD Tryz.prog 114 none [aN l,.str sep] (.str (jm l sep)) []:=by
 refine aD.v8 (by kernel_rfl) fun w M vs hG hr=> ?_
 obtain ⟨v,q,rfl,⟨a,len,cap,rfl,rfl,hc,hm,ha,hb⟩,v2,q2,rfl,⟨rfl,_⟩,rfl⟩:=hr
 have hsz:(jm l sep).size<=maxLen:=by unfold maxLen;omega
 by_cases h0:l=[]
 ·subst h0
  refine (Tryz.strings_Join_none a cap sep w).mono ?_
  rintro e w' ⟨rfl,rfl⟩
  exact ⟨_,rfl,⟨rfl,hsz⟩,Below.refl _ _⟩
 ·have hpos:0<l.length:=List.length_pos_iff.2 h0
  simp only [List.length_map] at hc hb ⊢
  cases a with
  | none=>have:=ha rfl;omega
  | some ad =>
   obtain ⟨b,o,s⟩:=ad
   obtain ⟨h1,h2⟩:=hb b o s rfl
   obtain rfl:=h1 hpos
   have hcell: ∀(j:Nat) x,l[j]? =some x->w.cell? ⟨b,o+j,none⟩=some (.string x):=fun j x hx=>by
    have h3:=dr.get (n:=1) h2 (fun r hr=>by obtain ⟨y,_,rfl⟩:=List.mem_map.1 hr;rfl) (i:=j) (r:=[.str x]) (by rw [List.getElem?_map,hx];rfl)
    obtain ⟨⟨v,h4,_,rfl,_⟩,_⟩:=h3
    simpa using h4
   have hbk:b<w.heap.size:=by
    have:=hcell 0 _ (List.getElem?_eq_getElem hpos)
    unfold World.cell? at this
    rcases Nat.lt_or_ge b w.heap.size with h|h
    ·exact h
    ·simp only [Array.getElem?_eq_none h] at this;cases this
   refine (Tryz.strings_Join b o cap l sep w hcell hbk hN hc (by rw [<-Bh];exact hlen)).mono ?_
   rintro e w' ⟨rfl,hw⟩
   exact ⟨_,rfl,⟨rfl,hsz⟩,hw⟩
theorem Vl(l:List ByteArray)(sep:ByteArray)(hN:l.length<=140737488355328)(hlen:(jm l sep).size<=140737488355328):aD Tryz.prog 103 none [aN l,.str sep] (.str (jm l sep)) []:=by
 refine aD.bK ahi aet rfl ?_ (fun hfit=> ?_)
 ·exact ⟨su l,trivial,trivial⟩
 unfold Re
 (refine bu ?_ (U8 l sep hN hlen) (trivial) ?_;(focus (simp only [VC.den,E.den,aa,aK,and_true];try exact rfl));(simp only [cA]))
 exact aF rfl
theorem VQ(l:List ByteArray)(sep:ByteArray)(hN:l.length<=140737488355328)(hlen:(jm l sep).size<=140737488355328):aD Tryz.prog 110 none [aN l,.str sep] (.str (jm l sep)) []:=by
 refine aD.bK aib agd rfl ?_ (fun hfit=> ?_)
 ·exact ⟨su l,trivial,trivial⟩
 unfold Sp
 refine fp l.length (fun k=>[.str (jm (l.take k) sep),.int .i64 k]) (fun _=>True) rfl trivial ?_
 intro k hk hI _
 simp only [cA]
 refine aG (fun h2=> ?_) (fun h2=> ?_)
 ·simp only [E.den,aa,ai,aj] at h2
  have h2:k<l.length:=by simp at h2;exact h2
  (refine bh (fun hg=> ?_) ?_;(focus (simp only [bB,gE,E.den,aa,ai,aj] at hg ⊢;(try simp only [D.bool.injEq] at hg);(try simp only [D.bool.injEq]);grind)))
  have hle:=Z1 l sep (k+1)
  have e:=NJ h2 sep
  refine aG (fun h3=> ?_) (fun h3=> ?_)
  ·simp only [E.den,aa,ai,aj] at h3
   have h3:k≠0:=by simp at h3;omega
   rw [if_neg h3] at e
   rw [e,ByteArray.size_append,ByteArray.size_append] at hle
   refine bh (fun _=> ?_) ?_
   ·simp only [E.den,aa,ai,aj];simp [maxLen];exact decide_eq_true (by omega)
   refine bh (fun _=> ?_) ?_
   ·simp only [E.den,aa,ai,aj,kV,ja];simp [maxLen,ByteArray.size_append];omega
   refine eH h2 ?_ trivial
   simp only [E.den,aa,ai,aj,kV,ja]
   rw [db (by omega) (by omega),e];rfl
  ·simp only [E.den,aa,ai,aj] at h3
   have h3:k=0:=by simp at h3;omega
   subst h3
   rw [if_pos rfl] at e
   rw [e] at hle
   refine bh (fun _=> ?_) ?_
   ·simp only [E.den,aa,ai,aj,kV,ja];simp [maxLen,Bh,Lib.join_nil];omega
   refine eH h2 ?_ trivial
   simp only [E.den,aa,ai,aj,kV,ja]
   rw [e]
   have:jm [] sep++nth l 0=nth l 0:=by
    apply ByteArray.ext
    simp [jm,Lib.join_nil,ByteArray.data_append]
   rw [this];rfl
 ·simp only [E.den,aa,ai,aj] at h2
  obtain rfl:k=l.length:=by simp at h2;omega
  refine aF ?_
  simp only [E.den,aa,ai,aj]
  rw [List.take_length]
end
section
open Go.RowKit Go
variable [GC]
theorem CC{p:Prop}[Decidable p](h:p):D.bool (decide p)= .bool true:=by simp [h]
theorem HO{s:ByteArray}(h:kS s=true):s.size<=8:=by
 unfold kS at h;simp at h;omega
theorem DM{α β:Type}[Inhabited α](f:α->β){l:List α}{k:Nat}(h:k<l.length):(l.take (k+1)).map f=(l.take k).map f++[f (nth l k)]:=by
 rw [List.take_succ_eq_append_getElem h,List.map_append]
 simp [nth,h]
end
section
open Go.RowKit Go
variable [GC]
theorem Wx(s sep:List UInt8):(Lib.cut s sep).1.length<=s.length/\(Lib.cut s sep).2.1.length<=s.length:=by
 unfold Lib.cut
 split
 ·simp;omega
 ·simp
def zV(s:ByteArray)(sep:List UInt8):D:= .aC [.str (bs (Lib.cut s.data.toList sep).1),.str (bs (Lib.cut s.data.toList sep).2.1),.bool (Lib.cut s.data.toList sep).2.2]
theorem U6[mi](s:ByteArray)(sep:List UInt8)(hs:s.size<4294967281):aD Tryz.prog 105 none [.str s,.str (bs sep)] (zV s sep) []:=by
 refine aD.v8 (by kernel_rfl) fun w M vs hG hr=> ?_
 obtain ⟨v,q,rfl,⟨rfl,_⟩,v2,q2,rfl,⟨rfl,_⟩,rfl⟩:=hr
 obtain ⟨cs,⟨m,hcs⟩,hc⟩:=(mi.h w hG.2.1).cell
 have hm:=hc 0
 rw [hcs] at hm
 have h:=Wx s.data.toList sep
 rw [size_data] at h
 refine (Tryz.strings_Cut s (bs sep) m w hs hm).mono ?_
 rintro e w' ⟨rfl,k,rfl⟩
 rw [EY]
 refine ⟨_,rfl,⟨_,rfl,_,_,rfl,⟨rfl,?_⟩,_,_,rfl,⟨rfl,?_⟩,_,_,rfl,rfl,rfl⟩,⟨rfl,rfl,rfl,Nat.le_refl _,fun _ _=>rfl⟩⟩
 ·rw [ny];unfold maxLen;omega
 ·rw [ny];unfold maxLen;omega
def pieces(s sep:ByteArray):List ByteArray:=(Lib.split s.data.toList sep.data.toList).map bs
theorem abf(l:List ByteArray):(l.map (·.data.toList)).map bs=l:=by
 rw [List.map_map]
 conv=>rhs;rw [<-List.map_id l]
 exact List.map_congr_left fun x _=>Cp x
theorem OB{x:List UInt8}: ∀{l:List (List UInt8)},x∈l->x.length<=Lib.lens l
 | y::r,h=>by
  have e:Lib.lens (y::r)=y.length+Lib.lens r:=by simp [Lib.lens]
  rw [e]
  rcases List.mem_cons.1 h with rfl|h
  ·omega
  ·have:=OB h
   omega
theorem adJ{s sep:List UInt8}(h:sep≠[]):(Lib.split s sep).length<=s.length+1/\ ∀x∈Lib.split s sep,x.length<=s.length:=by
 obtain ⟨h1,h2⟩:=G9 h s.length s (Nat.le_refl _)
 have hpos:0<sep.length:=List.length_pos_iff.2 h
 cases hl:Lib.split s sep with
 | nil=>exact absurd hl h2
 | cons y r =>
  rw [hl,Lib.join_cons] at h1
  have e:=congrArg List.length h1
  rw [List.length_append,Lib.joinTail_length] at e
  have:r.length<=sep.length*r.length:=Nat.le_mul_of_pos_left _ hpos
  refine ⟨by simp;omega,fun x hx=> ?_⟩
  rcases List.mem_cons.1 hx with rfl|hx
  ·omega
  ·have:=OB hx
   omega
theorem DT{s sep:ByteArray}(h:1<=sep.size):(pieces s sep).length<=s.size+1/\ ∀x∈pieces s sep,x.size<=s.size:=by
 have hne:sep.data.toList≠[]:=fun e=>by
  have:sep.size=0:=by rw [<-size_data,e];rfl
  omega
 obtain ⟨h1,h2⟩:=adJ (s:=s.data.toList) hne
 rw [size_data] at h1
 refine ⟨by unfold pieces;rw [List.length_map];exact h1,fun x hx=> ?_⟩
 obtain ⟨y,hy,rfl⟩:=List.mem_map.1 hx
 have:=h2 y hy
 rw [size_data] at this
 rw [ny];exact this
theorem Pc{s sep:ByteArray}(h:1<=sep.size){k:Nat}(hk:k<(pieces s sep).length):(nth (pieces s sep) k).size<=s.size:=(DT h).2 _ (uh hk)
theorem pieces_eq(s sep:ByteArray):Lib.splitB sep 0 (Lib.countB s sep) s=pieces s sep:=by
 unfold pieces
 rw [<-abf (Lib.splitB sep 0 (Lib.countB s sep) s),Lib.splitB_data]
 rfl
theorem UZ[mi](s sep:ByteArray)(hs:s.size<4294967281)(h1:1<=sep.size):cM Tryz.prog 104 none [.str s,.str sep] (aN (pieces s sep)) [] [(0,1)]:=by
 refine ⟨by kernel_rfl,fun w M g vs hG hr _=> ?_⟩
 obtain ⟨v,q,rfl,⟨rfl,_⟩,v2,q2,rfl,⟨rfl,_⟩,rfl⟩:=hr
 obtain ⟨cs,⟨m,hcs⟩,hc⟩:=(mi.h w hG.2.1).cell
 have hm:=hc 0
 rw [hcs] at hm
 obtain ⟨z1,z2⟩:=DT (s:=s) h1
 have hlen:Lib.countB s sep+1=(pieces s sep).length:=by rw [<-pieces_eq,Lib.splitB_all sep h1 0 _ s rfl]
 refine (Tryz.strings_Split s sep m w hs hm h1).mono ?_
 rintro e w' ⟨rfl,rfl⟩
 rw [pieces_eq,hlen]
 have GG: ∀p,¬iK (.slice (some ⟨w.heap.size,0,none⟩) (pieces s sep).length (pieces s sep).length) [(0,1)] p:=by
  rintro p ⟨x,hx,hsp⟩
  simp at hx
  subst hx
  obtain ⟨b,o,s',len,cap,e,q1,q2,q3⟩:=hsp
  have e:Value.slice (some ⟨w.heap.size,0,none⟩) (pieces s sep).length (pieces s sep).length= .slice (some ⟨b,o,s'⟩) len cap:=e
  cases e
  omega
 have hnew:(w.alloc (.cells ((pieces s sep).map Value.string).toArray 9)).heap[w.heap.size]? =some (.cells ((pieces s sep).map Value.string).toArray 9 (0,0)):=vB (by simp)
 refine ⟨_,rfl,uL (pieces s sep) hnew rfl rfl (fun o h=> ?_) (fun x hx=> ?_) ?_,Fr.pJ ((Below.refl _ _).alloc (Nat.le_refl _) _) (Nat.le_refl _),⟨fun x hx=> ?_,fun i j x y hi hj hij=> ?_⟩,fun h=>by cases h⟩
 ·rcases h with h|h
  ·have:=hG.1 _ h
   simp at this
  ·exact GG _ h
 ·have:=z2 x hx
  unfold maxLen;omega
 ·unfold maxLen;omega
 ·simp at hx
  subst hx
  intro b o s' len cap e hc
  have e:Value.slice (some ⟨w.heap.size,0,none⟩) (pieces s sep).length (pieces s sep).length= .slice (some ⟨b,o,s'⟩) len cap:=e
  cases e
  exact ⟨rfl,Nat.le_refl _,_,_,hnew,by simp⟩
 ·have h1:=(List.getElem?_eq_some_iff.1 hi).1
  have h2:=(List.getElem?_eq_some_iff.1 hj).1
  simp at h1 h2
  omega
end
section
open Go.RowKit Go
variable [GC]
def pP:ByteArray:=⟨#[61]⟩
def wK:ByteArray:=⟨#[45]⟩
def dm:ByteArray:=⟨#[44]⟩
theorem wL:(⟨#[61]⟩:ByteArray)=pP:=rfl
theorem Ef:(⟨#[45]⟩:ByteArray)=wK:=rfl
theorem Ee:(⟨#[44]⟩:ByteArray)=dm:=rfl
theorem BI:pP.size=1:=rfl
theorem adS:dm.size=1:=rfl
def mq(c:Cell):ByteArray:=c.key++pP++bs (eB c.val.toNat)
def fmtC(l:List Cell):ByteArray:=if fA l=true then (if l.length=0 then wK else jm (l.map mq) dm) else cI
theorem zT{l:List Cell}(h:fA l=true){k:Nat}(hk:k<l.length):kS (nth l k).key=true/\eU (nth l k).val=true:=by
 unfold fA at h
 simp only [Bool.and_eq_true] at h
 have:=uQ.1 h.2 k hk
 unfold iU at this
 simp only [Bool.and_eq_true] at this
 exact this.1
theorem oW{l:List Cell}(h:fA l=true):l.length<=4:=by
 unfold fA at h
 simp only [Bool.and_eq_true,decide_eq_true_eq] at h
 exact h.1
theorem H5{n:Int}(h:eU n=true): ∃m:Nat,n=m/\m<1000:=by
 unfold eU at h
 simp only [Bool.and_eq_true,decide_eq_true_eq] at h
 exact ⟨n.toNat,by omega,by omega⟩
theorem Wj{c:Cell}(h1:kS c.key=true)(h2:eU c.val=true):(mq c).size<=12:=by
 obtain ⟨m,e,hm⟩:=H5 h2
 have:=HO h1
 have hl:=xC hm
 unfold mq
 rw [e,Int.toNat_natCast]
 simp only [ByteArray.size_append,BI,ny]
 omega
theorem Fa{l:List Cell}(h:fA l=true):(jm (l.map mq) dm).size<=52:=by
 have h1:=oW h
 refine Nat.le_trans (Z0 (n:=12) fun k hk=> ?_) ?_
 ·have hk:k<l.length:=by simpa using hk
  have:nth (l.map mq) k=mq (nth l k):=by simp [nth,hk]
  rw [this]
  exact Wj (zT h hk).1 (zT h hk).2
 ·rw [List.length_map,adS];omega
theorem Xq(l:List Cell):(fmtC l).size<=52:=by
 unfold fmtC
 split
 ·rename_i h
  split
  ·decide
  ·exact Fa h
 ·decide
theorem Vh[kI](l:List Cell):aD Tryz.prog 95 none [aN l] (.str (fmtC l)) []:=by
 refine aD.bK aha aef rfl ?_ (fun hfit=> ?_)
 ·exact ⟨nX l,trivial⟩
 unfold Q3
 (refine bu ?_ (E0 l) (trivial) ?_;(focus (simp only [VC.den,E.den,aa,aK,and_true];try exact rfl));(simp only [cA]))
 refine aG (fun h=>aF ?_) (fun h=> ?_)
 ·simp only [E.den,aa,ai,aj] at h ⊢
  rw [fmtC,if_neg (by grind)];rfl
 simp only [E.den,aa,ai,aj] at h
 have h:fA l=true:=by grind
 have h4:=oW h
 have hj:=Fa h
 have gI:(l.map mq).length<=140737488355328:=by rw [List.length_map];omega
 refine aG (fun h0=>aF ?_) (fun h0=> ?_)
 ·simp only [E.den,aa,ai,aj] at h0 ⊢
  rw [fmtC,if_pos h,if_pos (by grind)];rfl
 simp only [E.den,aa,ai,aj] at h0
 have h0:l.length≠0:=by grind
 refine fp l.length (fun k=>[aN ((l.take k).map mq),.int .i64 k]) (fun _=>True) rfl trivial ?_
 intro k hk hI _
 simp only [cA]
 refine aG (fun g2=> ?_) (fun g2=> ?_)
 ·simp only [E.den,aa,ai,aj] at g2
  have g2:k<l.length:=by simp at g2;exact g2
  obtain ⟨q1,q2⟩:=zT h g2
  obtain ⟨m,e,hm⟩:=H5 q2
  have q3:=HO q1
  have hl:=xC hm
  (refine bh (fun hg=> ?_) ?_;(focus (simp only [bB,gE,E.den,aa,ai,aj] at hg ⊢;(try simp only [D.bool.injEq] at hg);(try simp only [D.bool.injEq]);grind)))
  (try (refine bh (fun _=> ?_) ?_;(focus (simp only [E.den,aa,ai,aj,gu,dH,wL];refine CC ?_;simp only [ByteArray.size_append,BI];unfold maxLen;omega))))
  (refine bu ?_ (Kd hm) (trivial) ?_;(focus (simp only [VC.den,E.den,aa,aK,and_true,gu,dH,Int.toNat_natCast,e];try exact rfl));(simp only [cA]))
  (try (refine bh (fun _=> ?_) ?_;(focus (simp only [E.den,aa,ai,aj,gu,dH,wL];refine CC ?_;simp only [ByteArray.size_append,BI,ny];unfold maxLen;omega))))
  refine bh (fun _=> ?_) ?_
  ·simp only [E.den,aa,ai,aj];simp [maxLen];omega
  refine eH g2 ?_ trivial
  simp only [E.den,aa,ai,aj,gu,dH,wL]
  rw [db (by omega) (by omega),DM _ g2]
  simp [aN,ja,mq,e]
 ·simp only [E.den,aa,ai,aj] at g2
  obtain rfl:k=l.length:=by simp at g2;omega
  (refine bu ?_ (Vl (l.map mq) dm gI (by omega)) (trivial) ?_;(focus (simp only [VC.den,E.den,aa,aK,and_true,Ee,List.take_length];try exact rfl));(simp only [cA]))
  refine aF ?_
  simp only [E.den,aa,ai,aj]
  rw [fmtC,if_pos h,if_neg h0]
theorem VO(l:List Cell):aD Tryz.prog 99 none [aN l] (.str (fmtC l)) []:=by
 refine aD.bK ah3 afZ rfl ?_ (fun hfit=> ?_)
 ·exact ⟨nX l,trivial⟩
 unfold Sc
 (refine bu ?_ (E5 l) (trivial) ?_;(focus (simp only [VC.den,E.den,aa,aK,and_true];try exact rfl));(simp only [cA]))
 refine aG (fun h=>aF ?_) (fun h=> ?_)
 ·simp only [E.den,aa,ai,aj] at h ⊢
  rw [fmtC,if_neg (by grind)];rfl
 simp only [E.den,aa,ai,aj] at h
 have h:fA l=true:=by grind
 have h4:=oW h
 have hj:=Fa h
 have gI:(l.map mq).length<=140737488355328:=by rw [List.length_map];omega
 refine fp l.length (fun k=>[aN ((l.take k).map mq),.int .i64 k]) (fun _=>True) rfl trivial ?_
 intro k hk hI _
 simp only [cA]
 refine aG (fun g2=> ?_) (fun g2=> ?_)
 ·simp only [E.den,aa,ai,aj] at g2
  have g2:k<l.length:=by simp at g2;exact g2
  obtain ⟨q1,q2⟩:=zT h g2
  obtain ⟨m,e,hm⟩:=H5 q2
  have q3:=HO q1
  have hl:=xC hm
  (refine bh (fun hg=> ?_) ?_;(focus (simp only [bB,gE,E.den,aa,ai,aj] at hg ⊢;(try simp only [D.bool.injEq] at hg);(try simp only [D.bool.injEq]);grind)))
  (try (refine bh (fun _=> ?_) ?_;(focus (simp only [E.den,aa,ai,aj,gu,dH,wL];refine CC ?_;simp only [ByteArray.size_append,BI];unfold maxLen;omega))))
  (refine bu ?_ (Kk hm) (trivial) ?_;(focus (simp only [VC.den,E.den,aa,aK,and_true,gu,dH,Int.toNat_natCast,e];try exact rfl));(simp only [cA]))
  (try (refine bh (fun _=> ?_) ?_;(focus (simp only [E.den,aa,ai,aj,gu,dH,wL];refine CC ?_;simp only [ByteArray.size_append,BI,ny];unfold maxLen;omega))))
  refine bh (fun _=> ?_) ?_
  ·simp only [E.den,aa,ai,aj];simp [maxLen];omega
  refine eH g2 ?_ trivial
  simp only [E.den,aa,ai,aj,gu,dH,wL]
  rw [db (by omega) (by omega),DM _ g2]
  simp [aN,ja,mq,e]
 ·simp only [E.den,aa,ai,aj] at g2
  obtain rfl:k=l.length:=by simp at g2;omega
  refine aG (fun g3=>aF ?_) (fun g3=> ?_)
  ·simp only [E.den,aa,ai,aj] at g3 ⊢
   have g3:l.length=0:=by simpa using g3
   rw [fmtC,if_pos h,if_pos g3];rfl
  ·simp only [E.den,aa,ai,aj] at g3
   have g3:l.length≠0:=by simpa using g3
   (refine bu ?_ (VQ (l.map mq) dm gI (by omega)) (trivial) ?_;(focus (simp only [VC.den,E.den,aa,aK,and_true,Ee,List.take_length];try exact rfl));(simp only [cA]))
   refine aF ?_
   simp only [E.den,aa,ai,aj]
   rw [fmtC,if_pos h,if_neg g3]
def Ij(x:ByteArray):ByteArray:=bs (Lib.cut x.data.toList [61]).1
def qz(x:ByteArray):ByteArray:=bs (Lib.cut x.data.toList [61]).2.1
def Bu(x:ByteArray):Cell:=⟨Ij x,vZ (qz x)⟩
def nT(x:ByteArray):Bool:=(Lib.cut x.data.toList [61]).2.2&&qv (qz x)
def mP(s:ByteArray):List Cell:=(pieces s dm).map Bu
def oI(s:ByteArray):Bool:=(pieces s dm).all nT&&decide ((pieces s dm).length<=4)&&fA (mP s)
def eF(s:ByteArray):List Cell×Bool:=if s=wK then ([],true) else if oI s=true then (mP s,true) else ([],false)
theorem abO{s:ByteArray}(h:(eF s).2=true):fA (eF s).1=true:=by
 unfold eF at h ⊢
 split
 ·decide
 ·rename_i h1
  rw [if_neg h1] at h
  split
  ·rename_i h2
   unfold oI at h2
   simp only [Bool.and_eq_true] at h2
   exact h2.2
  ·rename_i h2
   rw [if_neg h2] at h;cases h
theorem Vq(n:Int):aD Tryz.prog 74 none [.int .i64 n] (.int .i64 (min (IntKind.i64.wrap (n+1)) 999)) []:=by
 refine aD.v8 (by kernel_rfl) fun w M vs hG hr=> ?_
 obtain ⟨v,q,rfl,⟨rfl,h1,h2⟩,rfl⟩:=hr
 show Calls Tryz.prog 74 #[.int .i64 n] w _
 go_enter Tryz.func74,Tryz.ntmps74
 go_wp2
 go_ret
 have hw: -9223372036854775808<=wrap64 (n+1)/\wrap64 (n+1)<=9223372036854775807:=by unfold wrap64;omega
 refine ⟨.int .i64 (min (wrap64 (n+1)) 999),rfl,⟨by rw [<-IntWalk.i64_left],?_,?_⟩,by go_grown⟩
 ·rw [IntKind.wrap_i64];simp only [IntKind.min,IntKind.bits,IntKind.signed];simp;omega
 ·rw [IntKind.wrap_i64];simp only [IntKind.max,IntKind.bits,IntKind.signed];simp;omega
theorem Vo(s:ByteArray):aD Tryz.prog 39 none [.str s] (.int .i64 (bI s)) []:=by
 refine aD.bK ahm aeA rfl ?_ (fun hfit=> ?_)
 ·exact ⟨trivial,trivial⟩
 unfold Ri
 (refine bu ?_ (Kc s) (rfl) ?_;(focus (simp only [VC.den,E.den,aa,aK,and_true];try exact rfl));(simp only [cA]))
 refine aG (fun h=> ?_) (fun h=> ?_)
 ·simp only [E.den,aa,ai,aj] at h
  have h:gy s<0:=by simpa using h
  exact aF (by simp [E.den,bI,h])
 simp only [E.den,aa,ai,aj] at h
 have h: ¬gy s<0:=by simpa using h
 have h6:=JN s
 refine bh (fun _=> ?_) (aF ?_)
 ·simp [E.den,aS];omega
 ·have e:=JR ⟨(gy s).toNat,by omega⟩
  have e2:(((gy s).toNat:Nat):Int)=gy s:=by omega
  rw [e2] at e
  simp only [E.den,aa,ai,aj,e]
  simp [bI,h]
theorem Vm[mi][kI][og](s:ByteArray)(hs:s.size<4294967281):cM Tryz.prog 96 none [.str s] (.aC [aN (eF s).1,.bool (eF s).2]) [] [(0,2)]:=by
 refine cM.bK ahl aey acr rfl ?_ (fun hfit=> ?_)
 ·exact ⟨trivial,trivial⟩
 unfold Rh
 refine aG (fun h=>aF ?_) (fun h=> ?_)
 ·simp only [E.den,aa,ai,aj,Ef] at h
  have h:s=wK:=by simpa using h
  rw [eF,if_pos h];rfl
 simp only [E.den,aa,ai,aj,Ef] at h
 have h0:s≠wK:=by simpa using h
 (refine mr ?_ (UZ s dm hs (by decide)) (su _) ?_;(focus (simp only [VC.den,E.den,aa,aK,and_true,Ee];try exact rfl));(simp only [cA]))
 have hz:=(DT (s:=s) (sep:=dm) (by decide)).1
 have hp: ∀k,k<(pieces s dm).length->(nth (pieces s dm) k).size<4294967281:=fun k hk=>by
  have:=Pc (s:=s) (sep:=dm) (by decide) hk
  omega
 refine fp (pieces s dm).length (fun k=>[aN (((pieces s dm).take k).map Bu),.int .i64 k]) (fun k=>(∀i,i<k->nT (nth (pieces s dm) i)=true)/\k<=4) rfl ⟨by omega,by omega⟩ ?_
 intro k hk hI _
 simp only [cA]
 refine aG (fun h2=> ?_) (fun h2=> ?_)
 ·simp only [E.den,aa,ai,aj] at h2
  have h2:k<(pieces s dm).length:=by simp at h2;exact h2
  (refine bh (fun hg=> ?_) ?_;(focus (simp only [bB,gE,E.den,aa,ai,aj] at hg ⊢;(try simp only [D.bool.injEq] at hg);(try simp only [D.bool.injEq]);grind)))
  (refine bu ?_ (U6 (nth (pieces s dm) k) [61] (hp k h2)) (⟨trivial,trivial,trivial,trivial⟩) ?_;(focus (simp only [VC.den,E.den,aa,aK,and_true,kV,ja,Int.toNat_natCast];try exact rfl));(simp only [cA]))
  (refine bu ?_ (Vn (qz (nth (pieces s dm) k))) (QP _) ?_;(focus (simp only [VC.den,E.den,aa,aK,and_true,zV,qz];try exact rfl));(simp only [cA]))
  refine aG (fun h3=>aF ?_) (fun h3=> ?_)
  ·simp only [E.den,aa,ai,aj,zV,lX] at h3
   have hn:oI s=false:=by
    cases hb:oI s with
    | false=>rfl
    | true =>
     exfalso
     unfold oI at hb
     simp only [Bool.and_eq_true,decide_eq_true_eq] at hb
     have:=List.all_eq_true.1 hb.1.1 _ (uh h2)
     unfold nT at this
     simp only [Bool.and_eq_true] at this
     simp [this.1,this.2] at h3
     omega
   rw [eF,if_neg h0,if_neg (by simp [hn])];rfl
  ·simp only [E.den,aa,ai,aj,zV,lX] at h3
   simp at h3
   refine bh (fun _=> ?_) ?_
   ·simp only [E.den,aa,ai,aj];simp [maxLen];omega
   refine eH h2 ?_ ⟨fun i hi=> ?_,by omega⟩
   ·simp only [E.den,aa,ai,aj,zV,lX]
    rw [db (by omega) (by omega),DM _ h2]
    simp [aN,dH,Bu,Ij,qz]
   ·rcases Nat.lt_or_ge i k with h|h
    ·exact hI.1 i h
    ·obtain rfl:i=k:=by omega
     unfold nT
     simp [h3]
 ·simp only [E.den,aa,ai,aj] at h2
  obtain rfl:k=(pieces s dm).length:=by simp at h2;omega
  have hE:(pieces s dm).take (pieces s dm).length=pieces s dm:=List.take_length
  have hp:oI s=fA (mP s):=by
   unfold oI
   have:(pieces s dm).all nT=true:=List.all_eq_true.2 fun x hx=>by
    obtain ⟨i,hi,rfl⟩:=List.getElem_of_mem hx
    have:=hI.1 i hi
    simpa [nth,hi] using this
   simp [this,hI.2]
  (refine bu ?_ (E0 (mP s)) (trivial) ?_;(focus (simp only [VC.den,E.den,aa,aK,and_true,hE,mP];try exact rfl));(simp only [cA]))
  refine aG (fun h6=>aF ?_) (fun h6=>aF ?_)
  ·simp only [E.den,aa,ai,aj] at h6
   have h6:fA (mP s)=false:=by simpa using h6
   rw [eF,if_neg h0,if_neg (by rw [hp,h6];simp)];rfl
  ·simp only [E.den,aa,ai,aj] at h6
   have h6:fA (mP s)=true:=by simpa using h6
   rw [eF,if_neg h0,if_pos (by rw [hp,h6])]
   simp only [E.den,aa,ai,aj,hE]
   rfl
end
section
open Go.RowKit Go
variable [GC]
def jR:ByteArray:=⟨#[108,97,122,121]⟩
def kU:ByteArray:=⟨#[114,101,97,100,115]⟩
def jC:ByteArray:=⟨#[104,101,97,108,115]⟩
def jJ:ByteArray:=⟨#[116,119,105,99,101]⟩
def bR(n:Int):Int:=min (IntKind.i64.wrap (n+1)) 999
theorem zr{n:Int}(h:eU n=true):eU (bR n)=true/\(n<999->bR n=n+1)/\1<=bR n:=by
 unfold eU at h
 simp only [Bool.and_eq_true,decide_eq_true_eq] at h
 have e:bR n=min (n+1) 999:=by unfold bR;rw [wrap_i64 (by omega) (by omega)]
 refine ⟨?_,fun _=>by omega,by omega⟩
 unfold eU
 simp only [Bool.and_eq_true,decide_eq_true_eq]
 omega
def bW:List Cell->ByteArray->Nat
 | [],_=>0
 | c::r,k=>if gj c.key k=true then bW r k+1 else 0
theorem uS: ∀(l:List Cell) (k:ByteArray),bW l k<=l.length
 | [],_=>Nat.le_refl _
 | c::r,k=>by
  unfold bW
  have:=uS r k
  split
  ·simp;exact this
  ·exact Nat.zero_le _
theorem y5{α:Type}[Inhabited α](a:α)(l:List α)(i:Nat):nth (a::l) (i+1)=nth l i:=by simp [nth]
theorem vY{α:Type}[Inhabited α](a:α)(l:List α):nth (a::l) 0=a:=by simp [nth]
theorem zM: ∀{l:List Cell} {k:ByteArray} {i:Nat},i<bW l k->gj (nth l i).key k=true
 | [],_,i,h=>by simp [bW] at h
 | c::r,k,i,h=>by
  unfold bW at h
  split at h
  ·rename_i hc
   cases i with
   | zero=>rw [vY];exact hc
   | succ i=>rw [y5];exact zM (by omega)
  ·omega
theorem Ck: ∀{l:List Cell} {k:ByteArray},bW l k<l.length->gj (nth l (bW l k)).key k=false
 | [],_,h=>by simp [bW] at h
 | c::r,k,h=>by
  unfold bW at h ⊢
  split at h
  ·rename_i hc
   rw [if_pos hc,y5];exact Ck (by simp at h;omega)
  ·rename_i hc
   rw [if_neg hc,vY];simpa using hc
theorem ET: ∀{l:List Cell} {k:ByteArray} {n:Nat},n<=l.length->(∀i,i<n->gj (nth l i).key k=true)->(n<l.length->gj (nth l n).key k=false)->bW l k=n
 | [],_,n,h,_,_=>by simp at h;subst h;rfl
 | c::r,k,n,h,h1,h2=>by
  unfold bW
  cases n with
  | zero =>
   have:=h2 (by simp)
   rw [vY] at this
   rw [if_neg (by simp [this])]
  | succ n =>
   have h0:=h1 0 (by omega)
   rw [vY] at h0
   rw [if_pos h0,ET (n:=n) (by simp at h;omega) (fun i hi=>by have:=h1 (i+1) (by omega);rwa [y5] at this) (fun hn=>by have:=h2 (by simp;omega);rwa [y5] at this)]
def eO(l:List Cell)(k:ByteArray):Bool:=decide (bW l k<l.length)&&decide ((nth l (bW l k)).key=k)
def iD(l:List Cell)(k:ByteArray)(v:Int):List Cell:=if eO l k=true then l.set (bW l k) ⟨k,v⟩ else l.take (bW l k)++[⟨k,v⟩]++l.drop (bW l k)
def keepD(p:Core)(x:Call):Core×da :=
 if (dO p.kind).testBit 0=true/\p.on=false then (p,rep 2 0 0 0)
 else if x.method=gm then (if eO p.cells x.key=true then (p,rep 0 (nth p.cells (bW p.cells x.key)).val 0 0) else (p,rep 4 0 0 0))
 else if eO p.cells x.key=false/\4<=p.cells.length then (p,rep 5 0 0 0)
 else (⟨p.kind,p.on,p.broken,iD p.cells x.key x.val,bR p.count⟩,rep 0 (iD p.cells x.key x.val).length 0 0)
def di(x:Call):Bool:=decide (x.method=gm)||decide (x.method=fj)
def bJ(p:Core)(x:Call):Core×da :=
 if p.broken=true/\x.method≠eS/\x.method≠dP then (p,rep 3 0 0 0)
 else if x.method=mStart then (if p.on=true then (⟨p.kind,false,true,p.cells,p.count⟩,rep 3 0 0 0) else (⟨p.kind,true,p.broken,p.cells,bR p.count⟩,rep 0 0 0 0))
 else if x.method=bZ then (if p.on=false then (p,rep 2 0 0 0) else (⟨p.kind,false,p.broken,p.cells,p.count⟩,rep 0 0 0 0))
 else if di x=true then keepD p x
 else if x.method=dP then (p,rep 0 p.count 0 0)
 else if x.method=eT then (⟨p.kind,if x.val=0 then false else if x.val=1 then true else p.on,p.broken,p.cells,bR p.count⟩,rep 0 (bR p.count) 0 0)
 else if x.method=rR then (p,⟨0,0,fmtC p.cells,0,0⟩)
 else if x.method=jE then (if (eF x.text).2=true then (⟨p.kind,p.on,p.broken,(eF x.text).1,p.count⟩,rep 0 (eF x.text).1.length 0 0) else (p,rep 6 0 0 0))
 else if x.method=eS then (⟨p.kind,false,false,p.cells,p.count⟩,rep 0 0 0 0)
 else (p,rep 0 0 0 0)
def bump(p:Part)(k:Nat):Part:=⟨p.core,p.af.set k ⟨(nth p.af k).name,bR (nth p.af k).count⟩⟩
def br(m:ByteArray):Call:=⟨m,cI,0,cI⟩
def wO(r:da):da:=if r.code=0 then ⟨r.code,min (IntKind.i64.wrap (2*r.val)) 999,r.text,r.want,r.had⟩ else r
def aA:Nat->Part->Call->Part×da
 | 0,p,x=>(⟨(bJ p.core x).1,p.af⟩,(bJ p.core x).2)
 | k+1,p,x =>
  if (nth p.af k).name=counts/\x.method=dP then (p,rep 0 (nth p.af k).count 0 0)
  else if (nth p.af k).name=counts/\di x=true then (bump (aA k p x).1 k,(aA k p x).2)
  else if (nth p.af k).name=jR/\di x=true then
   (if (aA k p x).2.code=2 then aA k (aA k (aA k p x).1 (br mStart)).1 x else aA k p x)
  else if (nth p.af k).name=kU/\x.method=fj then (p,rep 6 0 0 0)
  else if (nth p.af k).name=gH/\x.method=eT then
   (if x.val=0 then aA k (bump p k) (br bZ) else if x.val=1 then aA k (bump p k) (br mStart) else (bump p k,rep 0 (nth (bump p k).af k).count 0 0))
  else if (nth p.af k).name=jC/\x.method=eS then aA k (aA k p (br bZ)).1 (br mStart)
  else if (nth p.af k).name=jJ then ((aA k p x).1,wO (aA k p x).2)
  else aA k p x
def cW(p:Part)(x:Call):Part×da :=
 if eV p=false\/ek x=false then (p,rep 7 0 0 0)
 else if cK (fB p) (bI x.method)=false then (p,rep 1 0 (bI x.method) (fB p))
 else aA p.af.length p x
def aR:Part->List Call->Part×List da
 | p,[]=>(p,[])
 | p,x::l=>if (cW p x).2.code=1 then ((cW p x).1,[(cW p x).2]) else ((aR (cW p x).1 l).1,(cW p x).2::(aR (cW p x).1 l).2)
theorem Z5{s:ByteArray}(h:kindOk s=true): ∃i:Fin 8,s=nth kinds i.val/\dO s=uf.getD i.val 0:=by
 have key: ∃i:Fin 8,s=nth kinds i.val:=by
  unfold kindOk ue at h
  by_cases e0:s=nth kinds 0
  ·exact ⟨0,e0⟩
  by_cases e1:s=nth kinds 1
  ·exact ⟨1,e1⟩
  by_cases e2:s=nth kinds 2
  ·exact ⟨2,e2⟩
  by_cases e3:s=nth kinds 3
  ·exact ⟨3,e3⟩
  by_cases e4:s=nth kinds 4
  ·exact ⟨4,e4⟩
  by_cases e5:s=nth kinds 5
  ·exact ⟨5,e5⟩
  by_cases e6:s=nth kinds 6
  ·exact ⟨6,e6⟩
  by_cases e7:s=nth kinds 7
  ·exact ⟨7,e7⟩
  simp [e0,e1,e2,e3,e4,e5,e6,e7] at h
 obtain ⟨i,rfl⟩:=key
 refine ⟨i,rfl,?_⟩
 unfold dO
 rw [NM i]
theorem aaa{s:ByteArray}(h:qp s=true): ∃i:Fin 9,s=nth af i.val/\lW s=vW.getD i.val 0/\mB s=yV.getD i.val 0:=by
 have key: ∃i:Fin 9,s=nth af i.val:=by
  unfold qp rP at h
  by_cases e0:s=nth af 0
  ·exact ⟨0,e0⟩
  by_cases e1:s=nth af 1
  ·exact ⟨1,e1⟩
  by_cases e2:s=nth af 2
  ·exact ⟨2,e2⟩
  by_cases e3:s=nth af 3
  ·exact ⟨3,e3⟩
  by_cases e4:s=nth af 4
  ·exact ⟨4,e4⟩
  by_cases e5:s=nth af 5
  ·exact ⟨5,e5⟩
  by_cases e6:s=nth af 6
  ·exact ⟨6,e6⟩
  by_cases e7:s=nth af 7
  ·exact ⟨7,e7⟩
  by_cases e8:s=nth af 8
  ·exact ⟨8,e8⟩
  simp [e0,e1,e2,e3,e4,e5,e6,e7,e8] at h
 obtain ⟨i,rfl⟩:=key
 refine ⟨i,rfl,?_,?_⟩
 ·unfold lW;rw [DH i]
 ·unfold mB;rw [DH i]
theorem Bp{s:ByteArray}(h: ¬gy s<0): ∃j:Fin 6,bI s=((2^j.val:Nat):Int)/\s∈methods j.val:=by
 unfold bI
 rw [if_neg h]
 unfold gy at h ⊢
 cases hf:jP (xq s) 6 with
 | none=>rw [hf] at h;simp at h
 | some k =>
  obtain ⟨h1,h2,_⟩:=CR hf
  refine ⟨⟨k,h1⟩,by simp,?_⟩
  unfold xq hasB at h2
  rw [List.any_eq_true] at h2
  obtain ⟨t,ht,e⟩:=h2
  have e:t=s:=by simpa using e
  subst e
  exact ht
theorem yT: ∀(i:Fin 8) (j:Fin 6),cK ((uf.getD i.val 0:Nat):Int) ((2^j.val:Nat):Int)=true->(j.val=0\/j.val=3->(uf.getD i.val 0).testBit 0=true)/\(j.val=1\/j.val=4->(uf.getD i.val 0).testBit 1=true):=by decide +kernel
theorem aab: ∀(i:Fin 9) (j:Fin 6) (f:Fin 64),cK ((f.val:Nat):Int) ((vW.getD i.val 0:Nat):Int)=true->cK ((yV.getD i.val 0:Nat):Int) ((2^j.val:Nat):Int)=true->(i.val=3/\j.val=2)\/(i.val=6/\j.val=3)\/(i.val=7/\j.val=5)\/cK ((f.val:Nat):Int) ((2^j.val:Nat):Int)=true:=by decide +kernel
theorem aac: ∀(i:Fin 9) (f:Fin 64),(i.val=4\/i.val=6\/i.val=7)->cK ((f.val:Nat):Int) ((vW.getD i.val 0:Nat):Int)=true->cK ((f.val:Nat):Int) 1=true:=by decide +kernel
theorem SZ:bI mStart=1/\bI bZ=1/\bI gm=2/\bI fj=2/\bI dP=4/\bI eT=8:=by decide +kernel
theorem tw:ek (br mStart)=true/\ek (br bZ)=true/\ek (br dP)=true:=by decide +kernel
theorem xy{x:Call}(h:ek x=true): ¬gy x.method<0:=by
 unfold ek at h
 simp only [Bool.and_eq_true,Bool.not_eq_true',decide_eq_false_iff_not] at h
 exact h.1.1.1
theorem Wd{x:Call}(h:ek x=true)(hm:di x=true):kS x.key=true:=by
 unfold ek di at *
 grind
theorem Ku{x:Call}(h:ek x=true):eU x.val=true:=by
 unfold ek eU at *
 grind
theorem NU:nth af 3=counts/\nth af 4=jR/\nth af 6=gH/\nth af 7=jC:=by decide
end
end Go.Proofs.YtimickglpboilaaGreatDoor
