/- Contracts of the library's functions that are called here, laid at this seat's program by the kit's tool (lay-shelf, lay-plain); those that are needed. -/
import Derived.Shelf.Strings.OnBuilder
import Derived.Shelf.Utf8.RuneCount
import Derived.Shelf.Strconv.Itoa3
import Derived.Shelf.Strconv.ErrVar
import Derived.Shelf.Strconv.ErrVarAll
import Derived.Shelf.Strings.Shaped
import Derived.Shelf.Strings.SplitShaped
import Derived.Shelf.Strings.Explode
import Derived.Shelf.Unicode.DecodeAny
import Derived.Test.YtoomhbopolalnabGreatDoorT14
set_option linter.all false
set_option maxRecDepth 100000
namespace Go.Proofs
open Go.Proofs.YtoomhbopolalnabGreatDoor
open Go.Shelf
def Tryz.alv:Go.Shelf.Ren:=⟨fun|156=>182|165=>190|166=>191|169=>192|240=>202|241=>203|276=>220|277=>221|n=>n,fun|31=>26|9=>9|3=>3|4=>4|0=>0|20=>20|72=>196|76=>191|70=>194|37=>22|75=>190|127=>203|164=>219|5=>5|80=>198|n=>n,fun|n=>n⟩
def Tryz.alu:Go.Proofs.Lays.n156 Tryz.prog Tryz.alv:={
 mixed:=by kernel_rfl
 f156:=bA Tryz.func182
 f165:=bA Tryz.func190
 f166:=bA Tryz.func191
 f169:=bA Tryz.func192
 f240:=bA Tryz.func202
 f241:=bA Tryz.func203
 f276:=bA Tryz.func220
 f277:=bA Tryz.func221
 t0:=II
 a0:=IA
 z0:=ID
 v0:=IL
 t3:=kO
 a3:=E9
 z3:=Fe
 v3:=Fk
 t4:=zD
 a4:=Fa
 z4:=Ff
 v4:=Fl
 t9:=iz
 a9:=Fc
 z9:=Fh
 v9:=Fo
 t20:=Mq
 a20:=Mm
 z20:=Mo
 v20:=Ms
 t31:=eX
 a31:=Tryz.isAgg26
 z31:=Tryz.sizeOf26
 v31:=Tryz.zeroValue26
 t37:=Mr
 a37:=Mn
 z37:=Mp
 v37:=Mt
 t70:=Tryz.underlying194
 a70:=Tryz.isAgg194
 z70:=Tryz.sizeOf194
 v70:=Tryz.zeroValue194
 t72:=Tryz.underlying196
 a72:=Tryz.isAgg196
 z72:=Tryz.sizeOf196
 v72:=Tryz.zeroValue196
 t75:=Zl
 a75:=Tryz.isAgg190
 z75:=Zh
 v75:=Zs
 t76:=Zm
 a76:=Tryz.isAgg191
 z76:=Zi
 v76:=Zt
 t127:=Zn
 a127:=Tryz.isAgg203
 z127:=Zj
 v127:=Zu
 t164:=Tryz.underlying219
 a164:=Tryz.isAgg219
 z164:=Tryz.sizeOf219
 v164:=Tryz.zeroValue219}
def Tryz.agi:Builder.Extra Tryz.prog Tryz.alv:={
 sizeBuilder:=by kernel_rfl
 liesBuilder:=by kernel_rfl
 t5:=Fj
 a5:=Fb
 z5:=Fg
 v5:=Fm
 infoByte:=by kernel_rfl
 cellsByte:=by kernel_rfl
 sizeByte:=by kernel_rfl
 neB5:=by decide}
open Go.RowKit in
def Tryz.strings_Join_none(a:Option Addr)(c:Nat)(sep:ByteArray)(w:World) :
  Calls Tryz.prog 182 #[.slice a 0 c,.string sep] w fun e w'=>e=.returned (.string ⟨#[]⟩)/\w'=w:=Any.strings_Join_none Tryz.alu Tryz.agi a c sep w
open Go.RowKit in
def Tryz.strings_Join(b o c:Nat)(xs:List ByteArray)(sep:ByteArray)(w:World)(h:∀(j:Nat) x,xs[j]? =some x->w.cell? ⟨b,o+j,none⟩=some (.string x))(k:b<w.heap.size)(N:xs.length<=140737488355328)(a:xs.length<=c)(l:(Lib.join (xs.map (·.data.toList)) sep.data.toList).length<=140737488355328) :
  Calls Tryz.prog 182 #[.slice (some ⟨b,o,none⟩) xs.length c,.string sep] w fun e w'=>e=.returned (.string ⟨(Lib.join (xs.map (·.data.toList)) sep.data.toList).toArray⟩)/\Below w.heap.size w w':=Any.strings_Join Tryz.alu Tryz.agi b o c xs sep w h k N a l
def Tryz.aDM:Go.Shelf.Ren:=⟨fun|172=>185|244=>197|245=>198|247=>211|279=>212|280=>213|281=>214|282=>215|287=>225|316=>226|171=>181|205=>227|321=>233|322=>234|243=>189|246=>201|283=>216|284=>217|285=>218|286=>219|129=>229|317=>228|318=>230|319=>231|320=>232|337=>235|338=>236|n=>n,fun|9=>9|3=>3|75=>190|76=>191|4=>4|5=>5|167=>207|37=>22|0=>0|85=>208|2=>2|168=>210|53=>214|175=>225|46=>144|210=>229|127=>203|145=>242|143=>240|21=>21|171=>213|173=>217|212=>232|51=>222|20=>20|213=>233|232=>244|233=>245|80=>198|n=>n,fun|15=>1|16=>2|17=>3|18=>6|19=>7|n=>n⟩
def Tryz.aDL:Go.Proofs.Lays.n172 Tryz.prog Tryz.aDM:={
 mixed:=by kernel_rfl
 f129:=bA RH
 f171:=bA Ry
 f172:=bA Tryz.func185
 f205:=bA Tryz.func227
 f243:=bA Rz
 f244:=bA Tryz.func197
 f245:=bA Tryz.func198
 f246:=bA RA
 f247:=bA Tryz.func211
 f279:=bA Tryz.func212
 f280:=bA Tryz.func213
 f281:=bA Tryz.func214
 f282:=bA Tryz.func215
 f283:=bA RC
 f284:=bA RD
 f285:=bA RE
 f286:=bA RF
 f287:=bA Tryz.func225
 f316:=bA Tryz.func226
 f317:=bA RG
 f318:=bA RI
 f319:=bA RJ
 f320:=bA RL
 f321:=bA Tryz.func233
 f322:=bA Tryz.func234
 f337:=bA RM
 f338:=bA RN
 t0:=II
 a0:=IA
 z0:=ID
 v0:=IL
 t2:=Sw
 a2:=RO
 z2:=RW
 v2:=SI
 t3:=kO
 a3:=E9
 z3:=Fe
 v3:=Fk
 t4:=zD
 a4:=Fa
 z4:=Ff
 v4:=Fl
 t5:=Fj
 a5:=Fb
 z5:=Fg
 v5:=Fm
 t9:=iz
 a9:=Fc
 z9:=Fh
 v9:=Fo
 t20:=Mq
 a20:=Mm
 z20:=Mo
 v20:=Ms
 t21:=Zo
 a21:=Tryz.isAgg21
 z21:=Tryz.sizeOf21
 v21:=Zv
 t37:=Mr
 a37:=Mn
 z37:=Mp
 v37:=Mt
 t46:=IJ
 a46:=IB
 z46:=IE
 v46:=IM
 t51:=IK
 a51:=IC
 z51:=IG
 v51:=IP
 t53:=Sy
 a53:=RQ
 z53:=RY
 v53:=SK
 t75:=Zl
 a75:=Tryz.isAgg190
 z75:=Zh
 v75:=Zs
 t76:=Zm
 a76:=Tryz.isAgg191
 z76:=Zi
 v76:=Zt
 t85:=Tryz.underlying208
 a85:=Tryz.isAgg208
 z85:=Tryz.sizeOf208
 v85:=Tryz.zeroValue208
 t127:=Zn
 a127:=Tryz.isAgg203
 z127:=Zj
 v127:=Zu
 t143:=Tryz.underlying240
 a143:=Tryz.isAgg240
 z143:=Tryz.sizeOf240
 v143:=Tryz.zeroValue240
 t145:=Tryz.underlying242
 a145:=Tryz.isAgg242
 z145:=Tryz.sizeOf242
 v145:=Tryz.zeroValue242
 t167:=Tryz.underlying207
 a167:=Tryz.isAgg207
 z167:=Tryz.sizeOf207
 v167:=Tryz.zeroValue207
 t168:=Tryz.underlying210
 a168:=Tryz.isAgg210
 z168:=Tryz.sizeOf210
 v168:=Tryz.zeroValue210
 t171:=Sx
 a171:=RP
 z171:=RX
 v171:=SJ
 t173:=Sz
 a173:=RR
 z173:=RZ
 v173:=SL
 t175:=Tryz.underlying225
 a175:=Tryz.isAgg225
 z175:=Tryz.sizeOf225
 v175:=Tryz.zeroValue225
 t210:=Tryz.underlying229
 a210:=Tryz.isAgg229
 z210:=Tryz.sizeOf229
 v210:=Tryz.zeroValue229
 t212:=SD
 a212:=RS
 z212:=R7
 v212:=SN
 t213:=SE
 a213:=RT
 z213:=R8
 t232:=SF
 a232:=RU
 z232:=Su
 v232:=SP
 t233:=SG
 a233:=RV
 z233:=Sv
 v233:=SQ
 g15:=by kernel_rfl
 g16:=by kernel_rfl
 g17:=by kernel_rfl
 g18:=by kernel_rfl
 g19:=by kernel_rfl}
open Go.RowKit in
def Tryz.strconv_Atoi(s:ByteArray)(n:Int)(l:s.size<=18)(h:Lib.atoi s.data.toList=some n)(w:World) :
  Calls Tryz.prog 185 #[.string s] w fun e w'=>e=.returned (.tuple #[.int .i64 n,.nilIface])/\∃t,w'=Lib.bytesWorld w 5 t:=Any.strconv_Atoi Tryz.aDL s n l h w
def Tryz.aDP:Go.Shelf.Ren:=⟨fun|171=>181|243=>189|246=>201|283=>216|284=>217|285=>218|286=>219|129=>229|317=>228|318=>230|319=>231|320=>232|337=>235|338=>236|n=>n,fun|3=>3|9=>9|2=>2|4=>4|171=>213|0=>0|53=>214|37=>22|5=>5|173=>217|212=>232|51=>222|20=>20|213=>233|46=>144|232=>244|233=>245|n=>n,fun|17=>3|18=>6|19=>7|n=>n⟩
def Tryz.aMt:Go.Proofs.LaysM.n171 Tryz.prog Tryz.aDP:={
 mixed:=by kernel_rfl
 f129:=bA RH
 f171:=bA Ry
 f243:=bA Rz
 f246:=bA RA
 f283:=bA RC
 f284:=bA RD
 f285:=bA RE
 f286:=bA RF
 f317:=bA RG
 f318:=bA RI
 f319:=bA RJ
 f320:=bA RL
 f337:=bA RM
 f338:=bA RN
 t0:=II
 a0:=IA
 z0:=ID
 v0:=IL
 t2:=Sw
 a2:=RO
 z2:=RW
 v2:=SI
 t3:=kO
 a3:=E9
 z3:=Fe
 v3:=Fk
 t4:=zD
 a4:=Fa
 z4:=Ff
 v4:=Fl
 t5:=Fj
 a5:=Fb
 z5:=Fg
 v5:=Fm
 t9:=iz
 a9:=Fc
 z9:=Fh
 v9:=Fo
 t20:=Mq
 a20:=Mm
 z20:=Mo
 v20:=Ms
 t37:=Mr
 a37:=Mn
 z37:=Mp
 v37:=Mt
 t46:=IJ
 a46:=IB
 z46:=IE
 v46:=IM
 t51:=IK
 a51:=IC
 z51:=IG
 v51:=IP
 t53:=Sy
 a53:=RQ
 z53:=RY
 v53:=SK
 t171:=Sx
 a171:=RP
 z171:=RX
 v171:=SJ
 t173:=Sz
 a173:=RR
 z173:=RZ
 v173:=SL
 t212:=SD
 a212:=RS
 z212:=R7
 v212:=SN
 t213:=SE
 a213:=RT
 z213:=R8
 t232:=SF
 a232:=RU
 z232:=Su
 v232:=SP
 t233:=SG
 a233:=RV
 z233:=Sv
 v233:=SQ
 g17:=by kernel_rfl
 g18:=by kernel_rfl
 g19:=by kernel_rfl
 i0:=by kernel_rfl
 i2:=by kernel_rfl
 i3:=by kernel_rfl
 i4:=by kernel_rfl
 i5:=by kernel_rfl
 i9:=by kernel_rfl
 i20:=by kernel_rfl
 i37:=by kernel_rfl
 i46:=by kernel_rfl
 i51:=by kernel_rfl
 i53:=by kernel_rfl
 i171:=by kernel_rfl
 i173:=by kernel_rfl
 i212:=by kernel_rfl
 i232:=by kernel_rfl
 i233:=by kernel_rfl
 m17:=by kernel_rfl
 m18:=by kernel_rfl
 m19:=by kernel_rfl}
def Tryz.aDK:Go.Shelf.Ren:=⟨fun|171=>181|243=>189|246=>201|283=>216|284=>217|285=>218|286=>219|129=>229|317=>228|318=>230|319=>231|320=>232|337=>235|338=>236|n=>n,fun|3=>3|9=>9|2=>2|4=>4|171=>213|0=>0|53=>214|37=>22|5=>5|173=>217|212=>232|51=>222|20=>20|213=>233|46=>144|232=>244|233=>245|n=>n,fun|17=>3|18=>6|19=>7|n=>n⟩
def Tryz.aDJ:Go.Proofs.Lays.n171 Tryz.prog Tryz.aDK:={
 mixed:=by kernel_rfl
 f129:=bA RH
 f171:=bA Ry
 f243:=bA Rz
 f246:=bA RA
 f283:=bA RC
 f284:=bA RD
 f285:=bA RE
 f286:=bA RF
 f317:=bA RG
 f318:=bA RI
 f319:=bA RJ
 f320:=bA RL
 f337:=bA RM
 f338:=bA RN
 t0:=II
 a0:=IA
 z0:=ID
 v0:=IL
 t2:=Sw
 a2:=RO
 z2:=RW
 v2:=SI
 t3:=kO
 a3:=E9
 z3:=Fe
 v3:=Fk
 t4:=zD
 a4:=Fa
 z4:=Ff
 v4:=Fl
 t5:=Fj
 a5:=Fb
 z5:=Fg
 v5:=Fm
 t9:=iz
 a9:=Fc
 z9:=Fh
 v9:=Fo
 t20:=Mq
 a20:=Mm
 z20:=Mo
 v20:=Ms
 t37:=Mr
 a37:=Mn
 z37:=Mp
 v37:=Mt
 t46:=IJ
 a46:=IB
 z46:=IE
 v46:=IM
 t51:=IK
 a51:=IC
 z51:=IG
 v51:=IP
 t53:=Sy
 a53:=RQ
 z53:=RY
 v53:=SK
 t171:=Sx
 a171:=RP
 z171:=RX
 v171:=SJ
 t173:=Sz
 a173:=RR
 z173:=RZ
 v173:=SL
 t212:=SD
 a212:=RS
 z212:=R7
 v212:=SN
 t213:=SE
 a213:=RT
 z213:=R8
 t232:=SF
 a232:=RU
 z232:=Su
 v232:=SP
 t233:=SG
 a233:=RV
 z233:=Sv
 v233:=SQ
 g17:=by kernel_rfl
 g18:=by kernel_rfl
 g19:=by kernel_rfl}
open Go.RowKit Go.Sort Go.Lib in
def Tryz.strconv_Itoa_small(i:Nat)(h:i<100)(w:World) :
  Calls Tryz.prog 181 #[.int .i64 i] w fun e w'=>e=.returned (.string ⟨(Lib.decDigits i).toArray⟩)/\w'=w:=Any.strconv_Itoa_small Tryz.aDJ i h w
def Tryz.aDO:Go.Shelf.Ren:=⟨fun|172=>185|244=>197|245=>198|247=>211|279=>212|280=>213|281=>214|282=>215|287=>225|316=>226|171=>181|205=>227|321=>233|322=>234|243=>189|246=>201|283=>216|284=>217|285=>218|286=>219|129=>229|317=>228|318=>230|319=>231|320=>232|337=>235|338=>236|n=>n,fun|9=>9|3=>3|75=>190|76=>191|4=>4|5=>5|167=>207|37=>22|0=>0|85=>208|2=>2|168=>210|53=>214|175=>225|46=>144|210=>229|127=>203|145=>242|143=>240|21=>21|171=>213|173=>217|212=>232|51=>222|20=>20|213=>233|232=>244|233=>245|80=>198|n=>n,fun|15=>1|16=>2|17=>3|18=>6|19=>7|n=>n⟩
def Tryz.aDN:Go.Proofs.LaysC.n172 Tryz.prog Tryz.aDO:={
 mixed:=by kernel_rfl
 f129:=bA RH
 f171:=bA Ry
 f172:=bA Tryz.func185
 f205:=bA Tryz.func227
 f243:=bA Rz
 f244:=bA Tryz.func197
 f245:=bA Tryz.func198
 f246:=bA RA
 f247:=bA Tryz.func211
 f279:=bA Tryz.func212
 f280:=bA Tryz.func213
 f281:=bA Tryz.func214
 f282:=bA Tryz.func215
 f283:=bA RC
 f284:=bA RD
 f285:=bA RE
 f286:=bA RF
 f287:=bA Tryz.func225
 f316:=bA Tryz.func226
 f317:=bA RG
 f318:=bA RI
 f319:=bA RJ
 f320:=bA RL
 f321:=bA Tryz.func233
 f322:=bA Tryz.func234
 f337:=bA RM
 f338:=bA RN
 t0:=II
 a0:=IA
 z0:=ID
 v0:=IL
 t2:=Sw
 a2:=RO
 z2:=RW
 v2:=SI
 t3:=kO
 a3:=E9
 z3:=Fe
 v3:=Fk
 t4:=zD
 a4:=Fa
 z4:=Ff
 v4:=Fl
 t5:=Fj
 a5:=Fb
 z5:=Fg
 v5:=Fm
 t9:=iz
 a9:=Fc
 z9:=Fh
 v9:=Fo
 t20:=Mq
 a20:=Mm
 z20:=Mo
 v20:=Ms
 t21:=Zo
 a21:=Tryz.isAgg21
 z21:=Tryz.sizeOf21
 v21:=Zv
 t37:=Mr
 a37:=Mn
 z37:=Mp
 v37:=Mt
 t46:=IJ
 a46:=IB
 z46:=IE
 v46:=IM
 t51:=IK
 a51:=IC
 z51:=IG
 v51:=IP
 t53:=Sy
 a53:=RQ
 z53:=RY
 v53:=SK
 t75:=Zl
 a75:=Tryz.isAgg190
 z75:=Zh
 v75:=Zs
 t76:=Zm
 a76:=Tryz.isAgg191
 z76:=Zi
 v76:=Zt
 t85:=Tryz.underlying208
 a85:=Tryz.isAgg208
 z85:=Tryz.sizeOf208
 v85:=Tryz.zeroValue208
 t127:=Zn
 a127:=Tryz.isAgg203
 z127:=Zj
 v127:=Zu
 t143:=Tryz.underlying240
 a143:=Tryz.isAgg240
 z143:=Tryz.sizeOf240
 v143:=Tryz.zeroValue240
 t145:=Tryz.underlying242
 a145:=Tryz.isAgg242
 z145:=Tryz.sizeOf242
 v145:=Tryz.zeroValue242
 t167:=Tryz.underlying207
 a167:=Tryz.isAgg207
 z167:=Tryz.sizeOf207
 v167:=Tryz.zeroValue207
 t168:=Tryz.underlying210
 a168:=Tryz.isAgg210
 z168:=Tryz.sizeOf210
 v168:=Tryz.zeroValue210
 t171:=Sx
 a171:=RP
 z171:=RX
 v171:=SJ
 t173:=Sz
 a173:=RR
 z173:=RZ
 v173:=SL
 t175:=Tryz.underlying225
 a175:=Tryz.isAgg225
 z175:=Tryz.sizeOf225
 v175:=Tryz.zeroValue225
 t210:=Tryz.underlying229
 a210:=Tryz.isAgg229
 z210:=Tryz.sizeOf229
 v210:=Tryz.zeroValue229
 t212:=SD
 a212:=RS
 z212:=R7
 v212:=SN
 t213:=SE
 a213:=RT
 z213:=R8
 t232:=SF
 a232:=RU
 z232:=Su
 v232:=SP
 t233:=SG
 a233:=RV
 z233:=Sv
 v233:=SQ
 g15:=by kernel_rfl
 g16:=by kernel_rfl
 g17:=by kernel_rfl
 g18:=by kernel_rfl
 g19:=by kernel_rfl
 t80:=Tryz.underlying198
 a80:=Tryz.isAgg198
 z80:=Tryz.sizeOf198
 v80:=Tryz.zeroValue198
 i0:=by kernel_rfl
 i2:=by kernel_rfl
 i3:=by kernel_rfl
 i4:=by kernel_rfl
 i5:=by kernel_rfl
 i9:=by kernel_rfl
 i20:=by kernel_rfl
 i21:=by kernel_rfl
 i37:=by kernel_rfl
 i46:=by kernel_rfl
 i51:=by kernel_rfl
 i53:=by kernel_rfl
 i75:=by kernel_rfl
 i76:=by kernel_rfl
 i80:=by kernel_rfl
 i85:=by kernel_rfl
 i127:=by kernel_rfl
 i143:=by kernel_rfl
 i145:=by kernel_rfl
 i167:=by kernel_rfl
 i168:=by kernel_rfl
 i171:=by kernel_rfl
 i173:=by kernel_rfl
 i175:=by kernel_rfl
 i210:=by kernel_rfl
 i212:=by kernel_rfl
 i232:=by kernel_rfl
 i233:=by kernel_rfl
 m15:=by kernel_rfl
 m16:=by kernel_rfl
 m17:=by kernel_rfl
 m18:=by kernel_rfl
 m19:=by kernel_rfl
 c0:=by kernel_rfl
 c2:=by kernel_rfl
 c3:=by kernel_rfl
 c4:=by kernel_rfl
 c5:=by kernel_rfl
 c9:=by kernel_rfl
 c20:=by kernel_rfl
 c21:=by kernel_rfl
 c37:=by kernel_rfl
 c46:=by kernel_rfl
 c51:=by kernel_rfl
 c53:=by kernel_rfl
 c75:=by kernel_rfl
 c76:=by kernel_rfl
 c80:=by kernel_rfl
 c85:=by kernel_rfl
 c127:=by kernel_rfl
 c143:=by kernel_rfl
 c145:=by kernel_rfl
 c167:=by kernel_rfl
 c168:=by kernel_rfl
 c171:=by kernel_rfl
 c173:=by kernel_rfl
 c175:=by kernel_rfl
 c210:=by kernel_rfl
 c212:=by kernel_rfl
 c213:=by kernel_rfl
 c232:=by kernel_rfl
 c233:=by kernel_rfl}
open Go.RowKit in
def Tryz.strconv_Atoi_err(s:ByteArray)(l:s.size<=18)(h:Lib.atoi s.data.toList=none)(ev:Value)(w:World)(a:w.cell? ⟨1,0,none⟩=some ev)(v:ev=.nilIface\/∃t p,ev=.iface t p) :
  Calls Tryz.prog 185 #[.string s] w fun e w'=>∃N,e=.returned (.tuple #[.int .i64 0,.iface 210 (.pointer (some ⟨N,0,none⟩))])/\w.heap.size<=N/\w'.heap[N]? =some (.cells #[.string ⟨#[65,116,111,105]⟩,.string s,ev] 229 (0,0))/\Below w.heap.size w w':=Any.strconv_Atoi_err Tryz.aDN s l h ev w a v
def Tryz.aDG:Go.Shelf.Ren:=⟨fun|145=>172|220=>184|219=>196|217=>207|225=>208|224=>209|267=>210|266=>223|314=>224|n=>n,fun|9=>9|4=>4|59=>184|3=>3|5=>5|46=>144|146=>223|51=>222|n=>n,fun|1=>0|n=>n⟩
def Tryz.aDF:Go.Proofs.Lays.n145 Tryz.prog Tryz.aDG:={
 mixed:=by kernel_rfl
 f145:=bA Tryz.func172
 f217:=bA Tryz.func207
 f219:=bA Tryz.func196
 f220:=bA Tryz.func184
 f224:=bA Tryz.func209
 f225:=bA Tryz.func208
 f266:=bA Tryz.func223
 f267:=bA Tryz.func210
 f314:=bA Tryz.func224
 t3:=kO
 a3:=E9
 z3:=Fe
 v3:=Fk
 t4:=zD
 a4:=Fa
 z4:=Ff
 v4:=Fl
 t5:=Fj
 a5:=Fb
 z5:=Fg
 v5:=Fm
 t9:=iz
 a9:=Fc
 z9:=Fh
 v9:=Fo
 t46:=IJ
 a46:=IB
 z46:=IE
 v46:=IM
 t51:=IK
 a51:=IC
 z51:=IG
 v51:=IP
 t59:=Tryz.underlying184
 a59:=Tryz.isAgg184
 z59:=Tryz.sizeOf184
 v59:=Tryz.zeroValue184
 t146:=Tryz.underlying223
 a146:=Tryz.isAgg223
 z146:=Tryz.sizeOf223
 v146:=Tryz.zeroValue223
 g1:=by kernel_rfl}
open Go.RowKit Go.Lib in
def Tryz.strings_Cut(s sep:ByteArray)(m:Int)(w:World)(h:s.size<4294967281)(a:w.cell? ⟨0,0,none⟩=some (.int .i64 m)) :
  Calls Tryz.prog 172 #[.string s,.string sep] w fun e w'=>e=.returned (.tuple #[.string ⟨(Lib.cut s.data.toList sep.data.toList).1.toArray⟩,.string ⟨(Lib.cut s.data.toList sep.data.toList).2.1.toArray⟩,.bool (Lib.cut s.data.toList sep.data.toList).2.2])/\∃n,w'=w.drewN n:=Any.strings_Cut Tryz.aDF s sep m w h a
def Tryz.aDI:Go.Shelf.Ren:=⟨fun|146=>171|221=>183|268=>193|138=>194|143=>195|195=>204|197=>205|218=>206|219=>196|260=>222|217=>207|225=>208|224=>209|267=>210|266=>223|314=>224|n=>n,fun|9=>9|31=>26|3=>3|4=>4|0=>0|105=>204|21=>21|5=>5|46=>144|119=>235|139=>238|138=>237|146=>223|51=>222|n=>n,fun|1=>0|3=>4|4=>5|n=>n⟩
def Tryz.aDH:Go.Proofs.Lays.n146 Tryz.prog Tryz.aDI:={
 mixed:=by kernel_rfl
 f138:=bA Tryz.func194
 f143:=bA Tryz.func195
 f146:=bA Tryz.func171
 f195:=bA Tryz.func204
 f197:=bA Tryz.func205
 f217:=bA Tryz.func207
 f218:=bA Tryz.func206
 f219:=bA Tryz.func196
 f221:=bA Tryz.func183
 f224:=bA Tryz.func209
 f225:=bA Tryz.func208
 f260:=bA Tryz.func222
 f266:=bA Tryz.func223
 f267:=bA Tryz.func210
 f268:=bA Tryz.func193
 f314:=bA Tryz.func224
 t0:=II
 a0:=IA
 z0:=ID
 v0:=IL
 t3:=kO
 a3:=E9
 z3:=Fe
 v3:=Fk
 t4:=zD
 a4:=Fa
 z4:=Ff
 v4:=Fl
 t5:=Fj
 a5:=Fb
 z5:=Fg
 v5:=Fm
 t9:=iz
 a9:=Fc
 z9:=Fh
 v9:=Fo
 t21:=Zo
 a21:=Tryz.isAgg21
 z21:=Tryz.sizeOf21
 v21:=Zv
 t31:=eX
 a31:=Tryz.isAgg26
 z31:=Tryz.sizeOf26
 v31:=Tryz.zeroValue26
 t46:=IJ
 a46:=IB
 z46:=IE
 v46:=IM
 t51:=IK
 a51:=IC
 z51:=IG
 v51:=IP
 t105:=Tryz.underlying204
 a105:=Tryz.isAgg204
 z105:=Tryz.sizeOf204
 v105:=Tryz.zeroValue204
 t119:=Tryz.underlying235
 a119:=Tryz.isAgg235
 z119:=Tryz.sizeOf235
 t138:=Tryz.underlying237
 a138:=Tryz.isAgg237
 z138:=Tryz.sizeOf237
 v138:=Tryz.zeroValue237
 t139:=Tryz.underlying238
 a139:=Tryz.isAgg238
 z139:=Tryz.sizeOf238
 v139:=Tryz.zeroValue238
 t146:=Tryz.underlying223
 a146:=Tryz.isAgg223
 z146:=Tryz.sizeOf223
 v146:=Tryz.zeroValue223
 g1:=by kernel_rfl
 g3:=by kernel_rfl
 g4:=by kernel_rfl}
open Go.RowKit Go.Lib in
def Tryz.strings_Split(s sep:ByteArray)(m:Int)(w:World)(h:s.size<4294967281)(a:w.cell? ⟨0,0,none⟩=some (.int .i64 m))(h1:1<=sep.size) :
  Calls Tryz.prog 171 #[.string s,.string sep] w fun e w'=>
   e=.returned (.slice (some ⟨w.heap.size,0,none⟩) (Lib.countB s sep+1) (Lib.countB s sep+1))/\w'=w.alloc (.cells ((Lib.splitB sep 0 (Lib.countB s sep) s).map Value.string).toArray 9):=Any.strings_Split Tryz.aDH (by kernel_rfl) s sep m w h a h1
end Go.Proofs
namespace Go.Proofs.YtoomhbopolalnabGreatDoor
variable {a b m sep:ByteArray}{x:Call}{l:List Cell}{n:Nat}{p q:Part}{α:Type}
section
open Go.RowKit Go
variable [GC]
def bs(l:List UInt8):ByteArray:=⟨l.toArray⟩
@[simp] def axF (l:List UInt8):(bs l).data.toList=l:=by simp[bs]
def ahn(s:ByteArray):bs s.data.toList=s:=by simp[bs]
@[simp] def Ba (l:List UInt8):(bs l).size=l.length:=by simp[bs,ByteArray.size]
def axE{l m:List UInt8}(h:bs l=bs m):l=m:=by have:=congrArg (fun s:ByteArray=>s.data.toList) h;simpa using this
@[simp] def aLx (l m:List UInt8):bs l=bs m↔l=m:=⟨axE,fun h=>by rw[h]⟩
def axD(l m:List UInt8):bs l++bs m=bs (l++m):=by apply Rc;simp[bs]
class aLh:Prop where
 h:∀w:World,qd w->Yv w 3 fun cs=>cs=(Lib.pow10Tab.map fun z=>Value.int .u64 z).toArray
class aLg:Prop where
 h:∀w:World,qd w->Yv w 0 fun cs=>∃m,cs[0]? =some (Value.int .i64 m)
class aLf:Prop where
 h:∀w:World,qd w->Yv w 1 fun cs=>∃tp p,cs=#[.iface tp p]
def azz(h1:¬n<10)(h2:n<1000):jD n=jD (n/10)++[UInt8.ofNat (48+n%10)]:=by rw[<-aif h2, <-aif (n:=n/10) (by omega),Lib.decDigits,dif_neg h1]
def azA(n:Nat):strOfNums [IntKind.u8.wrap (IntKind.i64.wrap (48+(n:Int).tmod 10))]=bs [UInt8.ofNat (48+n%10)]:=by
 have h:(n:Int).tmod 10=((n%10:Nat):Int):=by rw[Int.tmod_eq_emod_of_nonneg (by omega)];omega
 rw[h,wrap_i64 (by omega) (by omega)];have a:IntKind.u8.wrap (48+((n%10:Nat):Int))=((48+n%10:Nat):Int):=by simp only[IntKind.wrap,IntKind.bits,IntKind.signed];simp;omega
 rw[a];unfold strOfNums bs;simp only[jA,qQ,gR]
def aFx(n:Nat)(h:n<1000):dL .quo .i64 n 10=((n/10:Nat):Int):=by
 simp only[dL];have a:(n:Int).tdiv 10=((n/10:Nat):Int):=by rw[Int.tdiv_eq_ediv_of_nonneg (by omega)];omega
 rw[a,wrap_i64 (by omega) (by omega)]
def ahD:∀{n:Nat},n<1000->aH Tryz.prog 149 none [.int .i64 n] (.str (bs (jD n))) []:=by
 intro n;induction n using Nat.strongRecOn with
 |ind n ih=>
  intro a;have b:MH (.sl ([[D.int .u8 (IntKind.u8.wrap (dL .add .i64 48 (dL .rem .i64 (n:Int) 10)))]]))=bs [UInt8.ofNat (48+n%10)]:=by rw[<-azA];rfl
  refine cu ap4 aoQ (by simp[aoQ,fO,bG,dH,cJ]) fun f=> ?_;unfold ap4;refine ai (fun h=> ?_) (fun _=> ?_)
  ·simp[E.den,bg]at h
  refine ai (fun h=> ?_) (fun _=> ?_)
  ·simp[E.den,bg]at h;omega
  refine aM (fun _=>rfl) ?_;apply ai<;>intro h
  ·simp[E.den,bg]at h;refine aM (fun _=>rfl) ?_;refine FF (xs:=[.int .i64 ((n/10:Nat):Int)]) ?_ (ih (n/10) (by omega) (by omega)) trivial ?_
   ·simp[E.den,aFx n a]
   refine aM (fun _=> ?_) (ay ?_)
   ·simp only[eS];rw[b,Ba,Ba];have:=aah (n:=n/10) (by omega);simp;unfold maxLen;omega
   ·simp only[eS];rw[b,axD,azz (n:=n) (by omega) a]
  ·simp[E.den,bg]at h;refine ay ?_;simp only[eS];rw[b];have:jD n=[UInt8.ofNat (48+n%10)]:=by unfold jD;rw[aC (by omega)];congr;omega
   rw[this]
def GI(s:ByteArray):Int:=match Ad s.data.toList with|some n=>n|none=>0
def Ac(s:ByteArray):Bool:=(Ad s.data.toList).isSome
def GG(s:ByteArray):D:=.aU [.int .i64 (GI s),.bool (Ac s)]
def aIU(s:ByteArray):bG aJ.tab (.aU [.c (.int .i64),.c .bool]) (GG s):=⟨rfl,trivial,trivial⟩
def ami{s:ByteArray}(h:Ad s.data.toList=some n):GI s=n:=by unfold GI;rw[h]
def aE0{s:ByteArray}(h:Ad s.data.toList=some n):Ac s=true:=by unfold Ac;rw[h];rfl
def aEY{s:ByteArray}(h:Ad s.data.toList=none):GI s=0:=by unfold GI;rw[h]
def aEZ{s:ByteArray}(h:Ad s.data.toList=none):Ac s=false:=by unfold Ac;rw[h];rfl
def aE1{s:ByteArray}(h:Ac s=true):∃n:Nat,n<1000/\s=bs (jD n)/\GI s=n:=by unfold Ac at h;obtain⟨n,a⟩:=Ml.1 h;obtain⟨b,c⟩:=acW.1 a;exact⟨n,b,by rw[c,ahn],ami a⟩
def size_data(s:ByteArray):s.data.toList.length=s.size:=uV
def tE(l:List UInt8)(k:Nat):Int:=(l.take k).foldl (fun n c=>10*n+(c.toNat:Int)-48) 0
def GU:Nat->Int
 |0=>0
 |k+1=>10*GU k+255
def am4{l:List UInt8}{k:Nat}(h:k<l.length):tE l (k+1)=10*tE l k+(l[k].toNat:Int)-48:=by unfold tE;rw[Mi,bX h,Option.toList_some,List.foldl_append];rfl
def am3(l:List UInt8):∀k, -GU k<=tE l k/\tE l k<=GU k
 |0=>by simp[tE,GU]
 |k+1=>by
  have ih:=am3 l k;rcases dP k l.length with h|h
  ·rw[am4 h];have:=l[k].toNat_lt;simp only[GU];omega
  ·have:tE l (k+1)=tE l k:=by unfold tE;rw[A7 h,A7 (by omega)]
   rw[this];simp only[GU];omega
def aFN:∀k,k<=4->GU k<=283305
 |0,_=>by decide
 |1,_=>by decide
 |2,_=>by decide
 |3,_=>by decide
 |4,_=>by decide
 |k+5,h=>by omega
def aFO(l:List UInt8){k:Nat}(h:k=4\/l.length<=k/\k<=4):tE l k=wu l:=by
 unfold tE wu;rcases h with rfl|⟨a,b⟩
 ·rfl
 ·rw[A7 a,A7 (by omega)]
def axr{s:ByteArray}{k:Nat}(h:k<s.data.toList.length):((s[k]?).map (fun (c:UInt8)=>(c.toNat:Int))).getD 0=((s.data.toList[k]).toNat:Int):=by
 have a:k<s.size:=by rw[size_data]at h;exact h
 rw[getElem?_pos s k a];simp[ByteArray.getElem_eq_getElem_data]
def ayp(s:ByteArray):aH Tryz.prog 200 none [.str s] (GG s) []:=by
 refine cu aqt aoT (by simp[aoT,fO,bG,dH,cJ]) fun f=> ?_;have d:s.size<=maxLen:=by simp[dI,Fits]at f;exact f
 unfold aqt;refine cQ 4 (fun k=>[.int .i64 (tE s.data.toList k),.int .i64 k]) (fun k=>k<=s.size) rfl (fW _) (fun k i I _=> ?_);have j:=am3 s.data.toList k;have B:=aFN k i;apply ai<;>intro h<;>simp only[eS]at h
 ·simp at h;obtain⟨o,p⟩:=h;have l:k<s.data.toList.length:=by rw[size_data];omega
  refine aM (fun _=> ?_) ?_
  ·simp only[eS];simp;omega
  refine cK (by omega) ?_ (by omega);have w:=(s.data.toList[k]).toNat_lt;simp only[eS];rw[am4 l];have z:Di s k=((s.data.toList[k]).toNat:Int):=axr l;simp only[dL,z];rw[wrap_i64 (n:=10*tE s.data.toList k) (by omega) (by omega),wrap_i64 (n:=(s.data.toList[k].toNat:Int)) (by omega) (by omega),wrap_i64 (n:=10*tE s.data.toList k+_) (by omega) (by omega),wrap_i64 (n:=_-48) (by omega) (by omega),wrap_i64 (by omega) (by omega)];rfl
 ·simp at h;have q:tE s.data.toList k=wu s.data.toList:=aFO _ (by rw[size_data];omega);rw[q]at j ⊢;refine wZ (xs:=[.int .i64 (wu s.data.toList)]) (r:=.str (bs (jD (wu s.data.toList).toNat))) rfl (fun g=> ?_) trivial ?_
  ·simp only[cP,fI,tZ,wU,A8]at g;simp only[eS]at g;simp at g;have e:wu s.data.toList=((wu s.data.toList).toNat:Int):=by omega
   rw[e];exact ahD (by omega)
  apply ai<;>intro h<;>simp only[eS]at h
  ·refine ay ?_;simp only[eS];have n:Ad s.data.toList=none:=by
    cases r:Ad s.data.toList with
    |none=>rfl
    |some m=>
     exfalso;obtain⟨q1,q2⟩:=acW.1 r;have q3:=azy q1;rw[q2]at q3;have q4:=azx q1;rw[q2,size_data]at q4;have a:bs (jD m)=s:=by rw[q2,ahn]
     have b:s≠ByteArray.empty:=by rintro rfl;simp at q4
     rw[q3]at h;simp[a,b]at h;omega
   rw[GG,aEY n,aEZ n]
  ·simp at h;obtain⟨⟨⟨o,p⟩,y⟩,t⟩:=h;refine ay ?_;simp only[eS];have e:wu s.data.toList=((wu s.data.toList).toNat:Int):=by omega
   have u:jD (wu s.data.toList).toNat=s.data.toList:=by have v:=congrArg (fun x:ByteArray=>x.data.toList) t;simpa using v
   have c:=acW.2 ⟨(by omega:(wu s.data.toList).toNat<1000),u⟩;rw[GG,ami c,aE0 c, <-e]
class Sm(α:Type) where
 sm:α->Prop
instance :Sm ByteArray:=⟨fun s=>s.size<=1048576⟩
instance {α:Type}[Inhabited α][Sm α]:Sm (List α):=⟨fun l=>l.length<=1048576/\∀k,k<l.length->Sm.sm (nth l k)⟩
instance :Sm wK:=⟨fun x=>Sm.sm x.name⟩
instance :Sm Cell:=⟨fun x=>Sm.sm x.key⟩
instance :Sm Core:=⟨fun x=>Sm.sm x.kind/\Sm.sm x.cells⟩
instance :Sm Call:=⟨fun x=>Sm.sm x.method/\Sm.sm x.key/\Sm.sm x.text⟩
instance :Sm gH:=⟨fun x=>Sm.sm x.text⟩
instance :Sm Part:=⟨fun x=>Sm.sm x.core/\Sm.sm x.ak⟩
instance :Sm lQ:=⟨fun x=>True⟩
instance :Sm mr:=⟨fun x=>Sm.sm x.ko⟩
instance :Sm Entry:=⟨fun x=>Sm.sm x.name/\Sm.sm x.recipe/\Sm.sm x.needs⟩
instance :Sm il:=⟨fun x=>Sm.sm x.ko/\Sm.sm x.to⟩
instance :Sm Event:=⟨fun x=>Sm.sm x.name/\Sm.sm x.call/\Sm.sm x.recipe⟩
instance :Sm Host:=⟨fun x=>Sm.sm x.entries/\Sm.sm x.parts/\Sm.sm x.up/\Sm.sm x.shut/\Sm.sm x.log⟩
def tA(l:List ByteArray)(sep:ByteArray):ByteArray:=⟨(Lib.join (l.map (·.data.toList)) sep.data.toList).toArray⟩
def Vo(l:List ByteArray)(sep:ByteArray):(tA l sep).size=(Lib.join (l.map (·.data.toList)) sep.data.toList).length:=Ba _
def aho(s:ByteArray):bs s.data.toList=s:=by simp[bs]
def alf{l:List ByteArray}{k:Nat}(h:k<l.length)(sep:ByteArray):tA (l.take (k+1)) sep=if k=0 then nth l k else tA (l.take k) sep++sep++nth l k:=by
 cases l with
 |nil=>simp at h
 |cons x r=>
  cases k with
  |zero=> rw[aC rfl];show bs (Lib.join [x.data.toList] _)=_;rw[Lib.join_one,aho];rfl
  |succ j=>
   rw[aw (by omega)];have a:j<r.length:=by simpa using h
   have e:(r.map (·.data.toList))[j]? =some ((nth (x::r) (j+1)).data.toList):=by simp[nth,a]
   simp only[tA,Rp,jA,E7,Lib.join_cons];rw[Lib.joinTail_take_succ _ _ _ _ e];apply Rc;simp[ByteArray.data_append]
def aDq(l:List ByteArray)(sep:ByteArray)(k:Nat):(tA (l.take k) sep).size<=(tA l sep).size:=by
 rw[Vo,Vo];cases l with
 |nil=>simp
 |cons x r=>
  cases k with
  |zero=>simp[Lib.join_nil]
  |succ j=> simp only[Rp,jA,E7,Lib.join_cons,iZ];have:=Lib.joinTail_take_le sep.data.toList (r.map (·.data.toList)) j;omega
def aDp{l:List ByteArray}(h:∀k,k<l.length->(nth l k).size<=n):(tA l sep).size<=l.length*(n+sep.size):=by
 have:∀k,k<=l.length->(tA (l.take k) sep).size<=k*(n+sep.size):=by
  intro k;induction k with
  |zero=>intro _;simp[Vo,Lib.join_nil]
  |succ k ih=>
   intro a;have b:=ih (by omega);have c:=h k (by omega);rw[alf (by omega),iK];split
   ·omega
   ·simp only[A5];omega
 simpa using this l.length (bM _)
def ayi(l:List ByteArray)(sep:ByteArray)(N:l.length<=140737488355328)(n:(tA l sep).size<=140737488355328):aH Tryz.prog 150 none [aj l,.str sep] (.str (tA l sep)) []:=by
 refine cu aqh aJe ⟨jW l,trivial,trivial⟩ fun f=> ?_;unfold aqh;refine cQ l.length (fun k=>[.str (tA (l.take k) sep),.int .i64 k]) (fun _=>True) rfl trivial ?_;intro k c I _;simp only[cA];apply ai<;>intro h<;>simp only[eS]at h
 ·have h:k<l.length:=by simp at h;exact h
  refine eu ?_;have b:=aDq l sep (k+1);have e:=alf h sep;apply ai<;>intro a<;>simp only[eS]at a
  ·have a:k≠0:=by simp at a;omega
   rw[aw a]at e;rw[e,A5,A5]at b;refine aM (fun _=> ?_) ?_
   ·simp only[eS];simp[maxLen];exact Mu (by omega)
   refine aM (fun _=> ?_) ?_
   ·simp only[eS,gZ,eO];simp[maxLen,A5];omega
   refine cK h ?_ trivial;simp only[eS,gZ,eO];rw[bC,e];rfl
  ·have a:k=0:=by simp at a;omega
   subst a;rw[aC rfl]at e;rw[e]at b;refine aM (fun _=> ?_) ?_
   ·simp only[eS,gZ,eO];simp[maxLen,Vo,Lib.join_nil];omega
   refine cK h ?_ trivial;simp only[eS,gZ,eO];rw[e];have:tA [] sep++nth l 0=nth l 0:=by apply Rc;simp[tA,Lib.join_nil,ByteArray.data_append]
   rw[this];rfl
 ·obtain rfl:k=l.length:=by simp at h;omega
  refine ay ?_;simp only[eS];rw[uY]
def aaf{p:Prop}[Decidable p](h:p):D.bool (decide p)=.bool true:=by simp[h]
def al0{s:ByteArray}(h:kX s=true):s.size<=8:=by unfold kX at h;simp at h;omega
def alR{a:Type}[Inhabited α](f:α->a){l:List α}{k:Nat}(h:k<l.length):(l.take (k+1)).map f=(l.take k).map f++[f (nth l k)]:=by rw[Za h,zC];simp[nth,h]
def aDu{s:ByteArray}(h:kindOk s=true):s.size<=8:=by
 unfold kindOk BQ at h;repeat' split at h
 all_goals first
  |(rename_i e;rw[e];decide)
  |simp at h
def aDB{s:ByteArray}(h:pM s=true):s.size<=8:=by
 unfold pM zY at h;repeat' split at h
 all_goals first
  |(rename_i e;rw[e];decide)
  |simp at h
def aaQ{p:Nat->Bool}:∀{n:Nat},eA p n=none->∀i,i<n->p i=false
 |0,_,i,h=>by omega
 |n+1,h,i,c=>by
  simp only[eA]at h;split at h
  ·cases h
  ·rename_i a;split at h
   ·cases h
   ·rename_i b;by_cases e:i=n
    ·subst e;simpa using b
    ·exact aaQ a i (by omega)
def avf{s:ByteArray}(h:(kJ p s).2.code=0):pM s=true/\p.ak.length<3/\(kJ p s).1.ak.length=p.ak.length+1:=by
 unfold kJ at h ⊢;split at h
 ·simp[rep]at h
 rename_i a;split at h
 ·simp[rep]at h
 rename_i b;split at h
 ·simp[rep]at h
 rename_i c;rw[aw a,aw b,aw c];exact⟨by grind,by omega,by simp⟩
def adn{l:List ByteArray}(h:jH l=true):l.length<=4/\∀k,k<l.length->(nth l k).size<=8:=by
 unfold jH dZ at h;split at h
 ·simp[rep]at h
 rename_i g;have b:kindOk (nth l 0)=true:=by grind
 split at h
 ·rename_i k a;have c:∀{n:Nat} {p:Nat->Bool},eA p n=some k->p k=true:=by
   intro n;induction n with
   |zero=>intro p h;simp[eA]at h
   |succ n ih=>
    intro p h;simp only[eA]at h;split at h
    ·rename_i j d;cases h;exact ih d
    ·split at h
     ·cases h;assumption
     ·cases h
  have:=c a;grind
 rename_i e;have w:∀k,k<l.length-1->(tN l k).code=0:=fun k a=>by simpa using aaQ e k a
 have s:∀k,k<=l.length-1->(gO l k).ak.length=k:=by
  intro k;induction k with
  |zero=>intro _;simp[gO,rA]
  |succ k ih=> intro a;have:=avf (w k (by omega));simp only[gO];rw[this.2.2,ih (by omega)]
 refine⟨?_,fun k a=> ?_⟩
 ·have f:=(EN l (l.length-1)).2;rw[s _ (bM _)]at f;omega
 ·cases k with
  |zero=>exact aDu b
  |succ k=>exact aDB (avf (w k (by omega))).1
def pieces(s sep:ByteArray):List ByteArray:=(Lib.split s.data.toList sep.data.toList).map bs
def alT{x:List UInt8}:∀{l:List (List UInt8)},x∈l->x.length<=Lib.lens l
 |y::r,h=>by
  have e:Lib.lens (y::r)=y.length+Lib.lens r:=by simp[Lib.lens]
  rw[e];rcases fI.1 h with rfl|h
  ·omega
  ·have:=alT h;omega
def aHl{s sep:List UInt8}(h:sep≠[]):(Lib.split s sep).length<=s.length+1/\∀x∈Lib.split s sep,x.length<=s.length:=by
 obtain⟨b,c⟩:=acB h s.length s (bM _);have p:0<sep.length:=Y7.2 h;cases l:Lib.split s sep with
 |nil=>exact absurd l c
 |cons y r=>
  rw[l,Lib.join_cons]at b;have e:=congrArg List.length b;rw[iZ,Lib.joinTail_length]at e;have:r.length<=sep.length*r.length:=Nat.le_mul_of_pos_left _ p;refine⟨by simp;omega,fun x a=> ?_⟩;rcases fI.1 a with rfl|a
  ·omega
  ·have:=alT a;omega
def amI{s:ByteArray}(h:1<=sep.size):(pieces s sep).length<=s.size+1/\∀x∈pieces s sep,x.size<=s.size:=by
 have n:sep.data.toList≠[]:=fun e=>by
  have:sep.size=0:=by rw[<-size_data,e];rfl
  omega
 obtain⟨a,b⟩:=aHl (s:=s.data.toList) n;rw[size_data]at a;refine⟨by unfold pieces;rw[di];exact a,fun x c=> ?_⟩;obtain⟨y,d,rfl⟩:=fJ.1 c;have:=b y d;rw[size_data]at this;rw[Ba];exact this
def aFp{s:ByteArray}(h:1<=sep.size){k:Nat}(a:k<(pieces s sep).length):(nth (pieces s sep) k).size<=s.size:=(amI h).2 _ (gK a)
def zh:ByteArray:=⟨#[61]⟩
def Pp:ByteArray:=⟨#[45]⟩
def ju:ByteArray:=⟨#[44]⟩
def Wo:(⟨#[61]⟩:ByteArray)=zh:=rfl
def aoc:(⟨#[45]⟩:ByteArray)=Pp:=rfl
def aob:(⟨#[44]⟩:ByteArray)=ju:=rfl
def adV:zh.size=1:=rfl
def aHE:ju.size=1:=rfl
def zH(c:Cell):ByteArray:=c.key++zh++bs (jD c.val.toNat)
def fmtC(l:List Cell):ByteArray:=if iS l=true then(if l.length=0 then Pp else tA (l.map zH) ju)else cL
def Tx(h:iS l=true){k:Nat}(a:k<l.length):kX (nth l k).key=true/\gL (nth l k).val=true:=by unfold iS at h;simp only[aX]at h;have:=jC.1 h.2 k a;unfold nN at this;simp only[aX]at this;exact this.1
def yp(h:iS l=true):l.length<=4:=by unfold iS at h;simp only[aX,du]at h;exact h.1
def amh{n:Int}(h:gL n=true):∃m:Nat,n=m/\m<1000:=by unfold gL at h;simp only[aX,du]at h;exact⟨n.toNat,by omega,by omega⟩
def ayV{c:Cell}(h1:kX c.key=true)(h2:gL c.val=true):(zH c).size<=12:=by obtain⟨m,e,h⟩:=amh h2;have:=al0 h1;have l:=aah h;unfold zH;rw[e,gR];simp only[A5,adV,Ba];omega
def ah0(h:iS l=true):(tA (l.map zH) ju).size<=52:=by
 have b:=yp h;refine dK (aDp (n:=12) fun k a=> ?_) ?_
 ·have a:k<l.length:=by simpa using a
  have:nth (l.map zH) k=zH (nth l k):=by simp[nth,a]
  rw[this];exact ayV (Tx h a).1 (Tx h a).2
 ·rw[di,aHE];omega
def ai0(l:List Cell):(fmtC l).size<=52:=by
 unfold fmtC;split
 ·rename_i h;split
  ·decide
  ·exact ah0 h
 ·decide
def ahC(l:List Cell):aH Tryz.prog 117 none [aj l] (.str (fmtC l)) []:=by
 refine cu ap3 aI3 ⟨xR l,trivial⟩ fun f=> ?_;unfold ap3;refine aF (ZV l) ?_;refine ai (fun h=>ay ?_) (fun h=> ?_)
 ·simp only[eS]at h ⊢;rw[fmtC,aw (by grind)];rfl
 simp only[eS]at h;have h:iS l=true:=by grind
 have d:=yp h;have j:=ah0 h;have b:(l.map zH).length<=140737488355328:=by rw[di];omega
 refine cQ l.length (fun k=>[aj ((l.take k).map zH),.int .i64 k]) (fun _=>True) rfl trivial ?_;intro k i I _;simp only[cA];apply ai<;>intro a<;>simp only[eS]at a
 ·have a:k<l.length:=by simp at a;exact a
  obtain⟨q1,q2⟩:=Tx h a;obtain⟨m,e,c⟩:=amh q2;have q3:=al0 q1;have n:=aah c;refine eu ?_
  (try (refine aM (fun _=> ?_) ?_;(focus (simp only[eS,sJ,mS,Wo];refine aaf ?_;simp only[A5,adV];unfold maxLen;omega))))
  refine aF (ahD c) ?_ (ha:=by(simp only[gS,sJ,mS,gR,e];try exact rfl))
  (try (refine aM (fun _=> ?_) ?_;(focus (simp only[eS,sJ,mS,Wo];refine aaf ?_;simp only[A5,adV,Ba];unfold maxLen;omega))))
  refine aM (fun _=> ?_) ?_
  ·simp only[eS];simp[maxLen];omega
  refine cK a ?_ trivial;simp only[eS,sJ,mS,Wo];rw[bC,alR _ a];simp[aj,eO,zH,e]
 ·obtain rfl:k=l.length:=by simp at a;omega
  refine ai (fun g=>ay ?_) (fun g=> ?_)
  ·simp only[eS]at g ⊢;have g:l.length=0:=by simpa using g
   rw[fmtC,aC h,aC g];rfl
  ·simp only[eS]at g;have g:l.length≠0:=by simpa using g
   refine aF (ayi (l.map zH) ju b (by omega)) ?_ (ha:=by(simp only[gS,aob,uY];try exact rfl));refine ay ?_;simp only[eS];rw[fmtC,aC h,aw g]
def pcA(x:ByteArray):ByteArray:=bs (Lib.cut x.data.toList [61]).1
def GN(x:ByteArray):ByteArray:=bs (Lib.cut x.data.toList [61]).2.1
def px(x:ByteArray):Cell:=⟨pcA x,GI (GN x)⟩
def Cg(x:ByteArray):Bool:=(Lib.cut x.data.toList [61]).2.2&&Ac (GN x)
def Ce(s:ByteArray):List Cell:=(pieces s ju).map px
def GM(s:ByteArray):Bool:=(pieces s ju).all Cg&&decide ((pieces s ju).length<=4)&&iS (Ce s)
def pP(s:ByteArray):List Cell×Bool:=if s=Pp then([],true)else if GM s=true then(Ce s,true)else([],false)
def aFl{s:ByteArray}(h:(pP s).2=true):iS (pP s).1=true:=by
 unfold pP at h ⊢;split
 ·decide
 ·rename_i b;rw[aw b]at h;split
  ·rename_i a;unfold GM at a;simp only[aX]at a;exact a.2
  ·rename_i a;rw[aw a]at h;cases h
def ax3(n:Int):aH Tryz.prog 134 none [.int .i64 n] (.int .i64 (min (IntKind.i64.wrap (n+1)) 999)) []:=by
 refine CO (by kernel_rfl) fun w M s G h=> ?_;obtain⟨v,q,rfl,⟨rfl,a,b⟩,rfl⟩:=h;show Calls Tryz.prog 134 #[.int .i64 n] w _;go_enter Tryz.func134,Tryz.ntmps134;go_wp2;go_ret;have c: -9223372036854775808<=wrap64 (n+1)/\wrap64 (n+1)<=9223372036854775807:=by unfold wrap64;omega
 refine⟨.int .i64 (min (wrap64 (n+1)) 999),rfl,⟨by rw[<-IntWalk.i64_left],?_,?_⟩,by go_grown⟩
 ·rw[YV];simp only[IntKind.min,IntKind.bits,IntKind.signed];simp;omega
 ·rw[YV];simp only[IntKind.max,IntKind.bits,IntKind.signed];simp;omega
def axX(s:ByteArray):aH Tryz.prog 93 none [.str s] (.int .i64 (cg s)) []:=by
 refine cu apz aIw ⟨trivial,trivial⟩ fun f=> ?_;unfold apz;refine aF (ahu s) ?_;apply ai<;>intro h<;>simp only[eS]at h
 ·have h:jY s<0:=by simpa using h
  exact ay (by simp[E.den,cg,h])
 have h:¬jY s<0:=by simpa using h
 have b:=agQ s;refine aM (fun _=> ?_) (ay ?_)
 ·simp[E.den,bg];omega
 ·have e:=ag3 ⟨(jY s).toNat,by omega⟩;have a:(((jY s).toNat:Nat):Int)=jY s:=by omega
  rw[a]at e;simp only[eS,e];simp[cg,h]
def vY:ByteArray:=⟨#[108,97,122,121]⟩
def yY:ByteArray:=⟨#[114,101,97,100,115]⟩
def ux:ByteArray:=⟨#[104,101,97,108,115]⟩
def pV:ByteArray:=⟨#[116,119,105,99,101]⟩
def jg(n:Int):Int:=min (IntKind.i64.wrap (n+1)) 999
def KD{n:Int}(h:gL n=true):gL (jg n)=true/\(n<999->jg n=n+1)/\1<=jg n:=by
 unfold gL at h;simp only[aX,du]at h;have e:jg n=min (n+1) 999:=by unfold jg;rw[wrap_i64 (by omega) (by omega)]
 refine⟨?_,fun _=>by omega,by omega⟩;unfold gL;simp only[aX,du];omega
def dG:List Cell->ByteArray->Nat
 |[],_=>0
 |c::r,k=>if dz c.key k=true then dG r k+1 else 0
def My:∀(l:List Cell) (k:ByteArray),dG l k<=l.length
 |[],_=>bM _
 |c::r,k=>by
  unfold dG;have:=My r k;split
  ·simp;exact this
  ·exact fW _
def amf[Inhabited α](a:α)(l:List α)(i:Nat):nth (a::l) (i+1)=nth l i:=by simp[nth]
def acV[Inhabited α](a:α)(l:List α):nth (a::l) 0=a:=by simp[nth]
def Mz:∀{l:List Cell} {k:ByteArray} {i:Nat},i<dG l k->dz (nth l i).key k=true
 |[],_,i,h=>by simp[dG]at h
 |c::r,k,i,h=>by
  unfold dG at h;split at h
  ·rename_i a;cases i with
   |zero=>rw[acV];exact a
   |succ i=>rw[amf];exact Mz (by omega)
  ·omega
def Ta:∀{l:List Cell} {k:ByteArray},dG l k<l.length->dz (nth l (dG l k)).key k=false
 |[],_,h=>by simp[dG]at h
 |c::r,k,h=>by
  unfold dG at h ⊢;split at h
  ·rename_i a;rw[aC a,amf];exact Ta (by simp at h;omega)
  ·rename_i a;rw[aw a,acV];simpa using a
def kD(l:List Cell)(k:ByteArray):Bool:=decide (dG l k<l.length)&&decide ((nth l (dG l k)).key=k)
def sD(l:List Cell)(k:ByteArray)(v:Int):List Cell:=if kD l k=true then l.set (dG l k) ⟨k,v⟩else l.take (dG l k)++[⟨k,v⟩]++l.drop (dG l k)
def keepD(p:Core)(x:Call):Core×gH :=
 if(fR p.kind).testBit 0=true/\p.on=false then(p,rep 2 0 0 0)
 else if x.method=kW then(if kD p.cells x.key=true then(p,rep 0 (nth p.cells (dG p.cells x.key)).val 0 0)else(p,rep 4 0 0 0))
 else if kD p.cells x.key=false/\4<=p.cells.length then(p,rep 5 0 0 0)
 else(⟨p.kind,p.on,p.broken,sD p.cells x.key x.val,jg p.count⟩,rep 0 (sD p.cells x.key x.val).length 0 0)
def iB(x:Call):Bool:=decide (x.method=kW)||decide (x.method=jS)
def fp(p:Core)(x:Call):Core×gH :=
 if p.broken=true/\x.method≠jr/\x.method≠jT then(p,rep 3 0 0 0)
 else if x.method=mStart then(if p.on=true then(⟨p.kind,false,true,p.cells,p.count⟩,rep 3 0 0 0)else(⟨p.kind,true,p.broken,p.cells,jg p.count⟩,rep 0 0 0 0))
 else if x.method=dY then(if p.on=false then(p,rep 2 0 0 0)else(⟨p.kind,false,p.broken,p.cells,p.count⟩,rep 0 0 0 0))
 else if iB x=true then keepD p x
 else if x.method=jT then(p,rep 0 p.count 0 0)
 else if x.method=jG then(⟨p.kind,if x.val=0 then false else if x.val=1 then true else p.on,p.broken,p.cells,jg p.count⟩,rep 0 (jg p.count) 0 0)
 else if x.method=J9 then(p,⟨0,0,fmtC p.cells,0,0⟩)
 else if x.method=sw then(if(pP x.text).2=true then(⟨p.kind,p.on,p.broken,(pP x.text).1,p.count⟩,rep 0 (pP x.text).1.length 0 0)else(p,rep 6 0 0 0))
 else if x.method=jr then(⟨p.kind,false,false,p.cells,p.count⟩,rep 0 0 0 0)
 else(p,rep 0 0 0 0)
def bump(p:Part)(k:Nat):Part:=⟨p.core,p.ak.set k ⟨(nth p.ak k).name,jg (nth p.ak k).count⟩⟩
def bK(m:ByteArray):Call:=⟨m,cL,0,cL⟩
def Pw(r:gH):gH:=if r.code=0 then ⟨r.code,min (IntKind.i64.wrap (2*r.val)) 999,r.text,r.want,r.had⟩else r
def bo:Nat->Part->Call->Part×gH
 |0,p,x=>(⟨(fp p.core x).1,p.ak⟩,(fp p.core x).2)
 |k+1,p,x=>
  if(nth p.ak k).name=counts/\x.method=jT then(p,rep 0 (nth p.ak k).count 0 0)
  else if(nth p.ak k).name=counts/\iB x=true then(bump (bo k p x).1 k,(bo k p x).2)
  else if(nth p.ak k).name=vY/\iB x=true then
   (if(bo k p x).2.code=2 then bo k (bo k (bo k p x).1 (bK mStart)).1 x else bo k p x)
  else if(nth p.ak k).name=yY/\x.method=jS then(p,rep 6 0 0 0)
  else if(nth p.ak k).name=mY/\x.method=jG then
   (if x.val=0 then bo k (bump p k) (bK dY)else if x.val=1 then bo k (bump p k) (bK mStart)else(bump p k,rep 0 (nth (bump p k).ak k).count 0 0))
  else if(nth p.ak k).name=ux/\x.method=jr then bo k (bo k p (bK dY)).1 (bK mStart)
  else if(nth p.ak k).name=pV then((bo k p x).1,Pw (bo k p x).2)
  else bo k p x
def gJ(p:Part)(x:Call):Part×gH :=
 if dC p=false\/gu x=false then(p,rep 7 0 0 0)
 else if cw (fq p) (cg x.method)=false then(p,rep 1 0 (cg x.method) (fq p))
 else bo p.ak.length p x
def aDv{s:ByteArray}(h:kindOk s=true):∃i:Fin 8,s=nth kinds i.val/\fR s=DM.getD i.val 0:=by
 have key:∃i:Fin 8,s=nth kinds i.val:=by
  unfold kindOk BQ at h;by_cases e:s=nth kinds 0
  ·exact⟨0,e⟩
  by_cases a:s=nth kinds 1
  ·exact⟨1,a⟩
  by_cases b:s=nth kinds 2
  ·exact⟨2,b⟩
  by_cases c:s=nth kinds 3
  ·exact⟨3,c⟩
  by_cases d:s=nth kinds 4
  ·exact⟨4,d⟩
  by_cases f:s=nth kinds 5
  ·exact⟨5,f⟩
  by_cases g:s=nth kinds 6
  ·exact⟨6,g⟩
  by_cases j:s=nth kinds 7
  ·exact⟨7,j⟩
  simp[e,a,b,c,d,f,g,j]at h
 obtain⟨i,rfl⟩:=key;refine⟨i,rfl,?_⟩;unfold fR;rw[alj i]
def alr{s:ByteArray}(h:pM s=true):∃i:Fin 9,s=nth ak i.val/\mK s=DP.getD i.val 0/\qW s=Gw.getD i.val 0:=by
 have key:∃i:Fin 9,s=nth ak i.val:=by
  unfold pM zY at h;by_cases e:s=nth ak 0
  ·exact⟨0,e⟩
  by_cases a:s=nth ak 1
  ·exact⟨1,a⟩
  by_cases b:s=nth ak 2
  ·exact⟨2,b⟩
  by_cases c:s=nth ak 3
  ·exact⟨3,c⟩
  by_cases d:s=nth ak 4
  ·exact⟨4,d⟩
  by_cases f:s=nth ak 5
  ·exact⟨5,f⟩
  by_cases g:s=nth ak 6
  ·exact⟨6,g⟩
  by_cases j:s=nth ak 7
  ·exact⟨7,j⟩
  by_cases k:s=nth ak 8
  ·exact⟨8,k⟩
  simp[e,a,b,c,d,f,g,j,k]at h
 obtain⟨i,rfl⟩:=key;refine⟨i,rfl,?_,?_⟩
 ·unfold mK;rw[Vr i]
 ·unfold qW;rw[Vr i]
def Vx{s:ByteArray}(h:¬jY s<0):∃j:Fin 6,cg s=((2^j.val:Nat):Int)/\s∈methods j.val:=by
 unfold cg;rw[aw h];unfold jY at h ⊢;cases f:eA (Iq s) 6 with
 |none=>rw[f]at h;simp at h
 |some k=>
  obtain⟨b,a,_⟩:=vG f;refine⟨⟨k,b⟩,by simp,?_⟩;unfold Iq hasB at a;rw[uW]at a;obtain⟨t,c,e⟩:=a;have e:t=s:=by simpa using e
  subst e;exact c
def J4:∀(i:Fin 8) (j:Fin 6),cw ((DM.getD i.val 0:Nat):Int) ((2^j.val:Nat):Int)=true->(j.val=0\/j.val=3->(DM.getD i.val 0).testBit 0=true)/\(j.val=1\/j.val=4->(DM.getD i.val 0).testBit 1=true):=by decide +kernel
def aDC:∀(i:Fin 9) (j:Fin 6) (f:Fin 64),cw ((f.val:Nat):Int) ((DP.getD i.val 0:Nat):Int)=true->cw ((Gw.getD i.val 0:Nat):Int) ((2^j.val:Nat):Int)=true->(i.val=3/\j.val=2)\/(i.val=6/\j.val=3)\/(i.val=7/\j.val=5)\/cw ((f.val:Nat):Int) ((2^j.val:Nat):Int)=true:=by decide +kernel
def aDE:∀(i:Fin 9) (f:Fin 64),(i.val=4\/i.val=6\/i.val=7)->cw ((f.val:Nat):Int) ((DP.getD i.val 0:Nat):Int)=true->cw ((f.val:Nat):Int) 1=true:=by decide +kernel
def avb:cg mStart=1/\cg dY=1/\cg kW=2/\cg jS=2/\cg jT=4/\cg jG=8:=by decide +kernel
def Dk:gu (bK mStart)=true/\gu (bK dY)=true/\gu (bK jT)=true:=by decide +kernel
def MR(h:gu x=true):¬jY x.method<0:=by unfold gu at h;simp only[aX,qi,oH]at h;exact h.1.1.1
def ayO(h:gu x=true)(m:iB x=true):kX x.key=true:=by unfold gu iB at *;grind
def ahQ(h:gu x=true):gL x.val=true:=by unfold gu gL at *;grind
def als:nth ak 3=counts/\nth ak 4=vY/\nth ak 6=mY/\nth ak 7=ux:=by decide
def D1:∀{a b:List UInt8},Op.bytesLess a b=true->Op.bytesLess b a=false
 |[],_::_,_=>by simp[Op.bytesLess]
 |[],[],h=>by simp[Op.bytesLess]at h
 |_::_,[],h=>by simp[Op.bytesLess]at h
 |x::a,y::b,h=>by
  simp only[Op.bytesLess]at h ⊢;by_cases e:x=y
  ·subst e;simp at h ⊢;exact D1 h
  ·have c:¬y=x:=fun h=>e h.symm;simp[e,c]at h ⊢;exact UInt8.le_of_lt h
def D4:∀{a b:List UInt8},a≠b->Op.bytesLess a b=false->Op.bytesLess b a=true
 |[],[],h,_=>by simp at h
 |[],_::_,_,h=>by simp[Op.bytesLess]at h
 |_::_,[],_,_=>by simp[Op.bytesLess]
 |x::a,y::b,n,h=>by
  simp only[Op.bytesLess]at h ⊢;by_cases e:x=y
  ·subst e;simp at h n ⊢;exact D4 n h
  ·have c:¬y=x:=fun h=>e h.symm;simp[e,c]at h ⊢;exact UInt8.lt_of_le_of_ne h c
def ltA(h:dz a b=true):dz b a=false:=D1 h
def ltT(n:a≠b)(h:dz a b=false):dz b a=true :=
 D4 (fun e=>n (by have:=Kw a b;rw[e]at this;simpa using this.symm)) h
def VE[Inhabited α](l:List α)(k i:Nat)(x:α)(a:k<l.length):nth (l.set k x) i=if i=k then x else nth l i:=by
 by_cases h:i=k
 ·subst h;simp[nth,a]
 ·rw[aw h];have:¬k=i:=fun e=>h e.symm;simp[nth,jZ,Da,this]
def ame[Inhabited α](l:List α)(a i:Nat)(x:α)(ha:a<=l.length):nth (l.take a++[x]++l.drop a) i=if i<a then nth l i else if i=a then x else nth l (i-1):=by
 have c:(l.take a).length=a:=by simp;omega
 simp only[nth,jZ,iY];by_cases h:i<a
 ·rw[aC h,mP (by omega),qk,aC h]
 ·rw[aw h,nH (by omega),c];by_cases b:i=a
  ·subst b;simp
  ·rw[aw b];obtain⟨j,rfl⟩:∃j,i=a+1+j:=⟨i-a-1,by omega⟩;have:a+1+j-a=j+1:=by omega
   rw[this];simp[yd]
def BO{k:ByteArray}:kD l k=true↔dG l k<l.length/\(nth l (dG l k)).key=k:=by unfold kD;simp
def amS(l:List Cell)(k:ByteArray)(v:Int):(sD l k v).length=if kD l k=true then l.length else l.length+1:=by
 unfold sD;have:=My l k;split
 ·simp
 ·simp;omega
def amY{k:ByteArray}{v:Int}(h:iS l=true)(s:kX k=true)(p:gL v=true)(u:¬(kD l k=false/\4<=l.length)):iS (sD l k v)=true:=by
 have n:=yp h;have d:=My l k;unfold iS at h;simp only[aX,jC]at h;have g:=fun i b=>h.2 i b;unfold iS;simp only[aX,du,jC];refine⟨?_,fun i b=> ?_⟩
 ·rw[amS];split
  ·exact n
  ·rename_i m;have m:kD l k=false:=by simpa using m
   have:¬4<=l.length:=fun e=>u ⟨m,e⟩;omega
 rw[amS]at b;unfold nN;by_cases a:kD l k=true
 ·rw[aC a]at b;have e:sD l k v=l.set (dG l k) ⟨k,v⟩:=by unfold sD;rw[aC a]
  obtain⟨q1,q2⟩:=BO.1 a;have c:=g i b;unfold nN at c;rw[e,VE _ _ _ _ q1,VE _ _ _ _ q1];have key:∀j,(if j=dG l k then(⟨k,v⟩:Cell)else nth l j).key=(nth l j).key:=fun j=>by
   split
   ·rename_i e;rw[e,q2]
   ·rfl
  have val:gL (if i=dG l k then(⟨k,v⟩:Cell)else nth l i).val=true:=by
   split
   ·exact p
   ·simp only[aX]at c;exact c.1.2
  rw[key,key,val];simp only[aX,jM]at c ⊢;exact⟨⟨c.1.1,trivial⟩,c.2⟩
 ·have o:kD l k=false:=by simpa using a
  rw[aw a]at b;have e:sD l k v=l.take (dG l k)++[⟨k,v⟩]++l.drop (dG l k):=by unfold sD;rw[aw a]
  rw[e,ame _ _ _ _ d,ame _ _ _ _ d];simp only[aX,jM,vf];by_cases q:i<dG l k
  ·have:=g i (by omega);unfold nN at this;simp only[aX,jM,vf]at this;rw[aC q,aC (by omega)];exact this
  rw[aw q];by_cases r:i=dG l k
  ·rw[aC r];refine⟨⟨s,p⟩,?_⟩;by_cases f:i=0
   ·exact .inl f
   ·rw[aC (by omega)];exact .inr (Mz (l:=l) (k:=k) (i:=i-1) (by omega))
  rw[aw r];have:=g (i-1) (by omega);unfold nN at this;simp only[aX,jM,vf]at this;refine⟨this.1,.inr ?_⟩;rw[aw (by omega)];by_cases f:i-1=dG l k
  ·rw[aC f,f];have t:dG l k<l.length:=by omega
   refine ltT (fun e=> ?_) (Ta t);have:kD l k=true:=BO.2 ⟨t,e⟩;rw[o]at this;cases this
  ·rw[aw f];rcases this.2 with h|h
   ·omega
   ·exact h
def rY{p:Core}:oK p=true↔kindOk p.kind=true/\iS p.cells=true/\(p.cells.length=0\/(fR p.kind).testBit 1=true)/\gL p.count=true/\¬(p.on=true/\p.broken=true)/\((fR p.kind).testBit 0=true\/(p.on=false/\p.broken=false)):=by unfold oK;grind
def aEL{k:ByteArray}(h:kindOk k=true)(ho:cw (fR k) (cg m)=true) :
  ((m=mStart\/m=dY\/m=jG)->(fR k).testBit 0=true)/\((m=kW\/m=jS\/m=sw)->(fR k).testBit 1=true):=by
 obtain⟨i,_,e⟩:=aDv h;rw[e]at ho ⊢;have w:cg mStart=((2^(0:Fin 6).val:Nat):Int):=by decide +kernel
 have a:cg dY=((2^(0:Fin 6).val:Nat):Int):=by decide +kernel
 have b:cg jG=((2^(3:Fin 6).val:Nat):Int):=by decide +kernel
 have c:cg kW=((2^(1:Fin 6).val:Nat):Int):=by decide +kernel
 have d:cg jS=((2^(1:Fin 6).val:Nat):Int):=by decide +kernel
 have f:cg sw=((2^(4:Fin 6).val:Nat):Int):=by decide +kernel
 constructor
 ·rintro (rfl|rfl|rfl)
  ·rw[w]at ho;exact(J4 i 0 ho).1 (.inl rfl)
  ·rw[a]at ho;exact(J4 i 0 ho).1 (.inl rfl)
  ·rw[b]at ho;exact(J4 i 3 ho).1 (.inr rfl)
 ·rintro (rfl|rfl|rfl)
  ·rw[c]at ho;exact(J4 i 1 ho).2 (.inl rfl)
  ·rw[d]at ho;exact(J4 i 1 ho).2 (.inl rfl)
  ·rw[f]at ho;exact(J4 i 4 ho).2 (.inr rfl)
def Vg:iB x=true↔x.method=kW\/x.method=jS:=by unfold iB;simp
def vw(p:Core)(y:Core×gH):Prop:=oK y.1=true/\y.1.kind=p.kind/\y.2.code≠1/\y.2.code≠7/\0<=y.2.val/\y.2.val<=999
def Ab{n:Int}:gL n=true↔0<=n/\n<=999:=by unfold gL;simp
def azD{p:Core}(l:oK p=true)(hx:gu x=true)(ho:cw (fR p.kind) (cg x.method)=true):vw p (fp p x):=by
 have j:=rY.1 l;obtain⟨b,d,e,a,o,q⟩:=j;have n:=aEL b ho;have u:=Ab.1 a;have f:=Ab.1 (KD a).1;have J:=yp d;have s:∀c v t w h,c≠1->c≠7->0<=v->v<=999->vw p (p,⟨c,v,t,w,h⟩):=fun c v t w h y z A B=>⟨l,rfl,y,z,A,B⟩;unfold fp;split
 ·exact s _ _ _ _ _ (by decide) (by decide) (by decide) (by decide)
 split
 ·rename_i m;have:=n.1 (.inl m);split
  ·exact⟨rY.2 ⟨b,d,e,a,by simp,.inl this⟩,rfl,by simp[rep],by simp[rep],by simp[rep],by simp[rep]⟩
  ·rename_i g C;have r:p.broken=false:=by
    have:mStart≠jr/\mStart≠jT:=by decide
    rw[m]at g;cases h:p.broken with
    |false=>rfl
    |true=>exact absurd ⟨h,this⟩ g
   exact⟨rY.2 ⟨b,d,e,(KD a).1,by simp[r],.inl this⟩,rfl,by simp[rep],by simp[rep],by simp[rep],by simp[rep]⟩
 split
 ·rename_i m;have:=n.1 (.inr (.inl m));split
  ·exact s _ _ _ _ _ (by decide) (by decide) (by decide) (by decide)
  ·exact⟨rY.2 ⟨b,d,e,a,by simp,.inl this⟩,rfl,by simp[rep],by simp[rep],by simp[rep],by simp[rep]⟩
 split
 ·rename_i m;have k:=n.2 (by rcases Vg.1 m with h|h<;>simp[h]);unfold keepD;split
  ·exact s _ _ _ _ _ (by decide) (by decide) (by decide) (by decide)
  split
  ·split
   ·rename_i F;have:=Ab.1 (Tx d (BO.1 F).1).2;exact s _ _ _ _ _ (by decide) (by decide) this.1 this.2
   ·exact s _ _ _ _ _ (by decide) (by decide) (by decide) (by decide)
  split
  ·exact s _ _ _ _ _ (by decide) (by decide) (by decide) (by decide)
  ·rename_i G;have i:=amY (v:=x.val) d (ayO hx m) (ahQ hx) G;have:=yp i;exact⟨rY.2 ⟨b,i,.inr k,(KD a).1,o,q⟩,rfl,by simp[rep],by simp[rep],by simp only[rep];omega,by simp only[rep];omega⟩
 split
 ·exact s _ _ _ _ _ (by decide) (by decide) u.1 u.2
 split
 ·rename_i g _ _ _ _ m;have H:=n.1 (.inr (.inr m));have r:p.broken=false:=by
   have:jG≠jr/\jG≠jT:=by decide
   rw[m]at g;cases h:p.broken with
   |false=>rfl
   |true=>exact absurd ⟨h,this⟩ g
  exact⟨rY.2 ⟨b,d,e,(KD a).1,by simp[r],.inl H⟩,rfl,by simp[rep],by simp[rep],f.1,f.2⟩
 split
 ·exact s _ _ _ _ _ (by decide) (by decide) (by decide) (by decide)
 split
 ·rename_i m;split
  ·rename_i I;have:=aFl I;have L:=yp this;exact⟨rY.2 ⟨b,this,.inr (n.2 (.inr (.inr m))),a,o,q⟩,rfl,by simp[rep],by simp[rep],by simp only[rep];omega,by simp only[rep];omega⟩
  ·exact s _ _ _ _ _ (by decide) (by decide) (by decide) (by decide)
 split
 ·exact⟨rY.2 ⟨b,d,e,a,by simp,.inr ⟨rfl,rfl⟩⟩,rfl,by simp[rep],by simp[rep],by simp[rep],by simp[rep]⟩
 ·exact s _ _ _ _ _ (by decide) (by decide) (by decide) (by decide)
structure kM(p q:Part):Prop where
 kind:q.core.kind=p.core.kind
 names:q.ak.map (·.name)=p.ak.map (·.name)
def kM.refl(p:Part):kM p p:=⟨rfl,rfl⟩
def kM.trans{r:Part}(h:kM p q)(k:kM q r):kM p r:=⟨k.kind.trans h.kind,k.names.trans h.names⟩
def kM.len(h:kM p q):q.ak.length=p.ak.length:=by simpa using congrArg List.length h.names
def kM.name(h:kM p q){i:Nat}(b:i<p.ak.length):(nth q.ak i).name=(nth p.ak i).name:=by have a:=congrArg (·[i]?) h.names;have c:=h.len;simp only[iw]at a;rw[bX b,bX (by omega)]at a;simp only[j6,aS]at a;simp[nth,jZ,b,c,a]
def kM.kR(h:kM p q){i:Nat}(a:i<=p.ak.length):fP q i=fP p i:=by
 unfold fP;split
 ·rw[h.kind]
 ·rw[h.name (by omega)]
def pQ:dC p=true↔oK p.core=true/\p.ak.length<=3/\∀i,i<p.ak.length->pM (nth p.ak i).name=true/\cw (fP p i) (mK (nth p.ak i).name)=true/\gL (nth p.ak i).count=true/\((nth p.ak i).count=0\/(nth p.ak i).name=counts\/(nth p.ak i).name=mY):=by
 unfold dC;simp only[aX,du,jC,rn,jM];constructor
 ·rintro⟨⟨e,f⟩,g⟩;exact⟨e,f,fun i j=>by have:=g i j;exact⟨this.1.1.1,this.1.1.2,this.1.2,by rcases this.2 with (h|h)|h<;>simp[h]⟩⟩
 ·rintro⟨e,f,g⟩;exact⟨⟨e,f⟩,fun i j=>by obtain⟨a,b,c,d⟩:=g i j;exact⟨⟨⟨a,b⟩,c⟩,by rcases d with h|h|h<;>simp[h]⟩⟩
def amG(f:dC p=true)(h:kM p q)(g:oK q.core=true)(n:∀i,i<p.ak.length->gL (nth q.ak i).count=true/\((nth q.ak i).count=0\/(nth p.ak i).name=counts\/(nth p.ak i).name=mY)):dC q=true:=by obtain⟨_,j,k⟩:=pQ.1 f;refine pQ.2 ⟨g,by rw[h.len];exact j,fun i e=> ?_⟩;rw[h.len]at e;obtain⟨a,b,_,_⟩:=k i e;obtain⟨c,d⟩:=n i e;rw[h.name e,h.kR (by omega)];exact⟨a,b,c,d⟩
def Tf{k:Nat}(h:k<p.ak.length):kM p (bump p k):=by
 refine⟨rfl,?_⟩;unfold bump;apply zB;intro i;simp only[iw,Da];split
 ·rename_i e;subst e
  (try rw[aC h])
  rw[bX h];simp[nth,jZ,h]
 ·rfl
def axK{k:Nat}(h:k<p.ak.length)(i:Nat):nth (bump p k).ak i=if i=k then ⟨(nth p.ak k).name,jg (nth p.ak k).count⟩else nth p.ak i:=VE _ _ _ _ h
def ZF{k:Nat}(h:dC p=true)(a:k<p.ak.length)(n:(nth p.ak k).name=counts\/(nth p.ak k).name=mY):dC (bump p k)=true:=by
 obtain⟨b,j,f⟩:=pQ.1 h;refine amG h (Tf a) b fun i g=> ?_;rw[axK a];obtain⟨_,_,c,d⟩:=f i g;split
 ·rename_i e;subst e;exact⟨(KD c).1,.inr n⟩
 ·exact⟨c,d⟩
def an9{n:ByteArray}{f:Nat}(d:f<64)(l:pM n=true)(h1:cw f (mK n)=true)(ha:¬jY m<0)(h2:cw (qW n) (cg m)=true) :
  (n=counts/\m=jT)\/(n=mY/\m=jG)\/(n=ux/\m=jr)\/cw f (cg m)=true:=by
 obtain⟨i,e,g,k⟩:=alr l;obtain⟨j,w,c⟩:=Vx ha;rw[g]at h1;rw[k,w]at h2;rw[w];obtain⟨o,r,p,q⟩:=als;rcases aDC i j ⟨f,d⟩ h1 h2 with⟨a,b⟩|⟨a,b⟩|⟨a,b⟩|h
 ·rw[a]at e;rw[b]at c;simp[methods]at c;exact .inl ⟨by rw[e,o],c⟩
 ·rw[a]at e;rw[b]at c;simp[methods]at c;exact .inr (.inl ⟨by rw[e,p],c⟩)
 ·rw[a]at e;rw[b]at c;simp[methods]at c;exact .inr (.inr (.inl ⟨by rw[e,q],c⟩))
 ·exact .inr (.inr (.inr h))
def Jz{n:ByteArray}{f:Nat}(a:f<64)(h1:cw f (mK n)=true)(b:n=vY\/n=mY\/n=ux):cw f (cg mStart)=true/\cw f (cg dY)=true:=by
 obtain⟨l,c,d,g⟩:=als;have e:∃i:Fin 9,n=nth ak i.val/\(i.val=4\/i.val=6\/i.val=7):=by
  rcases b with h|h|h
  ·exact⟨4,by rw[h];exact c.symm,.inl rfl⟩
  ·exact⟨6,by rw[h];exact d.symm,.inr (.inl rfl)⟩
  ·exact⟨7,by rw[h];exact g.symm,.inr (.inr rfl)⟩
 obtain⟨i,rfl,j⟩:=e;have k:mK (nth ak i.val)=DP.getD i.val 0:=by unfold mK;rw[Vr i]
 rw[k]at h1;rw[avb.1,avb.2.1];have:=aDE i ⟨f,a⟩ j h1;exact⟨this,this⟩
def LX(p:Part)(y:Part×gH):Prop:=dC y.1=true/\kM p y.1/\y.2.code≠1/\y.2.code≠7/\0<=y.2.val/\y.2.val<=999
def aEJ:counts≠vY/\counts≠yY/\counts≠mY/\counts≠ux/\counts≠pV/\vY≠yY/\vY≠mY/\vY≠ux/\vY≠pV/\yY≠mY/\yY≠ux/\yY≠pV/\mY≠ux/\mY≠pV/\ux≠pV:=by decide
def OB(h:iB x=true):x.method≠jT/\x.method≠jG/\x.method≠jr/\x.method≠mStart/\x.method≠dY:=by rcases Vg.1 h with e|e<;>rw[e]<;>decide
def Am:∀(k:Nat) (p:Part) (x:Call),dC p=true->k<=p.ak.length->gu x=true->cw (fP p k) (cg x.method)=true->LX p (bo k p x)
 |0,p,x,j,_,hx,ho=>by obtain⟨h1,h2,t⟩:=pQ.1 j;obtain⟨a,b,c,d,e,f⟩:=azD h1 hx ho;have s:kM p (bo 0 p x).1:=⟨b,rfl⟩;exact⟨amG j s a fun i C=>⟨(t i C).2.2.1,(t i C).2.2.2⟩,s,c,d,e,f⟩
 |k+1,p,x,j,J,hx,ho=>by
  obtain⟨h1,h2,t⟩:=pQ.1 j;obtain⟨a,b,c,d⟩:=t k (by omega);have ho:cw (qW (nth p.ak k).name) (cg x.method)=true:=by unfold fP at ho;rw[aw (by omega)]at ho;exact ho
  have u:=an9 (zM p k) a b (MR hx) ho;have F:=Ab.1 c;have ne:=aEJ;have G:=Dk;have below:cw (fP p k) (cg x.method)=true->LX p (bo k p x):=fun h=>Am k p x j (by omega) hx h;have start:∀q,dC q=true->kM p q->cw (fP p k) (cg mStart)=true->LX p (bo k q (bK mStart)):=fun q w s h=>by have:=Am k q (bK mStart) w (by rw[s.len];omega) G.1 (by rw[s.kR (by omega)];exact h);exact⟨this.1,s.trans this.2.1,this.2.2⟩
  have stop:∀q,dC q=true->kM p q->cw (fP p k) (cg dY)=true->LX p (bo k q (bK dY)):=fun q w s h=>by have:=Am k q (bK dY) w (by rw[s.len];omega) G.2.1 (by rw[s.kR (by omega)];exact h);exact⟨this.1,s.trans this.2.1,this.2.2⟩
  rw[bo];split
  ·exact⟨j,kM.refl _,by simp[rep],by simp[rep],F.1,F.2⟩
  rename_i I;split
  ·rename_i y;have n:=OB y.2;have g:=below (by rcases u with h|h|h|h;exact absurd h.2 n.1;exact absurd h.2 n.2.1;exact absurd h.2 n.2.2.1;exact h);have L:=g.2.1.len;have z:=g.2.1.name (i:=k) (by omega);exact⟨ZF g.1 (by omega) (.inl (by rw[z];exact y.1)),g.2.1.trans (Tf (by omega)),g.2.2⟩
  rename_i y;split
  ·rename_i A;have n:=OB A.2;have o:cw (fP p k) (cg x.method)=true:=by rcases u with h|h|h|h;exact absurd h.2 n.1;exact absurd h.2 n.2.1;exact absurd h.2 n.2.2.1;exact h
   have g:=below o;have r:=Jz (zM p k) b (.inl A.1);split
   ·have s:=start _ g.1 g.2.1 r.1;have:=Am k _ x s.1 (by rw[s.2.1.len];omega) hx (by rw[s.2.1.kR (by omega)];exact o);exact⟨this.1,s.2.1.trans this.2.1,this.2.2⟩
   ·exact g
  rename_i A;split
  ·exact⟨j,kM.refl _,by simp[rep],by simp[rep],by simp[rep],by simp[rep]⟩
  rename_i M;split
  ·rename_i v;have r:=Jz (zM p k) b (.inr (.inl v.1));have l:=ZF j (k:=k) (by omega) (.inr v.1);have m:kM p (bump p k):=Tf (by omega);split
   ·exact stop _ l m r.2
   split
   ·exact start _ l m r.1
   ·refine⟨l,m,by simp[rep],by simp[rep],?_⟩;have:=Ab.1 ((pQ.1 l).2.2 k (by rw[m.len];omega)).2.2.1;exact this
  rename_i v;split
  ·rename_i B;have r:=Jz (zM p k) b (.inr (.inr B.1));have s:=stop p j (kM.refl _) r.2;exact start _ s.1 s.2.1 r.1
  rename_i B;have g:=below (by
   rcases u with h|h|h|h
   ·exact absurd h I
   ·exact absurd h v
   ·exact absurd h B
   ·exact h)
  split
  ·refine⟨g.1,g.2.1,?_⟩;unfold Pw;split
   ·rename_i H;obtain⟨q1,q2⟩:=g.2.2.2.2;simp only;rw[wrap_i64 (by omega) (by omega)];exact⟨by simp[H],by simp[H],by omega,by omega⟩
   ·exact g.2.2
  ·exact g
def Bk(p:Part)(r:List wK):Part:=⟨p.core,p.ak++r⟩
def axJ(p:Part)(k:Nat):(bump p k).ak.length=p.ak.length:=by simp[bump]
def amd[Inhabited α]{l b:List α}{a:Nat}(h:a<l.length):nth (l++b) a=nth l a:=by simp[nth,jZ,mP h]
end
end Go.Proofs.YtoomhbopolalnabGreatDoor
