/- Contracts of the library's functions that are called here, laid at this seat's program by the kit's tool (lay-shelf, lay-plain); those that are needed. -/
import Derived.Shelf.Strings.OnBuilder
import Derived.Shelf.Strconv.Itoa3
import Derived.Shelf.Strconv.ErrVar
import Derived.Shelf.Strconv.ErrVarAll
import Derived.Shelf.Strings.Shaped
import Derived.Shelf.Strings.SplitShaped
import Derived.Shelf.Unicode.DecodeSlow
import Derived.Test.YtoomhbopolalnaaGreatDoorS14
set_option linter.all false
set_option maxRecDepth 100000
namespace Go.Proofs
open Go.Proofs.YtoomhbopolalnaaGreatDoor
open Go.Shelf
def Tryz.akK:Go.Shelf.Ren:=⟨fun|156=>186|165=>193|166=>194|169=>195|240=>203|241=>204|276=>221|277=>222|n=>n,fun|31=>26|9=>9|3=>3|4=>4|0=>0|20=>20|72=>198|76=>194|70=>196|37=>22|75=>193|127=>204|164=>220|5=>5|80=>199|n=>n,fun|n=>n⟩
def Tryz.akJ:Go.Proofs.Lays.n156 Tryz.prog Tryz.akK:={
 mixed:=by kernel_rfl
 f156:=bC Tryz.func186
 f165:=bC Tryz.func193
 f166:=bC Tryz.func194
 f169:=bC Tryz.func195
 f240:=bC Tryz.func203
 f241:=bC Tryz.func204
 f276:=bC Tryz.func221
 f277:=bC Tryz.func222
 t0:=IP
 a0:=IG
 z0:=IK
 v0:=IV
 t3:=kS
 a3:=Fj
 z3:=Fo
 v3:=Fu
 t4:=AX
 a4:=Fk
 z4:=Fp
 v4:=Fv
 t9:=iy
 a9:=Fm
 z9:=Fs
 v9:=Fy
 t20:=Mi
 a20:=Me
 z20:=Mg
 v20:=Mk
 t31:=fz
 a31:=Tryz.isAgg26
 z31:=Tryz.sizeOf26
 v31:=Tryz.zeroValue26
 t37:=Mj
 a37:=Mf
 z37:=Mh
 v37:=Ml
 t70:=Tryz.underlying196
 a70:=Tryz.isAgg196
 z70:=Tryz.sizeOf196
 v70:=Tryz.zeroValue196
 t72:=Tryz.underlying198
 a72:=Tryz.isAgg198
 z72:=Tryz.sizeOf198
 v72:=Tryz.zeroValue198
 t75:=YO
 a75:=Tryz.isAgg193
 z75:=YK
 v75:=YU
 t76:=YP
 a76:=Tryz.isAgg194
 z76:=YL
 v76:=YV
 t127:=YQ
 a127:=Tryz.isAgg204
 z127:=YM
 v127:=YW
 t164:=Tryz.underlying220
 a164:=Tryz.isAgg220
 z164:=Tryz.sizeOf220
 v164:=Tryz.zeroValue220}
def Tryz.afA:Builder.Extra Tryz.prog Tryz.akK:={
 sizeBuilder:=by kernel_rfl
 liesBuilder:=by kernel_rfl
 t5:=Ft
 a5:=Fl
 z5:=Fq
 v5:=Fw
 infoByte:=by kernel_rfl
 cellsByte:=by kernel_rfl
 sizeByte:=by kernel_rfl
 neB5:=by decide}
open Go.RowKit in
def Tryz.strings_Join_none(a:Option Addr)(c:Nat)(sep:ByteArray)(w:World) :
  Calls Tryz.prog 186 #[.slice a 0 c,.string sep] w fun e w'=>e=.returned (.string ⟨#[]⟩)/\w'=w:=Any.strings_Join_none Tryz.akJ Tryz.afA a c sep w
open Go.RowKit in
def Tryz.strings_Join(b o c:Nat)(xs:List ByteArray)(sep:ByteArray)(w:World)(h:∀(j:Nat) x,xs[j]? =some x->w.cell? ⟨b,o+j,none⟩=some (.string x))(k:b<w.heap.size)(N:xs.length<=140737488355328)(a:xs.length<=c)(l:(Lib.join (xs.map (·.data.toList)) sep.data.toList).length<=140737488355328) :
  Calls Tryz.prog 186 #[.slice (some ⟨b,o,none⟩) xs.length c,.string sep] w fun e w'=>e=.returned (.string ⟨(Lib.join (xs.map (·.data.toList)) sep.data.toList).toArray⟩)/\Below w.heap.size w w':=Any.strings_Join Tryz.akJ Tryz.afA b o c xs sep w h k N a l
def Tryz.aC7:Go.Shelf.Ren:=⟨fun|172=>189|244=>200|245=>201|247=>212|279=>213|280=>214|281=>215|282=>216|287=>226|316=>227|171=>185|205=>228|321=>234|322=>235|243=>192|246=>202|283=>217|284=>218|285=>219|286=>220|129=>230|317=>229|318=>231|319=>232|320=>233|337=>236|338=>237|n=>n,fun|9=>9|3=>3|75=>193|76=>194|4=>4|5=>5|167=>208|37=>22|0=>0|85=>209|2=>2|168=>211|53=>215|175=>226|46=>143|210=>230|127=>204|145=>243|143=>241|21=>21|171=>214|173=>218|212=>233|51=>223|20=>20|213=>234|232=>245|233=>246|80=>199|n=>n,fun|15=>1|16=>2|17=>3|18=>6|19=>7|n=>n⟩
def Tryz.aC6:Go.Proofs.Lays.n172 Tryz.prog Tryz.aC7:={
 mixed:=by kernel_rfl
 f129:=bC Q9
 f171:=bC Q1
 f172:=bC Tryz.func189
 f205:=bC Tryz.func228
 f243:=bC Q2
 f244:=bC Tryz.func200
 f245:=bC Tryz.func201
 f246:=bC Q3
 f247:=bC Tryz.func212
 f279:=bC Tryz.func213
 f280:=bC Tryz.func214
 f281:=bC Tryz.func215
 f282:=bC Tryz.func216
 f283:=bC Q4
 f284:=bC Q5
 f285:=bC Q6
 f286:=bC Q7
 f287:=bC Tryz.func226
 f316:=bC Tryz.func227
 f317:=bC Q8
 f318:=bC Ra
 f319:=bC Rb
 f320:=bC Rc
 f321:=bC Tryz.func234
 f322:=bC Tryz.func235
 f337:=bC Rd
 f338:=bC Re
 t0:=IP
 a0:=IG
 z0:=IK
 v0:=IV
 t2:=Rz
 a2:=Rf
 z2:=Rn
 v2:=RI
 t3:=kS
 a3:=Fj
 z3:=Fo
 v3:=Fu
 t4:=AX
 a4:=Fk
 z4:=Fp
 v4:=Fv
 t5:=Ft
 a5:=Fl
 z5:=Fq
 v5:=Fw
 t9:=iy
 a9:=Fm
 z9:=Fs
 v9:=Fy
 t20:=Mi
 a20:=Me
 z20:=Mg
 v20:=Mk
 t21:=YR
 a21:=Tryz.isAgg21
 z21:=Tryz.sizeOf21
 v21:=YX
 t37:=Mj
 a37:=Mf
 z37:=Mh
 v37:=Ml
 t46:=IQ
 a46:=II
 z46:=IL
 v46:=IW
 t51:=IU
 a51:=IJ
 z51:=IM
 v51:=IX
 t53:=RC
 a53:=Rh
 z53:=Rp
 v53:=RL
 t75:=YO
 a75:=Tryz.isAgg193
 z75:=YK
 v75:=YU
 t76:=YP
 a76:=Tryz.isAgg194
 z76:=YL
 v76:=YV
 t85:=Tryz.underlying209
 a85:=Tryz.isAgg209
 z85:=Tryz.sizeOf209
 v85:=Tryz.zeroValue209
 t127:=YQ
 a127:=Tryz.isAgg204
 z127:=YM
 v127:=YW
 t143:=Tryz.underlying241
 a143:=Tryz.isAgg241
 z143:=Tryz.sizeOf241
 v143:=Tryz.zeroValue241
 t145:=Tryz.underlying243
 a145:=Tryz.isAgg243
 z145:=Tryz.sizeOf243
 v145:=Tryz.zeroValue243
 t167:=Tryz.underlying208
 a167:=Tryz.isAgg208
 z167:=Tryz.sizeOf208
 v167:=Tryz.zeroValue208
 t168:=Tryz.underlying211
 a168:=Tryz.isAgg211
 z168:=Tryz.sizeOf211
 v168:=Tryz.zeroValue211
 t171:=RA
 a171:=Rg
 z171:=Ro
 v171:=RJ
 t173:=RD
 a173:=Ri
 z173:=Rt
 v173:=RM
 t175:=Tryz.underlying226
 a175:=Tryz.isAgg226
 z175:=Tryz.sizeOf226
 v175:=Tryz.zeroValue226
 t210:=Tryz.underlying230
 a210:=Tryz.isAgg230
 z210:=Tryz.sizeOf230
 v210:=Tryz.zeroValue230
 t212:=RE
 a212:=Rj
 z212:=Ru
 v212:=RN
 t213:=RF
 a213:=Rk
 z213:=Rv
 t232:=RG
 a232:=Rl
 z232:=Rx
 v232:=RO
 t233:=RH
 a233:=Rm
 z233:=Ry
 v233:=RP
 g15:=by kernel_rfl
 g16:=by kernel_rfl
 g17:=by kernel_rfl
 g18:=by kernel_rfl
 g19:=by kernel_rfl}
open Go.RowKit in
def Tryz.strconv_Atoi(s:ByteArray)(n:Int)(l:s.size<=18)(h:Lib.atoi s.data.toList=some n)(w:World) :
  Calls Tryz.prog 189 #[.string s] w fun e w'=>e=.returned (.tuple #[.int .i64 n,.nilIface])/\∃t,w'=Lib.bytesWorld w 5 t:=Any.strconv_Atoi Tryz.aC6 s n l h w
def Tryz.aDa:Go.Shelf.Ren:=⟨fun|171=>185|243=>192|246=>202|283=>217|284=>218|285=>219|286=>220|129=>230|317=>229|318=>231|319=>232|320=>233|337=>236|338=>237|n=>n,fun|3=>3|9=>9|2=>2|4=>4|171=>214|0=>0|53=>215|37=>22|5=>5|173=>218|212=>233|51=>223|20=>20|213=>234|46=>143|232=>245|233=>246|n=>n,fun|17=>3|18=>6|19=>7|n=>n⟩
def Tryz.aLQ:Go.Proofs.LaysM.n171 Tryz.prog Tryz.aDa:={
 mixed:=by kernel_rfl
 f129:=bC Q9
 f171:=bC Q1
 f243:=bC Q2
 f246:=bC Q3
 f283:=bC Q4
 f284:=bC Q5
 f285:=bC Q6
 f286:=bC Q7
 f317:=bC Q8
 f318:=bC Ra
 f319:=bC Rb
 f320:=bC Rc
 f337:=bC Rd
 f338:=bC Re
 t0:=IP
 a0:=IG
 z0:=IK
 v0:=IV
 t2:=Rz
 a2:=Rf
 z2:=Rn
 v2:=RI
 t3:=kS
 a3:=Fj
 z3:=Fo
 v3:=Fu
 t4:=AX
 a4:=Fk
 z4:=Fp
 v4:=Fv
 t5:=Ft
 a5:=Fl
 z5:=Fq
 v5:=Fw
 t9:=iy
 a9:=Fm
 z9:=Fs
 v9:=Fy
 t20:=Mi
 a20:=Me
 z20:=Mg
 v20:=Mk
 t37:=Mj
 a37:=Mf
 z37:=Mh
 v37:=Ml
 t46:=IQ
 a46:=II
 z46:=IL
 v46:=IW
 t51:=IU
 a51:=IJ
 z51:=IM
 v51:=IX
 t53:=RC
 a53:=Rh
 z53:=Rp
 v53:=RL
 t171:=RA
 a171:=Rg
 z171:=Ro
 v171:=RJ
 t173:=RD
 a173:=Ri
 z173:=Rt
 v173:=RM
 t212:=RE
 a212:=Rj
 z212:=Ru
 v212:=RN
 t213:=RF
 a213:=Rk
 z213:=Rv
 t232:=RG
 a232:=Rl
 z232:=Rx
 v232:=RO
 t233:=RH
 a233:=Rm
 z233:=Ry
 v233:=RP
 g17:=by kernel_rfl
 g18:=by kernel_rfl
 g19:=by kernel_rfl
 i0:=by kernel_rfl
 i2:=by kernel_rfl
 i3:=by kernel_rfl
 i4:=by kernel_rfl
 i5:=by kernel_rfl
 i9:=by kernel_rfl
 i20:=by kernel_rfl
 i37:=by kernel_rfl
 i46:=by kernel_rfl
 i51:=by kernel_rfl
 i53:=by kernel_rfl
 i171:=by kernel_rfl
 i173:=by kernel_rfl
 i212:=by kernel_rfl
 i232:=by kernel_rfl
 i233:=by kernel_rfl
 m17:=by kernel_rfl
 m18:=by kernel_rfl
 m19:=by kernel_rfl}
def Tryz.aC5:Go.Shelf.Ren:=⟨fun|171=>185|243=>192|246=>202|283=>217|284=>218|285=>219|286=>220|129=>230|317=>229|318=>231|319=>232|320=>233|337=>236|338=>237|n=>n,fun|3=>3|9=>9|2=>2|4=>4|171=>214|0=>0|53=>215|37=>22|5=>5|173=>218|212=>233|51=>223|20=>20|213=>234|46=>143|232=>245|233=>246|n=>n,fun|17=>3|18=>6|19=>7|n=>n⟩
def Tryz.aC4:Go.Proofs.Lays.n171 Tryz.prog Tryz.aC5:={
 mixed:=by kernel_rfl
 f129:=bC Q9
 f171:=bC Q1
 f243:=bC Q2
 f246:=bC Q3
 f283:=bC Q4
 f284:=bC Q5
 f285:=bC Q6
 f286:=bC Q7
 f317:=bC Q8
 f318:=bC Ra
 f319:=bC Rb
 f320:=bC Rc
 f337:=bC Rd
 f338:=bC Re
 t0:=IP
 a0:=IG
 z0:=IK
 v0:=IV
 t2:=Rz
 a2:=Rf
 z2:=Rn
 v2:=RI
 t3:=kS
 a3:=Fj
 z3:=Fo
 v3:=Fu
 t4:=AX
 a4:=Fk
 z4:=Fp
 v4:=Fv
 t5:=Ft
 a5:=Fl
 z5:=Fq
 v5:=Fw
 t9:=iy
 a9:=Fm
 z9:=Fs
 v9:=Fy
 t20:=Mi
 a20:=Me
 z20:=Mg
 v20:=Mk
 t37:=Mj
 a37:=Mf
 z37:=Mh
 v37:=Ml
 t46:=IQ
 a46:=II
 z46:=IL
 v46:=IW
 t51:=IU
 a51:=IJ
 z51:=IM
 v51:=IX
 t53:=RC
 a53:=Rh
 z53:=Rp
 v53:=RL
 t171:=RA
 a171:=Rg
 z171:=Ro
 v171:=RJ
 t173:=RD
 a173:=Ri
 z173:=Rt
 v173:=RM
 t212:=RE
 a212:=Rj
 z212:=Ru
 v212:=RN
 t213:=RF
 a213:=Rk
 z213:=Rv
 t232:=RG
 a232:=Rl
 z232:=Rx
 v232:=RO
 t233:=RH
 a233:=Rm
 z233:=Ry
 v233:=RP
 g17:=by kernel_rfl
 g18:=by kernel_rfl
 g19:=by kernel_rfl}
open Go.RowKit Go.Sort Go.Lib in
def Tryz.strconv_Itoa_small(i:Nat)(h:i<100)(w:World) :
  Calls Tryz.prog 185 #[.int .i64 i] w fun e w'=>e=.returned (.string ⟨(Lib.decDigits i).toArray⟩)/\w'=w:=Any.strconv_Itoa_small Tryz.aC4 i h w
def Tryz.aC9:Go.Shelf.Ren:=⟨fun|172=>189|244=>200|245=>201|247=>212|279=>213|280=>214|281=>215|282=>216|287=>226|316=>227|171=>185|205=>228|321=>234|322=>235|243=>192|246=>202|283=>217|284=>218|285=>219|286=>220|129=>230|317=>229|318=>231|319=>232|320=>233|337=>236|338=>237|n=>n,fun|9=>9|3=>3|75=>193|76=>194|4=>4|5=>5|167=>208|37=>22|0=>0|85=>209|2=>2|168=>211|53=>215|175=>226|46=>143|210=>230|127=>204|145=>243|143=>241|21=>21|171=>214|173=>218|212=>233|51=>223|20=>20|213=>234|232=>245|233=>246|80=>199|n=>n,fun|15=>1|16=>2|17=>3|18=>6|19=>7|n=>n⟩
def Tryz.aC8:Go.Proofs.LaysC.n172 Tryz.prog Tryz.aC9:={
 mixed:=by kernel_rfl
 f129:=bC Q9
 f171:=bC Q1
 f172:=bC Tryz.func189
 f205:=bC Tryz.func228
 f243:=bC Q2
 f244:=bC Tryz.func200
 f245:=bC Tryz.func201
 f246:=bC Q3
 f247:=bC Tryz.func212
 f279:=bC Tryz.func213
 f280:=bC Tryz.func214
 f281:=bC Tryz.func215
 f282:=bC Tryz.func216
 f283:=bC Q4
 f284:=bC Q5
 f285:=bC Q6
 f286:=bC Q7
 f287:=bC Tryz.func226
 f316:=bC Tryz.func227
 f317:=bC Q8
 f318:=bC Ra
 f319:=bC Rb
 f320:=bC Rc
 f321:=bC Tryz.func234
 f322:=bC Tryz.func235
 f337:=bC Rd
 f338:=bC Re
 t0:=IP
 a0:=IG
 z0:=IK
 v0:=IV
 t2:=Rz
 a2:=Rf
 z2:=Rn
 v2:=RI
 t3:=kS
 a3:=Fj
 z3:=Fo
 v3:=Fu
 t4:=AX
 a4:=Fk
 z4:=Fp
 v4:=Fv
 t5:=Ft
 a5:=Fl
 z5:=Fq
 v5:=Fw
 t9:=iy
 a9:=Fm
 z9:=Fs
 v9:=Fy
 t20:=Mi
 a20:=Me
 z20:=Mg
 v20:=Mk
 t21:=YR
 a21:=Tryz.isAgg21
 z21:=Tryz.sizeOf21
 v21:=YX
 t37:=Mj
 a37:=Mf
 z37:=Mh
 v37:=Ml
 t46:=IQ
 a46:=II
 z46:=IL
 v46:=IW
 t51:=IU
 a51:=IJ
 z51:=IM
 v51:=IX
 t53:=RC
 a53:=Rh
 z53:=Rp
 v53:=RL
 t75:=YO
 a75:=Tryz.isAgg193
 z75:=YK
 v75:=YU
 t76:=YP
 a76:=Tryz.isAgg194
 z76:=YL
 v76:=YV
 t85:=Tryz.underlying209
 a85:=Tryz.isAgg209
 z85:=Tryz.sizeOf209
 v85:=Tryz.zeroValue209
 t127:=YQ
 a127:=Tryz.isAgg204
 z127:=YM
 v127:=YW
 t143:=Tryz.underlying241
 a143:=Tryz.isAgg241
 z143:=Tryz.sizeOf241
 v143:=Tryz.zeroValue241
 t145:=Tryz.underlying243
 a145:=Tryz.isAgg243
 z145:=Tryz.sizeOf243
 v145:=Tryz.zeroValue243
 t167:=Tryz.underlying208
 a167:=Tryz.isAgg208
 z167:=Tryz.sizeOf208
 v167:=Tryz.zeroValue208
 t168:=Tryz.underlying211
 a168:=Tryz.isAgg211
 z168:=Tryz.sizeOf211
 v168:=Tryz.zeroValue211
 t171:=RA
 a171:=Rg
 z171:=Ro
 v171:=RJ
 t173:=RD
 a173:=Ri
 z173:=Rt
 v173:=RM
 t175:=Tryz.underlying226
 a175:=Tryz.isAgg226
 z175:=Tryz.sizeOf226
 v175:=Tryz.zeroValue226
 t210:=Tryz.underlying230
 a210:=Tryz.isAgg230
 z210:=Tryz.sizeOf230
 v210:=Tryz.zeroValue230
 t212:=RE
 a212:=Rj
 z212:=Ru
 v212:=RN
 t213:=RF
 a213:=Rk
 z213:=Rv
 t232:=RG
 a232:=Rl
 z232:=Rx
 v232:=RO
 t233:=RH
 a233:=Rm
 z233:=Ry
 v233:=RP
 g15:=by kernel_rfl
 g16:=by kernel_rfl
 g17:=by kernel_rfl
 g18:=by kernel_rfl
 g19:=by kernel_rfl
 t80:=Tryz.underlying199
 a80:=Tryz.isAgg199
 z80:=Tryz.sizeOf199
 v80:=Tryz.zeroValue199
 i0:=by kernel_rfl
 i2:=by kernel_rfl
 i3:=by kernel_rfl
 i4:=by kernel_rfl
 i5:=by kernel_rfl
 i9:=by kernel_rfl
 i20:=by kernel_rfl
 i21:=by kernel_rfl
 i37:=by kernel_rfl
 i46:=by kernel_rfl
 i51:=by kernel_rfl
 i53:=by kernel_rfl
 i75:=by kernel_rfl
 i76:=by kernel_rfl
 i80:=by kernel_rfl
 i85:=by kernel_rfl
 i127:=by kernel_rfl
 i143:=by kernel_rfl
 i145:=by kernel_rfl
 i167:=by kernel_rfl
 i168:=by kernel_rfl
 i171:=by kernel_rfl
 i173:=by kernel_rfl
 i175:=by kernel_rfl
 i210:=by kernel_rfl
 i212:=by kernel_rfl
 i232:=by kernel_rfl
 i233:=by kernel_rfl
 m15:=by kernel_rfl
 m16:=by kernel_rfl
 m17:=by kernel_rfl
 m18:=by kernel_rfl
 m19:=by kernel_rfl
 c0:=by kernel_rfl
 c2:=by kernel_rfl
 c3:=by kernel_rfl
 c4:=by kernel_rfl
 c5:=by kernel_rfl
 c9:=by kernel_rfl
 c20:=by kernel_rfl
 c21:=by kernel_rfl
 c37:=by kernel_rfl
 c46:=by kernel_rfl
 c51:=by kernel_rfl
 c53:=by kernel_rfl
 c75:=by kernel_rfl
 c76:=by kernel_rfl
 c80:=by kernel_rfl
 c85:=by kernel_rfl
 c127:=by kernel_rfl
 c143:=by kernel_rfl
 c145:=by kernel_rfl
 c167:=by kernel_rfl
 c168:=by kernel_rfl
 c171:=by kernel_rfl
 c173:=by kernel_rfl
 c175:=by kernel_rfl
 c210:=by kernel_rfl
 c212:=by kernel_rfl
 c213:=by kernel_rfl
 c232:=by kernel_rfl
 c233:=by kernel_rfl}
open Go.RowKit in
def Tryz.strconv_Atoi_err(s:ByteArray)(l:s.size<=18)(h:Lib.atoi s.data.toList=none)(ev:Value)(w:World)(a:w.cell? ⟨1,0,none⟩=some ev)(v:ev=.nilIface\/∃t p,ev=.iface t p) :
  Calls Tryz.prog 189 #[.string s] w fun e w'=>∃N,e=.returned (.tuple #[.int .i64 0,.iface 211 (.pointer (some ⟨N,0,none⟩))])/\w.heap.size<=N/\w'.heap[N]? =some (.cells #[.string ⟨#[65,116,111,105]⟩,.string s,ev] 230 (0,0))/\Below w.heap.size w w':=Any.strconv_Atoi_err Tryz.aC8 s l h ev w a v
def Tryz.aC1:Go.Shelf.Ren:=⟨fun|145=>180|220=>188|219=>199|217=>208|225=>209|224=>210|267=>211|266=>224|314=>225|n=>n,fun|9=>9|4=>4|59=>188|3=>3|5=>5|46=>143|146=>224|51=>223|n=>n,fun|1=>0|n=>n⟩
def Tryz.aC0:Go.Proofs.Lays.n145 Tryz.prog Tryz.aC1:={
 mixed:=by kernel_rfl
 f145:=bC Tryz.func180
 f217:=bC Tryz.func208
 f219:=bC Tryz.func199
 f220:=bC Tryz.func188
 f224:=bC Tryz.func210
 f225:=bC Tryz.func209
 f266:=bC Tryz.func224
 f267:=bC Tryz.func211
 f314:=bC Tryz.func225
 t3:=kS
 a3:=Fj
 z3:=Fo
 v3:=Fu
 t4:=AX
 a4:=Fk
 z4:=Fp
 v4:=Fv
 t5:=Ft
 a5:=Fl
 z5:=Fq
 v5:=Fw
 t9:=iy
 a9:=Fm
 z9:=Fs
 v9:=Fy
 t46:=IQ
 a46:=II
 z46:=IL
 v46:=IW
 t51:=IU
 a51:=IJ
 z51:=IM
 v51:=IX
 t59:=Tryz.underlying188
 a59:=Tryz.isAgg188
 z59:=Tryz.sizeOf188
 v59:=Tryz.zeroValue188
 t146:=Tryz.underlying224
 a146:=Tryz.isAgg224
 z146:=Tryz.sizeOf224
 v146:=Tryz.zeroValue224
 g1:=by kernel_rfl}
open Go.RowKit Go.Lib in
def Tryz.strings_Cut(s sep:ByteArray)(m:Int)(w:World)(h:s.size<4294967281)(a:w.cell? ⟨0,0,none⟩=some (.int .i64 m)) :
  Calls Tryz.prog 180 #[.string s,.string sep] w fun e w'=>e=.returned (.tuple #[.string ⟨(Lib.cut s.data.toList sep.data.toList).1.toArray⟩,.string ⟨(Lib.cut s.data.toList sep.data.toList).2.1.toArray⟩,.bool (Lib.cut s.data.toList sep.data.toList).2.2])/\∃n,w'=w.drewN n:=Any.strings_Cut Tryz.aC0 s sep m w h a
def Tryz.aC3:Go.Shelf.Ren:=⟨fun|146=>179|221=>187|268=>196|138=>197|143=>198|195=>205|197=>206|218=>207|219=>199|260=>223|217=>208|225=>209|224=>210|267=>211|266=>224|314=>225|n=>n,fun|9=>9|31=>26|3=>3|4=>4|0=>0|105=>205|21=>21|5=>5|46=>143|119=>236|139=>239|138=>238|146=>224|51=>223|n=>n,fun|1=>0|3=>4|4=>5|n=>n⟩
def Tryz.aC2:Go.Proofs.Lays.n146 Tryz.prog Tryz.aC3:={
 mixed:=by kernel_rfl
 f138:=bC Tryz.func197
 f143:=bC Tryz.func198
 f146:=bC Tryz.func179
 f195:=bC Tryz.func205
 f197:=bC Tryz.func206
 f217:=bC Tryz.func208
 f218:=bC Tryz.func207
 f219:=bC Tryz.func199
 f221:=bC Tryz.func187
 f224:=bC Tryz.func210
 f225:=bC Tryz.func209
 f260:=bC Tryz.func223
 f266:=bC Tryz.func224
 f267:=bC Tryz.func211
 f268:=bC Tryz.func196
 f314:=bC Tryz.func225
 t0:=IP
 a0:=IG
 z0:=IK
 v0:=IV
 t3:=kS
 a3:=Fj
 z3:=Fo
 v3:=Fu
 t4:=AX
 a4:=Fk
 z4:=Fp
 v4:=Fv
 t5:=Ft
 a5:=Fl
 z5:=Fq
 v5:=Fw
 t9:=iy
 a9:=Fm
 z9:=Fs
 v9:=Fy
 t21:=YR
 a21:=Tryz.isAgg21
 z21:=Tryz.sizeOf21
 v21:=YX
 t31:=fz
 a31:=Tryz.isAgg26
 z31:=Tryz.sizeOf26
 v31:=Tryz.zeroValue26
 t46:=IQ
 a46:=II
 z46:=IL
 v46:=IW
 t51:=IU
 a51:=IJ
 z51:=IM
 v51:=IX
 t105:=Tryz.underlying205
 a105:=Tryz.isAgg205
 z105:=Tryz.sizeOf205
 v105:=Tryz.zeroValue205
 t119:=Tryz.underlying236
 a119:=Tryz.isAgg236
 z119:=Tryz.sizeOf236
 t138:=Tryz.underlying238
 a138:=Tryz.isAgg238
 z138:=Tryz.sizeOf238
 v138:=Tryz.zeroValue238
 t139:=Tryz.underlying239
 a139:=Tryz.isAgg239
 z139:=Tryz.sizeOf239
 v139:=Tryz.zeroValue239
 t146:=Tryz.underlying224
 a146:=Tryz.isAgg224
 z146:=Tryz.sizeOf224
 v146:=Tryz.zeroValue224
 g1:=by kernel_rfl
 g3:=by kernel_rfl
 g4:=by kernel_rfl}
open Go.RowKit Go.Lib in
def Tryz.strings_Split(s sep:ByteArray)(m:Int)(w:World)(h:s.size<4294967281)(a:w.cell? ⟨0,0,none⟩=some (.int .i64 m))(h1:1<=sep.size) :
  Calls Tryz.prog 179 #[.string s,.string sep] w fun e w'=>
   e=.returned (.slice (some ⟨w.heap.size,0,none⟩) (Lib.countB s sep+1) (Lib.countB s sep+1))/\w'=w.alloc (.cells ((Lib.splitB sep 0 (Lib.countB s sep) s).map Value.string).toArray 9):=Any.strings_Split Tryz.aC2 (by kernel_rfl) s sep m w h a h1
end Go.Proofs
namespace Go.Proofs.YtoomhbopolalnaaGreatDoor
variable {a b m sep:ByteArray}{x:Call}{l:List Cell}{n:Nat}{p q:Part}{α:Type}
section
open Go.RowKit Go
variable [GC]
def bs(l:List UInt8):ByteArray:=⟨l.toArray⟩
@[simp] def awJ (l:List UInt8):(bs l).data.toList=l:=by simp[bs]
def agE(s:ByteArray):bs s.data.toList=s:=by simp[bs]
@[simp] def A5 (l:List UInt8):(bs l).size=l.length:=by simp[bs,ByteArray.size]
def awI{l m:List UInt8}(h:bs l=bs m):l=m:=by have:=congrArg (fun s:ByteArray=>s.data.toList) h;simpa using this
@[simp] def aKW (l m:List UInt8):bs l=bs m↔l=m:=⟨awI,fun h=>by rw[h]⟩
def awH(l m:List UInt8):bs l++bs m=bs (l++m):=by apply QK;simp[bs]
class aKG:Prop where
 h:∀w:World,qa w->XY w 3 fun cs=>cs=(Lib.pow10Tab.map fun z=>Value.int .u64 z).toArray
class aKF:Prop where
 h:∀w:World,qa w->XY w 0 fun cs=>∃m,cs[0]? =some (Value.int .i64 m)
class aKE:Prop where
 h:∀w:World,qa w->XY w 1 fun cs=>∃tp p,cs=#[.iface tp p]
def ayL(h1:¬n<10)(h2:n<1000):jz n=jz (n/10)++[UInt8.ofNat (48+n%10)]:=by rw[<-ahB h2, <-ahB (n:=n/10) (by omega),Lib.decDigits,dif_neg h1]
def ayM(n:Nat):strOfNums [IntKind.u8.wrap (IntKind.i64.wrap (48+(n:Int).tmod 10))]=bs [UInt8.ofNat (48+n%10)]:=by
 have h:(n:Int).tmod 10=((n%10:Nat):Int):=by rw[Int.tmod_eq_emod_of_nonneg (by omega)];omega
 rw[h,wrap_i64 (by omega) (by omega)];have a:IntKind.u8.wrap (48+((n%10:Nat):Int))=((48+n%10:Nat):Int):=by simp only[IntKind.wrap,IntKind.bits,IntKind.signed];simp;omega
 rw[a];unfold strOfNums bs;simp only[jJ,rR,gX]
def aEX(n:Nat)(h:n<1000):dQ .quo .i64 n 10=((n/10:Nat):Int):=by
 simp only[dQ];have a:(n:Int).tdiv 10=((n/10:Nat):Int):=by rw[Int.tdiv_eq_ediv_of_nonneg (by omega)];omega
 rw[a,wrap_i64 (by omega) (by omega)]
def agV:∀{n:Nat},n<1000->aG Tryz.prog 145 none [.int .i64 n] (.str (bs (jz n))) []:=by
 intro n;induction n using Nat.strongRecOn with
 |ind n ih=>
  intro a;have b:Mz (.sl ([[D.int .u8 (IntKind.u8.wrap (dQ .add .i64 48 (dQ .rem .i64 (n:Int) 10)))]]))=bs [UInt8.ofNat (48+n%10)]:=by rw[<-ayM];rfl
  refine bZ ape an0 (by simp[an0,fK,bH,dI,cI]) fun f=> ?_;unfold ape;refine aj (fun h=> ?_) (fun _=> ?_)
  ·simp[E.den,bg]at h
  refine aj (fun h=> ?_) (fun _=> ?_)
  ·simp[E.den,bg]at h;omega
  refine aQ (fun _=>rfl) ?_;apply aj<;>intro h
  ·simp[E.den,bg]at h;refine aQ (fun _=>rfl) ?_;refine FK (xs:=[.int .i64 ((n/10:Nat):Int)]) ?_ (ih (n/10) (by omega) (by omega)) trivial ?_
   ·simp[E.den,aEX n a]
   refine aQ (fun _=> ?_) (ay ?_)
   ·simp only[eS];rw[b,A5,A5];have:=ZH (n:=n/10) (by omega);simp;unfold maxLen;omega
   ·simp only[eS];rw[b,awH,ayL (n:=n) (by omega) a]
  ·simp[E.den,bg]at h;refine ay ?_;simp only[eS];rw[b];have:jz n=[UInt8.ofNat (48+n%10)]:=by unfold jz;rw[aD (by omega)];congr;omega
   rw[this]
def GM(s:ByteArray):Int:=match zY s.data.toList with|some n=>n|none=>0
def zX(s:ByteArray):Bool:=(zY s.data.toList).isSome
def GL(s:ByteArray):D:=.aU [.int .i64 (GM s),.bool (zX s)]
def aIk(s:ByteArray):bH aJ.tab (.aU [.c (.int .i64),.c .bool]) (GL s):=⟨rfl,trivial,trivial⟩
def aly{s:ByteArray}(h:zY s.data.toList=some n):GM s=n:=by unfold GM;rw[h]
def aEq{s:ByteArray}(h:zY s.data.toList=some n):zX s=true:=by unfold zX;rw[h];rfl
def aEo{s:ByteArray}(h:zY s.data.toList=none):GM s=0:=by unfold GM;rw[h]
def aEp{s:ByteArray}(h:zY s.data.toList=none):zX s=false:=by unfold zX;rw[h];rfl
def aEr{s:ByteArray}(h:zX s=true):∃n:Nat,n<1000/\s=bs (jz n)/\GM s=n:=by unfold zX at h;obtain⟨n,a⟩:=Md.1 h;obtain⟨b,c⟩:=aci.1 a;exact⟨n,b,by rw[c,agE],aly a⟩
def size_data(s:ByteArray):s.data.toList.length=s.size:=uW
def tI(l:List UInt8)(k:Nat):Int:=(l.take k).foldl (fun n c=>10*n+(c.toNat:Int)-48) 0
def GX:Nat->Int
 |0=>0
 |k+1=>10*GX k+255
def ame{l:List UInt8}{k:Nat}(h:k<l.length):tI l (k+1)=10*tI l k+(l[k].toNat:Int)-48:=by unfold tI;rw[Ma,bX h,Option.toList_some,List.foldl_append];rfl
def amd(l:List UInt8):∀k, -GX k<=tI l k/\tI l k<=GX k
 |0=>by simp[tI,GX]
 |k+1=>by
  have ih:=amd l k;rcases dO k l.length with h|h
  ·rw[ame h];have:=l[k].toNat_lt;simp only[GX];omega
  ·have:tI l (k+1)=tI l k:=by unfold tI;rw[AW h,AW (by omega)]
   rw[this];simp only[GX];omega
def aFc:∀k,k<=4->GX k<=283305
 |0,_=>by decide
 |1,_=>by decide
 |2,_=>by decide
 |3,_=>by decide
 |4,_=>by decide
 |k+5,h=>by omega
def aFd(l:List UInt8){k:Nat}(h:k=4\/l.length<=k/\k<=4):tI l k=wB l:=by
 unfold tI wB;rcases h with rfl|⟨a,b⟩
 ·rfl
 ·rw[AW a,AW (by omega)]
def awv{s:ByteArray}{k:Nat}(h:k<s.data.toList.length):((s[k]?).map (fun (c:UInt8)=>(c.toNat:Int))).getD 0=((s.data.toList[k]).toNat:Int):=by
 have a:k<s.size:=by rw[size_data]at h;exact h
 rw[getElem?_pos s k a];simp[ByteArray.getElem_eq_getElem_data]
def axz(s:ByteArray):aG Tryz.prog 191 none [.str s] (GL s) []:=by
 refine bZ apE an3 (by simp[an3,fK,bH,dI,cI]) fun f=> ?_;have d:s.size<=maxLen:=by simp[dC,Fits]at f;exact f
 unfold apE;refine cU 4 (fun k=>[.int .i64 (tI s.data.toList k),.int .i64 k]) (fun k=>k<=s.size) rfl (fO _) (fun k i I _=> ?_);have j:=amd s.data.toList k;have B:=aFc k i;apply aj<;>intro h<;>simp only[eS]at h
 ·simp at h;obtain⟨o,p⟩:=h;have l:k<s.data.toList.length:=by rw[size_data];omega
  refine aQ (fun _=> ?_) ?_
  ·simp only[eS];simp;omega
  refine cJ (by omega) ?_ (by omega);have w:=(s.data.toList[k]).toNat_lt;simp only[eS];rw[ame l];have z:Df s k=((s.data.toList[k]).toNat:Int):=awv l;simp only[dQ,z];rw[wrap_i64 (n:=10*tI s.data.toList k) (by omega) (by omega),wrap_i64 (n:=(s.data.toList[k].toNat:Int)) (by omega) (by omega),wrap_i64 (n:=10*tI s.data.toList k+_) (by omega) (by omega),wrap_i64 (n:=_-48) (by omega) (by omega),wrap_i64 (by omega) (by omega)];rfl
 ·simp at h;have q:tI s.data.toList k=wB s.data.toList:=aFd _ (by rw[size_data];omega);rw[q]at j ⊢;refine wZ (xs:=[.int .i64 (wB s.data.toList)]) (r:=.str (bs (jz (wB s.data.toList).toNat))) rfl (fun g=> ?_) trivial ?_
  ·simp only[cO,fw,vf,yg,Db]at g;simp only[eS]at g;simp at g;have e:wB s.data.toList=((wB s.data.toList).toNat:Int):=by omega
   rw[e];exact agV (by omega)
  apply aj<;>intro h<;>simp only[eS]at h
  ·refine ay ?_;simp only[eS];have n:zY s.data.toList=none:=by
    cases r:zY s.data.toList with
    |none=>rfl
    |some m=>
     exfalso;obtain⟨q1,q2⟩:=aci.1 r;have q3:=ayK q1;rw[q2]at q3;have q4:=ayJ q1;rw[q2,size_data]at q4;have a:bs (jz m)=s:=by rw[q2,agE]
     have b:s≠ByteArray.empty:=by rintro rfl;simp at q4
     rw[q3]at h;simp[a,b]at h;omega
   rw[GL,aEo n,aEp n]
  ·simp at h;obtain⟨⟨⟨o,p⟩,y⟩,t⟩:=h;refine ay ?_;simp only[eS];have e:wB s.data.toList=((wB s.data.toList).toNat:Int):=by omega
   have u:jz (wB s.data.toList).toNat=s.data.toList:=by have v:=congrArg (fun x:ByteArray=>x.data.toList) t;simpa using v
   have c:=aci.2 ⟨(by omega:(wB s.data.toList).toNat<1000),u⟩;rw[GL,aly c,aEq c, <-e]
class Sm(α:Type) where
 sm:α->Prop
instance :Sm ByteArray:=⟨fun s=>s.size<=1048576⟩
instance {α:Type}[Inhabited α][Sm α]:Sm (List α):=⟨fun l=>l.length<=1048576/\∀k,k<l.length->Sm.sm (nth l k)⟩
instance :Sm tW:=⟨fun x=>Sm.sm x.name⟩
instance :Sm Cell:=⟨fun x=>Sm.sm x.key⟩
instance :Sm Core:=⟨fun x=>Sm.sm x.kind/\Sm.sm x.cells⟩
instance :Sm Call:=⟨fun x=>Sm.sm x.method/\Sm.sm x.key/\Sm.sm x.text⟩
instance :Sm gK:=⟨fun x=>Sm.sm x.text⟩
instance :Sm Part:=⟨fun x=>Sm.sm x.core/\Sm.sm x.ai⟩
instance :Sm lQ:=⟨fun x=>True⟩
instance :Sm mq:=⟨fun x=>Sm.sm x.j8⟩
instance :Sm Entry:=⟨fun x=>Sm.sm x.name/\Sm.sm x.recipe/\Sm.sm x.needs⟩
instance :Sm ik:=⟨fun x=>Sm.sm x.j8/\Sm.sm x.to⟩
instance :Sm Event:=⟨fun x=>Sm.sm x.name/\Sm.sm x.call/\Sm.sm x.recipe⟩
instance :Sm Host:=⟨fun x=>Sm.sm x.entries/\Sm.sm x.parts/\Sm.sm x.up/\Sm.sm x.shut/\Sm.sm x.log⟩
def tE(l:List ByteArray)(sep:ByteArray):ByteArray:=⟨(Lib.join (l.map (·.data.toList)) sep.data.toList).toArray⟩
def UG(l:List ByteArray)(sep:ByteArray):(tE l sep).size=(Lib.join (l.map (·.data.toList)) sep.data.toList).length:=A5 _
def agF(s:ByteArray):bs s.data.toList=s:=by simp[bs]
def akw{l:List ByteArray}{k:Nat}(h:k<l.length)(sep:ByteArray):tE (l.take (k+1)) sep=if k=0 then nth l k else tE (l.take k) sep++sep++nth l k:=by
 cases l with
 |nil=>simp at h
 |cons x r=>
  cases k with
  |zero=> rw[aD rfl];show bs (Lib.join [x.data.toList] _)=_;rw[Lib.join_one,agF];rfl
  |succ j=>
   rw[aw (by omega)];have a:j<r.length:=by simpa using h
   have e:(r.map (·.data.toList))[j]? =some ((nth (x::r) (j+1)).data.toList):=by simp[nth,a]
   simp only[tE,QW,jJ,Ff,Lib.join_cons];rw[Lib.joinTail_take_succ _ _ _ _ e];apply QK;simp[ByteArray.data_append]
def aCK(l:List ByteArray)(sep:ByteArray)(k:Nat):(tE (l.take k) sep).size<=(tE l sep).size:=by
 rw[UG,UG];cases l with
 |nil=>simp
 |cons x r=>
  cases k with
  |zero=>simp[Lib.join_nil]
  |succ j=> simp only[QW,jJ,Ff,Lib.join_cons,jI];have:=Lib.joinTail_take_le sep.data.toList (r.map (·.data.toList)) j;omega
def aCJ{l:List ByteArray}(h:∀k,k<l.length->(nth l k).size<=n):(tE l sep).size<=l.length*(n+sep.size):=by
 have:∀k,k<=l.length->(tE (l.take k) sep).size<=k*(n+sep.size):=by
  intro k;induction k with
  |zero=>intro _;simp[UG,Lib.join_nil]
  |succ k ih=>
   intro a;have b:=ih (by omega);have c:=h k (by omega);rw[akw (by omega),iG];split
   ·omega
   ·simp only[AP];omega
 simpa using this l.length (bK _)
def axs(l:List ByteArray)(sep:ByteArray)(N:l.length<=140737488355328)(n:(tE l sep).size<=140737488355328):aG Tryz.prog 146 none [ak l,.str sep] (.str (tE l sep)) []:=by
 refine bZ aps aIE ⟨kA l,trivial,trivial⟩ fun f=> ?_;unfold aps;refine cU l.length (fun k=>[.str (tE (l.take k) sep),.int .i64 k]) (fun _=>True) rfl trivial ?_;intro k c I _;simp only[cA];apply aj<;>intro h<;>simp only[eS]at h
 ·have h:k<l.length:=by simp at h;exact h
  refine dK ?_;have b:=aCK l sep (k+1);have e:=akw h sep;apply aj<;>intro a<;>simp only[eS]at a
  ·have a:k≠0:=by simp at a;omega
   rw[aw a]at e;rw[e,AP,AP]at b;refine aQ (fun _=> ?_) ?_
   ·simp only[eS];simp[maxLen];exact Mn (by omega)
   refine aQ (fun _=> ?_) ?_
   ·simp only[eS,jr,fP];simp[maxLen,AP];omega
   refine cJ h ?_ trivial;simp only[eS,jr,fP];rw[bF,e];rfl
  ·have a:k=0:=by simp at a;omega
   subst a;rw[aD rfl]at e;rw[e]at b;refine aQ (fun _=> ?_) ?_
   ·simp only[eS,jr,fP];simp[maxLen,UG,Lib.join_nil];omega
   refine cJ h ?_ trivial;simp only[eS,jr,fP];rw[e];have:tE [] sep++nth l 0=nth l 0:=by apply QK;simp[tE,Lib.join_nil,ByteArray.data_append]
   rw[this];rfl
 ·obtain rfl:k=l.length:=by simp at h;omega
  refine ay ?_;simp only[eS];rw[wU]
def ZF{p:Prop}[Decidable p](h:p):D.bool (decide p)=.bool true:=by simp[h]
def alf{s:ByteArray}(h:kY s=true):s.size<=8:=by unfold kY at h;simp at h;omega
def ak6{a:Type}[Inhabited α](f:α->a){l:List α}{k:Nat}(h:k<l.length):(l.take (k+1)).map f=(l.take k).map f++[f (nth l k)]:=by rw[YD h,AR];simp[nth,h]
def aCO{s:ByteArray}(h:kindOk s=true):s.size<=8:=by
 unfold kindOk BN at h;repeat' split at h
 all_goals first
  |(rename_i e;rw[e];decide)
  |simp at h
def aCW{s:ByteArray}(h:pG s=true):s.size<=8:=by
 unfold pG zS at h;repeat' split at h
 all_goals first
  |(rename_i e;rw[e];decide)
  |simp at h
def aag{p:Nat->Bool}:∀{n:Nat},eH p n=none->∀i,i<n->p i=false
 |0,_,i,h=>by omega
 |n+1,h,i,c=>by
  simp only[eH]at h;split at h
  ·cases h
  ·rename_i a;split at h
   ·cases h
   ·rename_i b;by_cases e:i=n
    ·subst e;simpa using b
    ·exact aag a i (by omega)
def aui{s:ByteArray}(h:(kL p s).2.code=0):pG s=true/\p.ai.length<3/\(kL p s).1.ai.length=p.ai.length+1:=by
 unfold kL at h ⊢;split at h
 ·simp[rep]at h
 rename_i a;split at h
 ·simp[rep]at h
 rename_i b;split at h
 ·simp[rep]at h
 rename_i c;rw[aw a,aw b,aw c];exact⟨by grind,by omega,by simp⟩
def acK{l:List ByteArray}(h:jq l=true):l.length<=4/\∀k,k<l.length->(nth l k).size<=8:=by
 unfold jq dX at h;split at h
 ·simp[rep]at h
 rename_i g;have b:kindOk (nth l 0)=true:=by grind
 split at h
 ·rename_i k a;have c:∀{n:Nat} {p:Nat->Bool},eH p n=some k->p k=true:=by
   intro n;induction n with
   |zero=>intro p h;simp[eH]at h
   |succ n ih=>
    intro p h;simp only[eH]at h;split at h
    ·rename_i j d;cases h;exact ih d
    ·split at h
     ·cases h;assumption
     ·cases h
  have:=c a;grind
 rename_i e;have w:∀k,k<l.length-1->(tT l k).code=0:=fun k a=>by simpa using aag e k a
 have s:∀k,k<=l.length-1->(gP l k).ai.length=k:=by
  intro k;induction k with
  |zero=>intro _;simp[gP,rl]
  |succ k ih=> intro a;have:=aui (w k (by omega));simp only[gP];rw[this.2.2,ih (by omega)]
 refine⟨?_,fun k a=> ?_⟩
 ·have f:=(ET l (l.length-1)).2;rw[s _ (bK _)]at f;omega
 ·cases k with
  |zero=>exact aCO b
  |succ k=>exact aCW (aui (w k (by omega))).1
def pieces(s sep:ByteArray):List ByteArray:=(Lib.split s.data.toList sep.data.toList).map bs
def ak8{x:List UInt8}:∀{l:List (List UInt8)},x∈l->x.length<=Lib.lens l
 |y::r,h=>by
  have e:Lib.lens (y::r)=y.length+Lib.lens r:=by simp[Lib.lens]
  rw[e];rcases fw.1 h with rfl|h
  ·omega
  ·have:=ak8 h;omega
def aGL{s sep:List UInt8}(h:sep≠[]):(Lib.split s sep).length<=s.length+1/\∀x∈Lib.split s sep,x.length<=s.length:=by
 obtain⟨b,c⟩:=abV h s.length s (bK _);have p:0<sep.length:=Yz.2 h;cases l:Lib.split s sep with
 |nil=>exact absurd l c
 |cons y r=>
  rw[l,Lib.join_cons]at b;have e:=congrArg List.length b;rw[jI,Lib.joinTail_length]at e;have:r.length<=sep.length*r.length:=Nat.le_mul_of_pos_left _ p;refine⟨by simp;omega,fun x a=> ?_⟩;rcases fw.1 a with rfl|a
  ·omega
  ·have:=ak8 a;omega
def alS{s:ByteArray}(h:1<=sep.size):(pieces s sep).length<=s.size+1/\∀x∈pieces s sep,x.size<=s.size:=by
 have n:sep.data.toList≠[]:=fun e=>by
  have:sep.size=0:=by rw[<-size_data,e];rfl
  omega
 obtain⟨a,b⟩:=aGL (s:=s.data.toList) n;rw[size_data]at a;refine⟨by unfold pieces;rw[dq];exact a,fun x c=> ?_⟩;obtain⟨y,d,rfl⟩:=fN.1 c;have:=b y d;rw[size_data]at this;rw[A5];exact this
def aEQ{s:ByteArray}(h:1<=sep.size){k:Nat}(a:k<(pieces s sep).length):(nth (pieces s sep) k).size<=s.size:=(alS h).2 _ (gF a)
def yZ:ByteArray:=⟨#[61]⟩
def OO:ByteArray:=⟨#[45]⟩
def jt:ByteArray:=⟨#[44]⟩
def VI:(⟨#[61]⟩:ByteArray)=yZ:=rfl
def ank:(⟨#[45]⟩:ByteArray)=OO:=rfl
def anj:(⟨#[44]⟩:ByteArray)=jt:=rfl
def ade:yZ.size=1:=rfl
def aG4:jt.size=1:=rfl
def zA(c:Cell):ByteArray:=c.key++yZ++bs (jz c.val.toNat)
def fmtC(l:List Cell):ByteArray:=if iM l=true then(if l.length=0 then OO else tE (l.map zA) jt)else cL
def SI(h:iM l=true){k:Nat}(a:k<l.length):kY (nth l k).key=true/\gM (nth l k).val=true:=by unfold iM at h;simp only[aY]at h;have:=kC.1 h.2 k a;unfold nI at this;simp only[aY]at this;exact this.1
def ym(h:iM l=true):l.length<=4:=by unfold iM at h;simp only[aY,dr]at h;exact h.1
def alx{n:Int}(h:gM n=true):∃m:Nat,n=m/\m<1000:=by unfold gM at h;simp only[aY,dr]at h;exact⟨n.toNat,by omega,by omega⟩
def ax5{c:Cell}(h1:kY c.key=true)(h2:gM c.val=true):(zA c).size<=12:=by obtain⟨m,e,h⟩:=alx h2;have:=alf h1;have l:=ZH h;unfold zA;rw[e,gX];simp only[AP,ade,A5];omega
def ahl(h:iM l=true):(tE (l.map zA) jt).size<=52:=by
 have b:=ym h;refine dV (aCJ (n:=12) fun k a=> ?_) ?_
 ·have a:k<l.length:=by simpa using a
  have:nth (l.map zA) k=zA (nth l k):=by simp[nth,a]
  rw[this];exact ax5 (SI h a).1 (SI h a).2
 ·rw[dq,aG4];omega
def ain(l:List Cell):(fmtC l).size<=52:=by
 unfold fmtC;split
 ·rename_i h;split
  ·decide
  ·exact ahl h
 ·decide
def agU(l:List Cell):aG Tryz.prog 110 none [ak l] (.str (fmtC l)) []:=by
 refine bZ apd aIt ⟨xO l,trivial⟩ fun f=> ?_;unfold apd;refine aH (Zn l) ?_;refine aj (fun h=>ay ?_) (fun h=> ?_)
 ·simp only[eS]at h ⊢;rw[fmtC,aw (by grind)];rfl
 simp only[eS]at h;have h:iM l=true:=by grind
 have d:=ym h;have j:=ahl h;have b:(l.map zA).length<=140737488355328:=by rw[dq];omega
 refine cU l.length (fun k=>[ak ((l.take k).map zA),.int .i64 k]) (fun _=>True) rfl trivial ?_;intro k i I _;simp only[cA];apply aj<;>intro a<;>simp only[eS]at a
 ·have a:k<l.length:=by simp at a;exact a
  obtain⟨q1,q2⟩:=SI h a;obtain⟨m,e,c⟩:=alx q2;have q3:=alf q1;have n:=ZH c;refine dK ?_
  (try (refine aQ (fun _=> ?_) ?_;(focus (simp only[eS,rB,mz,VI];refine ZF ?_;simp only[AP,ade];unfold maxLen;omega))))
  refine aH (agV c) ?_ (ha:=by(simp only[gS,rB,mz,gX,e];try exact rfl))
  (try (refine aQ (fun _=> ?_) ?_;(focus (simp only[eS,rB,mz,VI];refine ZF ?_;simp only[AP,ade,A5];unfold maxLen;omega))))
  refine aQ (fun _=> ?_) ?_
  ·simp only[eS];simp[maxLen];omega
  refine cJ a ?_ trivial;simp only[eS,rB,mz,VI];rw[bF,ak6 _ a];simp[ak,fP,zA,e]
 ·obtain rfl:k=l.length:=by simp at a;omega
  refine aj (fun g=>ay ?_) (fun g=> ?_)
  ·simp only[eS]at g ⊢;have g:l.length=0:=by simpa using g
   rw[fmtC,aD h,aD g];rfl
  ·simp only[eS]at g;have g:l.length≠0:=by simpa using g
   refine aH (axs (l.map zA) jt b (by omega)) ?_ (ha:=by(simp only[gS,anj,wU];try exact rfl));refine ay ?_;simp only[eS];rw[fmtC,aD h,aw g]
def pcA(x:ByteArray):ByteArray:=bs (Lib.cut x.data.toList [61]).1
def GR(x:ByteArray):ByteArray:=bs (Lib.cut x.data.toList [61]).2.1
def mn(x:ByteArray):Cell:=⟨pcA x,GM (GR x)⟩
def Cc(x:ByteArray):Bool:=(Lib.cut x.data.toList [61]).2.2&&zX (GR x)
def Cb(s:ByteArray):List Cell:=(pieces s jt).map mn
def GQ(s:ByteArray):Bool:=(pieces s jt).all Cc&&decide ((pieces s jt).length<=4)&&iM (Cb s)
def pJ(s:ByteArray):List Cell×Bool:=if s=OO then([],true)else if GQ s=true then(Cb s,true)else([],false)
def aEM{s:ByteArray}(h:(pJ s).2=true):iM (pJ s).1=true:=by
 unfold pJ at h ⊢;split
 ·decide
 ·rename_i b;rw[aw b]at h;split
  ·rename_i a;unfold GQ at a;simp only[aY]at a;exact a.2
  ·rename_i a;rw[aw a]at h;cases h
def axb(n:Int):aG Tryz.prog 155 none [.int .i64 n] (.int .i64 (min (IntKind.i64.wrap (n+1)) 999)) []:=by
 refine CL (by kernel_rfl) fun w M s G h=> ?_;obtain⟨v,q,rfl,⟨rfl,a,b⟩,rfl⟩:=h;show Calls Tryz.prog 155 #[.int .i64 n] w _;go_enter Tryz.func155,Tryz.ntmps155;go_wp2;go_ret;have c: -9223372036854775808<=wrap64 (n+1)/\wrap64 (n+1)<=9223372036854775807:=by unfold wrap64;omega
 refine⟨.int .i64 (min (wrap64 (n+1)) 999),rfl,⟨by rw[<-IntWalk.i64_left],?_,?_⟩,by go_grown⟩
 ·rw[Yq];simp only[IntKind.min,IntKind.bits,IntKind.signed];simp;omega
 ·rw[Yq];simp only[IntKind.max,IntKind.bits,IntKind.signed];simp;omega
def aw5(s:ByteArray):aG Tryz.prog 124 none [.str s] (.int .i64 (bY s)) []:=by
 refine bZ aoK aHX ⟨trivial,trivial⟩ fun f=> ?_;unfold aoK;refine aH (agL s) ?_;apply aj<;>intro h<;>simp only[eS]at h
 ·have h:jX s<0:=by simpa using h
  exact ay (by simp[E.den,bY,h])
 have h:¬jX s<0:=by simpa using h
 have b:=af6 s;refine aQ (fun _=> ?_) (ay ?_)
 ·simp[E.den,bg];omega
 ·have e:=agj ⟨(jX s).toNat,by omega⟩;have a:(((jX s).toNat:Nat):Int)=jX s:=by omega
  rw[a]at e;simp only[eS,e];simp[bY,h]
def vZ:ByteArray:=⟨#[108,97,122,121]⟩
def yT:ByteArray:=⟨#[114,101,97,100,115]⟩
def uz:ByteArray:=⟨#[104,101,97,108,115]⟩
def pQ:ByteArray:=⟨#[116,119,105,99,101]⟩
def je(n:Int):Int:=min (IntKind.i64.wrap (n+1)) 999
def KF{n:Int}(h:gM n=true):gM (je n)=true/\(n<999->je n=n+1)/\1<=je n:=by
 unfold gM at h;simp only[aY,dr]at h;have e:je n=min (n+1) 999:=by unfold je;rw[wrap_i64 (by omega) (by omega)]
 refine⟨?_,fun _=>by omega,by omega⟩;unfold gM;simp only[aY,dr];omega
def dG:List Cell->ByteArray->Nat
 |[],_=>0
 |c::r,k=>if du c.key k=true then dG r k+1 else 0
def Mr:∀(l:List Cell) (k:ByteArray),dG l k<=l.length
 |[],_=>bK _
 |c::r,k=>by
  unfold dG;have:=Mr r k;split
  ·simp;exact this
  ·exact fO _
def alv[Inhabited α](a:α)(l:List α)(i:Nat):nth (a::l) (i+1)=nth l i:=by simp[nth]
def ach[Inhabited α](a:α)(l:List α):nth (a::l) 0=a:=by simp[nth]
def Ms:∀{l:List Cell} {k:ByteArray} {i:Nat},i<dG l k->du (nth l i).key k=true
 |[],_,i,h=>by simp[dG]at h
 |c::r,k,i,h=>by
  unfold dG at h;split at h
  ·rename_i a;cases i with
   |zero=>rw[ach];exact a
   |succ i=>rw[alv];exact Ms (by omega)
  ·omega
def RW:∀{l:List Cell} {k:ByteArray},dG l k<l.length->du (nth l (dG l k)).key k=false
 |[],_,h=>by simp[dG]at h
 |c::r,k,h=>by
  unfold dG at h ⊢;split at h
  ·rename_i a;rw[aD a,alv];exact RW (by simp at h;omega)
  ·rename_i a;rw[aw a,ach];simpa using a
def kG(l:List Cell)(k:ByteArray):Bool:=decide (dG l k<l.length)&&decide ((nth l (dG l k)).key=k)
def sB(l:List Cell)(k:ByteArray)(v:Int):List Cell:=if kG l k=true then l.set (dG l k) ⟨k,v⟩else l.take (dG l k)++[⟨k,v⟩]++l.drop (dG l k)
def keepD(p:Core)(x:Call):Core×gK :=
 if(fg p.kind).testBit 0=true/\p.on=false then(p,rep 2 0 0 0)
 else if x.method=kX then(if kG p.cells x.key=true then(p,rep 0 (nth p.cells (dG p.cells x.key)).val 0 0)else(p,rep 4 0 0 0))
 else if kG p.cells x.key=false/\4<=p.cells.length then(p,rep 5 0 0 0)
 else(⟨p.kind,p.on,p.broken,sB p.cells x.key x.val,je p.count⟩,rep 0 (sB p.cells x.key x.val).length 0 0)
def gm(x:Call):Bool:=decide (x.method=kX)||decide (x.method=jP)
def eZ(p:Core)(x:Call):Core×gK :=
 if p.broken=true/\x.method≠jo/\x.method≠jQ then(p,rep 3 0 0 0)
 else if x.method=mStart then(if p.on=true then(⟨p.kind,false,true,p.cells,p.count⟩,rep 3 0 0 0)else(⟨p.kind,true,p.broken,p.cells,je p.count⟩,rep 0 0 0 0))
 else if x.method=dR then(if p.on=false then(p,rep 2 0 0 0)else(⟨p.kind,false,p.broken,p.cells,p.count⟩,rep 0 0 0 0))
 else if gm x=true then keepD p x
 else if x.method=jQ then(p,rep 0 p.count 0 0)
 else if x.method=jD then(⟨p.kind,if x.val=0 then false else if x.val=1 then true else p.on,p.broken,p.cells,je p.count⟩,rep 0 (je p.count) 0 0)
 else if x.method=Kf then(p,⟨0,0,fmtC p.cells,0,0⟩)
 else if x.method=su then(if(pJ x.text).2=true then(⟨p.kind,p.on,p.broken,(pJ x.text).1,p.count⟩,rep 0 (pJ x.text).1.length 0 0)else(p,rep 6 0 0 0))
 else if x.method=jo then(⟨p.kind,false,false,p.cells,p.count⟩,rep 0 0 0 0)
 else(p,rep 0 0 0 0)
def bump(p:Part)(k:Nat):Part:=⟨p.core,p.ai.set k ⟨(nth p.ai k).name,je (nth p.ai k).count⟩⟩
def bL(m:ByteArray):Call:=⟨m,cL,0,cL⟩
def OY(r:gK):gK:=if r.code=0 then ⟨r.code,min (IntKind.i64.wrap (2*r.val)) 999,r.text,r.want,r.had⟩else r
def bi:Nat->Part->Call->Part×gK
 |0,p,x=>(⟨(eZ p.core x).1,p.ai⟩,(eZ p.core x).2)
 |k+1,p,x=>
  if(nth p.ai k).name=counts/\x.method=jQ then(p,rep 0 (nth p.ai k).count 0 0)
  else if(nth p.ai k).name=counts/\gm x=true then(bump (bi k p x).1 k,(bi k p x).2)
  else if(nth p.ai k).name=vZ/\gm x=true then
   (if(bi k p x).2.code=2 then bi k (bi k (bi k p x).1 (bL mStart)).1 x else bi k p x)
  else if(nth p.ai k).name=yT/\x.method=jP then(p,rep 6 0 0 0)
  else if(nth p.ai k).name=mU/\x.method=jD then
   (if x.val=0 then bi k (bump p k) (bL dR)else if x.val=1 then bi k (bump p k) (bL mStart)else(bump p k,rep 0 (nth (bump p k).ai k).count 0 0))
  else if(nth p.ai k).name=uz/\x.method=jo then bi k (bi k p (bL dR)).1 (bL mStart)
  else if(nth p.ai k).name=pQ then((bi k p x).1,OY (bi k p x).2)
  else bi k p x
def fX(p:Part)(x:Call):Part×gK :=
 if dw p=false\/gy x=false then(p,rep 7 0 0 0)
 else if cm (fc p) (bY x.method)=false then(p,rep 1 0 (bY x.method) (fc p))
 else bi p.ai.length p x
def aCP{s:ByteArray}(h:kindOk s=true):∃i:Fin 8,s=nth kinds i.val/\fg s=DJ.getD i.val 0:=by
 have key:∃i:Fin 8,s=nth kinds i.val:=by
  unfold kindOk BN at h;by_cases e:s=nth kinds 0
  ·exact⟨0,e⟩
  by_cases a:s=nth kinds 1
  ·exact⟨1,a⟩
  by_cases b:s=nth kinds 2
  ·exact⟨2,b⟩
  by_cases c:s=nth kinds 3
  ·exact⟨3,c⟩
  by_cases d:s=nth kinds 4
  ·exact⟨4,d⟩
  by_cases f:s=nth kinds 5
  ·exact⟨5,f⟩
  by_cases g:s=nth kinds 6
  ·exact⟨6,g⟩
  by_cases j:s=nth kinds 7
  ·exact⟨7,j⟩
  simp[e,a,b,c,d,f,g,j]at h
 obtain⟨i,rfl⟩:=key;refine⟨i,rfl,?_⟩;unfold fg;rw[akz i]
def akH{s:ByteArray}(h:pG s=true):∃i:Fin 9,s=nth ai i.val/\mJ s=DL.getD i.val 0/\qR s=GD.getD i.val 0:=by
 have key:∃i:Fin 9,s=nth ai i.val:=by
  unfold pG zS at h;by_cases e:s=nth ai 0
  ·exact⟨0,e⟩
  by_cases a:s=nth ai 1
  ·exact⟨1,a⟩
  by_cases b:s=nth ai 2
  ·exact⟨2,b⟩
  by_cases c:s=nth ai 3
  ·exact⟨3,c⟩
  by_cases d:s=nth ai 4
  ·exact⟨4,d⟩
  by_cases f:s=nth ai 5
  ·exact⟨5,f⟩
  by_cases g:s=nth ai 6
  ·exact⟨6,g⟩
  by_cases j:s=nth ai 7
  ·exact⟨7,j⟩
  by_cases k:s=nth ai 8
  ·exact⟨8,k⟩
  simp[e,a,b,c,d,f,g,j,k]at h
 obtain⟨i,rfl⟩:=key;refine⟨i,rfl,?_,?_⟩
 ·unfold mJ;rw[UK i]
 ·unfold qR;rw[UK i]
def UT{s:ByteArray}(h:¬jX s<0):∃j:Fin 6,bY s=((2^j.val:Nat):Int)/\s∈methods j.val:=by
 unfold bY;rw[aw h];unfold jX at h ⊢;cases f:eH (Iw s) 6 with
 |none=>rw[f]at h;simp at h
 |some k=>
  obtain⟨b,a,_⟩:=xg f;refine⟨⟨k,b⟩,by simp,?_⟩;unfold Iw hasB at a;rw[uY]at a;obtain⟨t,c,e⟩:=a;have e:t=s:=by simpa using e
  subst e;exact c
def Kb:∀(i:Fin 8) (j:Fin 6),cm ((DJ.getD i.val 0:Nat):Int) ((2^j.val:Nat):Int)=true->(j.val=0\/j.val=3->(DJ.getD i.val 0).testBit 0=true)/\(j.val=1\/j.val=4->(DJ.getD i.val 0).testBit 1=true):=by decide +kernel
def aCX:∀(i:Fin 9) (j:Fin 6) (f:Fin 64),cm ((f.val:Nat):Int) ((DL.getD i.val 0:Nat):Int)=true->cm ((GD.getD i.val 0:Nat):Int) ((2^j.val:Nat):Int)=true->(i.val=3/\j.val=2)\/(i.val=6/\j.val=3)\/(i.val=7/\j.val=5)\/cm ((f.val:Nat):Int) ((2^j.val:Nat):Int)=true:=by decide +kernel
def aCZ:∀(i:Fin 9) (f:Fin 64),(i.val=4\/i.val=6\/i.val=7)->cm ((f.val:Nat):Int) ((DL.getD i.val 0:Nat):Int)=true->cm ((f.val:Nat):Int) 1=true:=by decide +kernel
def aue:bY mStart=1/\bY dR=1/\bY kX=2/\bY jP=2/\bY jQ=4/\bY jD=8:=by decide +kernel
def Dh:gy (bL mStart)=true/\gy (bL dR)=true/\gy (bL jQ)=true:=by decide +kernel
def MJ(h:gy x=true):¬jX x.method<0:=by unfold gy at h;simp only[aY,qH,qK]at h;exact h.1.1.1
def axY(h:gy x=true)(m:gm x=true):kY x.key=true:=by unfold gy gm at *;grind
def ahb(h:gy x=true):gM x.val=true:=by unfold gy gM at *;grind
def akI:nth ai 3=counts/\nth ai 4=vZ/\nth ai 6=mU/\nth ai 7=uz:=by decide
def sn:∀{a b:List UInt8},Op.bytesLess a b=true->Op.bytesLess b a=false
 |[],_::_,_=>by simp[Op.bytesLess]
 |[],[],h=>by simp[Op.bytesLess]at h
 |_::_,[],h=>by simp[Op.bytesLess]at h
 |x::a,y::b,h=>by
  simp only[Op.bytesLess]at h ⊢;by_cases e:x=y
  ·subst e;simp at h ⊢;exact sn h
  ·have c:¬y=x:=fun h=>e h.symm;simp[e,c]at h ⊢;exact UInt8.le_of_lt h
def ur:∀{a b:List UInt8},a≠b->Op.bytesLess a b=false->Op.bytesLess b a=true
 |[],[],h,_=>by simp at h
 |[],_::_,_,h=>by simp[Op.bytesLess]at h
 |_::_,[],_,_=>by simp[Op.bytesLess]
 |x::a,y::b,n,h=>by
  simp only[Op.bytesLess]at h ⊢;by_cases e:x=y
  ·subst e;simp at h n ⊢;exact ur n h
  ·have c:¬y=x:=fun h=>e h.symm;simp[e,c]at h ⊢;exact UInt8.lt_of_le_of_ne h c
def ltA(h:du a b=true):du b a=false:=sn h
def ltT(n:a≠b)(h:du a b=false):du b a=true :=
 ur (fun e=>n (by have:=Ej a b;rw[e]at this;simpa using this.symm)) h
def U0[Inhabited α](l:List α)(k i:Nat)(x:α)(a:k<l.length):nth (l.set k x) i=if i=k then x else nth l i:=by
 by_cases h:i=k
 ·subst h;simp[nth,a]
 ·rw[aw h];have:¬k=i:=fun e=>h e.symm;simp[nth,kQ,C6,this]
def alu[Inhabited α](l:List α)(a i:Nat)(x:α)(ha:a<=l.length):nth (l.take a++[x]++l.drop a) i=if i<a then nth l i else if i=a then x else nth l (i-1):=by
 have c:(l.take a).length=a:=by simp;omega
 simp only[nth,kQ,iU];by_cases h:i<a
 ·rw[aD h,mN (by omega),qe,aD h]
 ·rw[aw h,og (by omega),c];by_cases b:i=a
  ·subst b;simp
  ·rw[aw b];obtain⟨j,rfl⟩:∃j,i=a+1+j:=⟨i-a-1,by omega⟩;have:a+1+j-a=j+1:=by omega
   rw[this];simp[x9]
def BK{k:ByteArray}:kG l k=true↔dG l k<l.length/\(nth l (dG l k)).key=k:=by unfold kG;simp
def al2(l:List Cell)(k:ByteArray)(v:Int):(sB l k v).length=if kG l k=true then l.length else l.length+1:=by
 unfold sB;have:=Mr l k;split
 ·simp
 ·simp;omega
def al8{k:ByteArray}{v:Int}(h:iM l=true)(s:kY k=true)(p:gM v=true)(u:¬(kG l k=false/\4<=l.length)):iM (sB l k v)=true:=by
 have n:=ym h;have d:=Mr l k;unfold iM at h;simp only[aY,kC]at h;have g:=fun i b=>h.2 i b;unfold iM;simp only[aY,dr,kC];refine⟨?_,fun i b=> ?_⟩
 ·rw[al2];split
  ·exact n
  ·rename_i m;have m:kG l k=false:=by simpa using m
   have:¬4<=l.length:=fun e=>u ⟨m,e⟩;omega
 rw[al2]at b;unfold nI;by_cases a:kG l k=true
 ·rw[aD a]at b;have e:sB l k v=l.set (dG l k) ⟨k,v⟩:=by unfold sB;rw[aD a]
  obtain⟨q1,q2⟩:=BK.1 a;have c:=g i b;unfold nI at c;rw[e,U0 _ _ _ _ q1,U0 _ _ _ _ q1];have key:∀j,(if j=dG l k then(⟨k,v⟩:Cell)else nth l j).key=(nth l j).key:=fun j=>by
   split
   ·rename_i e;rw[e,q2]
   ·rfl
  have val:gM (if i=dG l k then(⟨k,v⟩:Cell)else nth l i).val=true:=by
   split
   ·exact p
   ·simp only[aY]at c;exact c.1.2
  rw[key,key,val];simp only[aY,jY]at c ⊢;exact⟨⟨c.1.1,trivial⟩,c.2⟩
 ·have o:kG l k=false:=by simpa using a
  rw[aw a]at b;have e:sB l k v=l.take (dG l k)++[⟨k,v⟩]++l.drop (dG l k):=by unfold sB;rw[aw a]
  rw[e,alu _ _ _ _ d,alu _ _ _ _ d];simp only[aY,jY,vA];by_cases q:i<dG l k
  ·have:=g i (by omega);unfold nI at this;simp only[aY,jY,vA]at this;rw[aD q,aD (by omega)];exact this
  rw[aw q];by_cases r:i=dG l k
  ·rw[aD r];refine⟨⟨s,p⟩,?_⟩;by_cases f:i=0
   ·exact .inl f
   ·rw[aD (by omega)];exact .inr (Ms (l:=l) (k:=k) (i:=i-1) (by omega))
  rw[aw r];have:=g (i-1) (by omega);unfold nI at this;simp only[aY,jY,vA]at this;refine⟨this.1,.inr ?_⟩;rw[aw (by omega)];by_cases f:i-1=dG l k
  ·rw[aD f,f];have t:dG l k<l.length:=by omega
   refine ltT (fun e=> ?_) (RW t);have:kG l k=true:=BK.2 ⟨t,e⟩;rw[o]at this;cases this
  ·rw[aw f];rcases this.2 with h|h
   ·omega
   ·exact h
def rU{p:Core}:oB p=true↔kindOk p.kind=true/\iM p.cells=true/\(p.cells.length=0\/(fg p.kind).testBit 1=true)/\gM p.count=true/\¬(p.on=true/\p.broken=true)/\((fg p.kind).testBit 0=true\/(p.on=false/\p.broken=false)):=by unfold oB;grind
def aD7{k:ByteArray}(h:kindOk k=true)(ho:cm (fg k) (bY m)=true) :
  ((m=mStart\/m=dR\/m=jD)->(fg k).testBit 0=true)/\((m=kX\/m=jP\/m=su)->(fg k).testBit 1=true):=by
 obtain⟨i,_,e⟩:=aCP h;rw[e]at ho ⊢;have w:bY mStart=((2^(0:Fin 6).val:Nat):Int):=by decide +kernel
 have a:bY dR=((2^(0:Fin 6).val:Nat):Int):=by decide +kernel
 have b:bY jD=((2^(3:Fin 6).val:Nat):Int):=by decide +kernel
 have c:bY kX=((2^(1:Fin 6).val:Nat):Int):=by decide +kernel
 have d:bY jP=((2^(1:Fin 6).val:Nat):Int):=by decide +kernel
 have f:bY su=((2^(4:Fin 6).val:Nat):Int):=by decide +kernel
 constructor
 ·rintro (rfl|rfl|rfl)
  ·rw[w]at ho;exact(Kb i 0 ho).1 (.inl rfl)
  ·rw[a]at ho;exact(Kb i 0 ho).1 (.inl rfl)
  ·rw[b]at ho;exact(Kb i 3 ho).1 (.inr rfl)
 ·rintro (rfl|rfl|rfl)
  ·rw[c]at ho;exact(Kb i 1 ho).2 (.inl rfl)
  ·rw[d]at ho;exact(Kb i 1 ho).2 (.inl rfl)
  ·rw[f]at ho;exact(Kb i 4 ho).2 (.inr rfl)
def Uy:gm x=true↔x.method=kX\/x.method=jP:=by unfold gm;simp
def py(p:Core)(y:Core×gK):Prop:=oB y.1=true/\y.1.kind=p.kind/\y.2.code≠1/\y.2.code≠7/\0<=y.2.val/\y.2.val<=999
def zW{n:Int}:gM n=true↔0<=n/\n<=999:=by unfold gM;simp
def ayP{p:Core}(l:oB p=true)(hx:gy x=true)(ho:cm (fg p.kind) (bY x.method)=true):py p (eZ p x):=by
 have j:=rU.1 l;obtain⟨b,d,e,a,o,q⟩:=j;have n:=aD7 b ho;have u:=zW.1 a;have f:=zW.1 (KF a).1;have J:=ym d;have s:∀c v t w h,c≠1->c≠7->0<=v->v<=999->py p (p,⟨c,v,t,w,h⟩):=fun c v t w h y z A B=>⟨l,rfl,y,z,A,B⟩;unfold eZ;split
 ·exact s _ _ _ _ _ (by decide) (by decide) (by decide) (by decide)
 split
 ·rename_i m;have:=n.1 (.inl m);split
  ·exact⟨rU.2 ⟨b,d,e,a,by simp,.inl this⟩,rfl,by simp[rep],by simp[rep],by simp[rep],by simp[rep]⟩
  ·rename_i g C;have r:p.broken=false:=by
    have:mStart≠jo/\mStart≠jQ:=by decide
    rw[m]at g;cases h:p.broken with
    |false=>rfl
    |true=>exact absurd ⟨h,this⟩ g
   exact⟨rU.2 ⟨b,d,e,(KF a).1,by simp[r],.inl this⟩,rfl,by simp[rep],by simp[rep],by simp[rep],by simp[rep]⟩
 split
 ·rename_i m;have:=n.1 (.inr (.inl m));split
  ·exact s _ _ _ _ _ (by decide) (by decide) (by decide) (by decide)
  ·exact⟨rU.2 ⟨b,d,e,a,by simp,.inl this⟩,rfl,by simp[rep],by simp[rep],by simp[rep],by simp[rep]⟩
 split
 ·rename_i m;have k:=n.2 (by rcases Uy.1 m with h|h<;>simp[h]);unfold keepD;split
  ·exact s _ _ _ _ _ (by decide) (by decide) (by decide) (by decide)
  split
  ·split
   ·rename_i F;have:=zW.1 (SI d (BK.1 F).1).2;exact s _ _ _ _ _ (by decide) (by decide) this.1 this.2
   ·exact s _ _ _ _ _ (by decide) (by decide) (by decide) (by decide)
  split
  ·exact s _ _ _ _ _ (by decide) (by decide) (by decide) (by decide)
  ·rename_i G;have i:=al8 (v:=x.val) d (axY hx m) (ahb hx) G;have:=ym i;exact⟨rU.2 ⟨b,i,.inr k,(KF a).1,o,q⟩,rfl,by simp[rep],by simp[rep],by simp only[rep];omega,by simp only[rep];omega⟩
 split
 ·exact s _ _ _ _ _ (by decide) (by decide) u.1 u.2
 split
 ·rename_i g _ _ _ _ m;have H:=n.1 (.inr (.inr m));have r:p.broken=false:=by
   have:jD≠jo/\jD≠jQ:=by decide
   rw[m]at g;cases h:p.broken with
   |false=>rfl
   |true=>exact absurd ⟨h,this⟩ g
  exact⟨rU.2 ⟨b,d,e,(KF a).1,by simp[r],.inl H⟩,rfl,by simp[rep],by simp[rep],f.1,f.2⟩
 split
 ·exact s _ _ _ _ _ (by decide) (by decide) (by decide) (by decide)
 split
 ·rename_i m;split
  ·rename_i I;have:=aEM I;have L:=ym this;exact⟨rU.2 ⟨b,this,.inr (n.2 (.inr (.inr m))),a,o,q⟩,rfl,by simp[rep],by simp[rep],by simp only[rep];omega,by simp only[rep];omega⟩
  ·exact s _ _ _ _ _ (by decide) (by decide) (by decide) (by decide)
 split
 ·exact⟨rU.2 ⟨b,d,e,a,by simp,.inr ⟨rfl,rfl⟩⟩,rfl,by simp[rep],by simp[rep],by simp[rep],by simp[rep]⟩
 ·exact s _ _ _ _ _ (by decide) (by decide) (by decide) (by decide)
structure kO(p q:Part):Prop where
 kind:q.core.kind=p.core.kind
 names:q.ai.map (·.name)=p.ai.map (·.name)
def kO.refl(p:Part):kO p p:=⟨rfl,rfl⟩
def kO.trans{r:Part}(h:kO p q)(k:kO q r):kO p r:=⟨k.kind.trans h.kind,k.names.trans h.names⟩
def kO.len(h:kO p q):q.ai.length=p.ai.length:=by simpa using congrArg List.length h.names
def kO.name(h:kO p q){i:Nat}(b:i<p.ai.length):(nth q.ai i).name=(nth p.ai i).name:=by have a:=congrArg (·[i]?) h.names;have c:=h.len;simp only[iq]at a;rw[bX b,bX (by omega)]at a;simp only[j0,aS]at a;simp[nth,kQ,b,c,a]
def kO.kW(h:kO p q){i:Nat}(a:i<=p.ai.length):fQ q i=fQ p i:=by
 unfold fQ;split
 ·rw[h.kind]
 ·rw[h.name (by omega)]
def pK:dw p=true↔oB p.core=true/\p.ai.length<=3/\∀i,i<p.ai.length->pG (nth p.ai i).name=true/\cm (fQ p i) (mJ (nth p.ai i).name)=true/\gM (nth p.ai i).count=true/\((nth p.ai i).count=0\/(nth p.ai i).name=counts\/(nth p.ai i).name=mU):=by
 unfold dw;simp only[aY,dr,kC,qY,jY];constructor
 ·rintro⟨⟨e,f⟩,g⟩;exact⟨e,f,fun i j=>by have:=g i j;exact⟨this.1.1.1,this.1.1.2,this.1.2,by rcases this.2 with (h|h)|h<;>simp[h]⟩⟩
 ·rintro⟨e,f,g⟩;exact⟨⟨e,f⟩,fun i j=>by obtain⟨a,b,c,d⟩:=g i j;exact⟨⟨⟨a,b⟩,c⟩,by rcases d with h|h|h<;>simp[h]⟩⟩
def alQ(f:dw p=true)(h:kO p q)(g:oB q.core=true)(n:∀i,i<p.ai.length->gM (nth q.ai i).count=true/\((nth q.ai i).count=0\/(nth p.ai i).name=counts\/(nth p.ai i).name=mU)):dw q=true:=by obtain⟨_,j,k⟩:=pK.1 f;refine pK.2 ⟨g,by rw[h.len];exact j,fun i e=> ?_⟩;rw[h.len]at e;obtain⟨a,b,_,_⟩:=k i e;obtain⟨c,d⟩:=n i e;rw[h.name e,h.kW (by omega)];exact⟨a,b,c,d⟩
def R8{k:Nat}(h:k<p.ai.length):kO p (bump p k):=by
 refine⟨rfl,?_⟩;unfold bump;apply zx;intro i;simp only[iq,C6];split
 ·rename_i e;subst e
  (try rw[aD h])
  rw[bX h];simp[nth,kQ,h]
 ·rfl
def awO{k:Nat}(h:k<p.ai.length)(i:Nat):nth (bump p k).ai i=if i=k then ⟨(nth p.ai k).name,je (nth p.ai k).count⟩else nth p.ai i:=U0 _ _ _ _ h
def Zb{k:Nat}(h:dw p=true)(a:k<p.ai.length)(n:(nth p.ai k).name=counts\/(nth p.ai k).name=mU):dw (bump p k)=true:=by
 obtain⟨b,j,f⟩:=pK.1 h;refine alQ h (R8 a) b fun i g=> ?_;rw[awO a];obtain⟨_,_,c,d⟩:=f i g;split
 ·rename_i e;subst e;exact⟨(KF c).1,.inr n⟩
 ·exact⟨c,d⟩
def anh{n:ByteArray}{f:Nat}(d:f<64)(l:pG n=true)(h1:cm f (mJ n)=true)(ha:¬jX m<0)(h2:cm (qR n) (bY m)=true) :
  (n=counts/\m=jQ)\/(n=mU/\m=jD)\/(n=uz/\m=jo)\/cm f (bY m)=true:=by
 obtain⟨i,e,g,k⟩:=akH l;obtain⟨j,w,c⟩:=UT ha;rw[g]at h1;rw[k,w]at h2;rw[w];obtain⟨o,r,p,q⟩:=akI;rcases aCX i j ⟨f,d⟩ h1 h2 with⟨a,b⟩|⟨a,b⟩|⟨a,b⟩|h
 ·rw[a]at e;rw[b]at c;simp[methods]at c;exact .inl ⟨by rw[e,o],c⟩
 ·rw[a]at e;rw[b]at c;simp[methods]at c;exact .inr (.inl ⟨by rw[e,p],c⟩)
 ·rw[a]at e;rw[b]at c;simp[methods]at c;exact .inr (.inr (.inl ⟨by rw[e,q],c⟩))
 ·exact .inr (.inr (.inr h))
def JH{n:ByteArray}{f:Nat}(a:f<64)(h1:cm f (mJ n)=true)(b:n=vZ\/n=mU\/n=uz):cm f (bY mStart)=true/\cm f (bY dR)=true:=by
 obtain⟨l,c,d,g⟩:=akI;have e:∃i:Fin 9,n=nth ai i.val/\(i.val=4\/i.val=6\/i.val=7):=by
  rcases b with h|h|h
  ·exact⟨4,by rw[h];exact c.symm,.inl rfl⟩
  ·exact⟨6,by rw[h];exact d.symm,.inr (.inl rfl)⟩
  ·exact⟨7,by rw[h];exact g.symm,.inr (.inr rfl)⟩
 obtain⟨i,rfl,j⟩:=e;have k:mJ (nth ai i.val)=DL.getD i.val 0:=by unfold mJ;rw[UK i]
 rw[k]at h1;rw[aue.1,aue.2.1];have:=aCZ i ⟨f,a⟩ j h1;exact⟨this,this⟩
def LN(p:Part)(y:Part×gK):Prop:=dw y.1=true/\kO p y.1/\y.2.code≠1/\y.2.code≠7/\0<=y.2.val/\y.2.val<=999
def aD5:counts≠vZ/\counts≠yT/\counts≠mU/\counts≠uz/\counts≠pQ/\vZ≠yT/\vZ≠mU/\vZ≠uz/\vZ≠pQ/\yT≠mU/\yT≠uz/\yT≠pQ/\mU≠uz/\mU≠pQ/\uz≠pQ:=by decide
def Oj(h:gm x=true):x.method≠jQ/\x.method≠jD/\x.method≠jo/\x.method≠mStart/\x.method≠dR:=by rcases Uy.1 h with e|e<;>rw[e]<;>decide
def Ag:∀(k:Nat) (p:Part) (x:Call),dw p=true->k<=p.ai.length->gy x=true->cm (fQ p k) (bY x.method)=true->LN p (bi k p x)
 |0,p,x,j,_,hx,ho=>by obtain⟨h1,h2,t⟩:=pK.1 j;obtain⟨a,b,c,d,e,f⟩:=ayP h1 hx ho;have s:kO p (bi 0 p x).1:=⟨b,rfl⟩;exact⟨alQ j s a fun i C=>⟨(t i C).2.2.1,(t i C).2.2.2⟩,s,c,d,e,f⟩
 |k+1,p,x,j,J,hx,ho=>by
  obtain⟨h1,h2,t⟩:=pK.1 j;obtain⟨a,b,c,d⟩:=t k (by omega);have ho:cm (qR (nth p.ai k).name) (bY x.method)=true:=by unfold fQ at ho;rw[aw (by omega)]at ho;exact ho
  have u:=anh (zF p k) a b (MJ hx) ho;have F:=zW.1 c;have ne:=aD5;have G:=Dh;have below:cm (fQ p k) (bY x.method)=true->LN p (bi k p x):=fun h=>Ag k p x j (by omega) hx h;have start:∀q,dw q=true->kO p q->cm (fQ p k) (bY mStart)=true->LN p (bi k q (bL mStart)):=fun q w s h=>by have:=Ag k q (bL mStart) w (by rw[s.len];omega) G.1 (by rw[s.kW (by omega)];exact h);exact⟨this.1,s.trans this.2.1,this.2.2⟩
  have stop:∀q,dw q=true->kO p q->cm (fQ p k) (bY dR)=true->LN p (bi k q (bL dR)):=fun q w s h=>by have:=Ag k q (bL dR) w (by rw[s.len];omega) G.2.1 (by rw[s.kW (by omega)];exact h);exact⟨this.1,s.trans this.2.1,this.2.2⟩
  rw[bi];split
  ·exact⟨j,kO.refl _,by simp[rep],by simp[rep],F.1,F.2⟩
  rename_i I;split
  ·rename_i y;have n:=Oj y.2;have g:=below (by rcases u with h|h|h|h;exact absurd h.2 n.1;exact absurd h.2 n.2.1;exact absurd h.2 n.2.2.1;exact h);have L:=g.2.1.len;have z:=g.2.1.name (i:=k) (by omega);exact⟨Zb g.1 (by omega) (.inl (by rw[z];exact y.1)),g.2.1.trans (R8 (by omega)),g.2.2⟩
  rename_i y;split
  ·rename_i A;have n:=Oj A.2;have o:cm (fQ p k) (bY x.method)=true:=by rcases u with h|h|h|h;exact absurd h.2 n.1;exact absurd h.2 n.2.1;exact absurd h.2 n.2.2.1;exact h
   have g:=below o;have r:=JH (zF p k) b (.inl A.1);split
   ·have s:=start _ g.1 g.2.1 r.1;have:=Ag k _ x s.1 (by rw[s.2.1.len];omega) hx (by rw[s.2.1.kW (by omega)];exact o);exact⟨this.1,s.2.1.trans this.2.1,this.2.2⟩
   ·exact g
  rename_i A;split
  ·exact⟨j,kO.refl _,by simp[rep],by simp[rep],by simp[rep],by simp[rep]⟩
  rename_i M;split
  ·rename_i v;have r:=JH (zF p k) b (.inr (.inl v.1));have l:=Zb j (k:=k) (by omega) (.inr v.1);have m:kO p (bump p k):=R8 (by omega);split
   ·exact stop _ l m r.2
   split
   ·exact start _ l m r.1
   ·refine⟨l,m,by simp[rep],by simp[rep],?_⟩;have:=zW.1 ((pK.1 l).2.2 k (by rw[m.len];omega)).2.2.1;exact this
  rename_i v;split
  ·rename_i B;have r:=JH (zF p k) b (.inr (.inr B.1));have s:=stop p j (kO.refl _) r.2;exact start _ s.1 s.2.1 r.1
  rename_i B;have g:=below (by
   rcases u with h|h|h|h
   ·exact absurd h I
   ·exact absurd h v
   ·exact absurd h B
   ·exact h)
  split
  ·refine⟨g.1,g.2.1,?_⟩;unfold OY;split
   ·rename_i H;obtain⟨q1,q2⟩:=g.2.2.2.2;simp only;rw[wrap_i64 (by omega) (by omega)];exact⟨by simp[H],by simp[H],by omega,by omega⟩
   ·exact g.2.2
  ·exact g
def Bg(p:Part)(r:List tW):Part:=⟨p.core,p.ai++r⟩
def awN(p:Part)(k:Nat):(bump p k).ai.length=p.ai.length:=by simp[bump]
def als[Inhabited α]{l b:List α}{a:Nat}(h:a<l.length):nth (l++b) a=nth l a:=by simp[nth,kQ,mN h]
end
end Go.Proofs.YtoomhbopolalnaaGreatDoor
