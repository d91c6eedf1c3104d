/- Contracts of the library's functions that are called here, laid at this seat's program by the kit's tool (lay-shelf, lay-plain); those that are needed. -/
import Derived.Shelf.Strings.Builder1
import Derived.Shelf.Strings.Builder2
import Derived.Shelf.Strings.OnBuilder
import Derived.Shelf.Strconv.Atoi
import Derived.Shelf.Strconv.Itoa0
import Derived.Shelf.Strconv.Itoa1
import Derived.Shelf.LaysM
import Derived.Shelf.Strconv.Itoa2
import Derived.Shelf.Strconv.Itoa3
import Derived.Shelf.Strconv.AtoiErrFast
import Derived.Shelf.Strconv.ParseIntEmpty
import Derived.Shelf.Strconv.AtoiFail
import Derived.Shelf.Strconv.Clone
import Derived.Shelf.Strconv.SyntaxError
import Derived.Shelf.LaysC
import Derived.Shelf.Strconv.ToError
import Derived.Shelf.Strconv.AtoiErr
import Derived.Shelf.Strconv.ErrVar
import Derived.Shelf.Strconv.Lower
import Derived.Shelf.Strconv.ParseUint10
import Derived.Shelf.Strconv.ParseUint10Empty
import Derived.Shelf.Strconv.ParseUint10Any
import Derived.Shelf.Strconv.ParseInt10
import Derived.Shelf.Strconv.AtoiLong
import Derived.Shelf.Strconv.AtoiInnerAll
import Derived.Shelf.Strconv.RangeError
import Derived.Shelf.Strconv.ToErrorRange
import Derived.Shelf.Strconv.AtoiAll
import Derived.Shelf.Strconv.ErrVarAll
import Derived.Shelf.Strings.Search1
import Derived.Shelf.Strings.Search2
import Derived.Shelf.Strings.Search3
import Derived.Shelf.Strings.Cut
import Derived.Shelf.Strings.Count
import Derived.Shelf.Strings.Shaped
import Derived.Shelf.Strings.Split
import Derived.Shelf.Strings.SplitShaped
import Derived.Shelf.Unicode.DecodeSlow
import Derived.Test.YtjmakbnblpjkhaaGreatDoorProg
import Derived.Test.YtjmakbnblpjkhaaGreatDoorH12
import Derived.Test.YtjmakbnblpjkhaaGreatDoorH15
set_option linter.unusedVariables false
set_option linter.unusedSimpArgs false
set_option maxRecDepth 100000
set_option linter.unusedSectionVars false
namespace Go.Proofs
open Go.Shelf
def Tryz.lays156_ren : Go.Shelf.Ren := ⟨fun | 156 => 89 | 165 => 142 | 166 => 143 | 169 => 144 | 240 => 175 | 241 => 176 | 276 => 202 | 277 => 203 | n => n, fun | 31 => 24 | 9 => 9 | 3 => 3 | 4 => 4 | 0 => 0 | 20 => 20 | 72 => 175 | 76 => 179 | 70 => 173 | 37 => 163 | 75 => 178 | 127 => 205 | 164 => 223 | 5 => 5 | 80 => 181 | n => n, fun | n => n⟩
theorem Tryz.lays156 : Go.Proofs.Lays.n156 Tryz.prog Tryz.lays156_ren := {
 mixed := by kernel_rfl
 f156 := Tryz.func89.trans (congrArg some (by kernel_rfl))
 f165 := Tryz.func142.trans (congrArg some (by kernel_rfl))
 f166 := Tryz.func143.trans (congrArg some (by kernel_rfl))
 f169 := Tryz.func144.trans (congrArg some (by kernel_rfl))
 f240 := Tryz.func175.trans (congrArg some (by kernel_rfl))
 f241 := Tryz.func176.trans (congrArg some (by kernel_rfl))
 f276 := Tryz.func202.trans (congrArg some (by kernel_rfl))
 f277 := Tryz.func203.trans (congrArg some (by kernel_rfl))
 t0 := Tryz.underlying0
 a0 := Tryz.isAgg0
 z0 := Tryz.sizeOf0
 v0 := Tryz.zeroValue0
 t3 := Tryz.underlying3
 a3 := Tryz.isAgg3
 z3 := Tryz.sizeOf3
 v3 := Tryz.zeroValue3
 t4 := Tryz.underlying4
 a4 := Tryz.isAgg4
 z4 := Tryz.sizeOf4
 v4 := Tryz.zeroValue4
 t9 := Tryz.underlying9
 a9 := Tryz.isAgg9
 z9 := Tryz.sizeOf9
 v9 := Tryz.zeroValue9
 t20 := Tryz.underlying20
 a20 := Tryz.isAgg20
 z20 := Tryz.sizeOf20
 v20 := Tryz.zeroValue20
 t31 := Tryz.underlying24
 a31 := Tryz.isAgg24
 z31 := Tryz.sizeOf24
 v31 := Tryz.zeroValue24
 t37 := Tryz.underlying163
 a37 := Tryz.isAgg163
 z37 := Tryz.sizeOf163
 v37 := Tryz.zeroValue163
 t70 := Tryz.underlying173
 a70 := Tryz.isAgg173
 z70 := Tryz.sizeOf173
 v70 := Tryz.zeroValue173
 t72 := Tryz.underlying175
 a72 := Tryz.isAgg175
 z72 := Tryz.sizeOf175
 v72 := Tryz.zeroValue175
 t75 := Tryz.underlying178
 a75 := Tryz.isAgg178
 z75 := Tryz.sizeOf178
 v75 := Tryz.zeroValue178
 t76 := Tryz.underlying179
 a76 := Tryz.isAgg179
 z76 := Tryz.sizeOf179
 v76 := Tryz.zeroValue179
 t127 := Tryz.underlying205
 a127 := Tryz.isAgg205
 z127 := Tryz.sizeOf205
 v127 := Tryz.zeroValue205
 t164 := Tryz.underlying223
 a164 := Tryz.isAgg223
 z164 := Tryz.sizeOf223
 v164 := Tryz.zeroValue223 }
theorem Tryz.Builder_Extra_156 : Builder.Extra Tryz.prog Tryz.lays156_ren := {
 sizeBuilder := by kernel_rfl
 liesBuilder := by kernel_rfl
 t5 := Tryz.underlying5
 a5 := Tryz.isAgg5
 z5 := Tryz.sizeOf5
 v5 := Tryz.zeroValue5
 infoByte := by kernel_rfl
 cellsByte := by kernel_rfl
 sizeByte := by kernel_rfl
 neB5 := by decide }
open Go.RowKit in
theorem Tryz.strings_Join_none (a : Option Addr) (c : Nat) (sep : ByteArray) (w : World) :
  Calls Tryz.prog 89 #[.slice a 0 c, .string sep] w fun e w' => e = .returned (.string ⟨#[]⟩) ∧ w' = w := Any.strings_Join_none Tryz.lays156 Tryz.Builder_Extra_156 a c sep w
open Go.RowKit in
theorem Tryz.strings_Join (bk o c : Nat) (xs : List ByteArray) (sep : ByteArray) (w : World) (hcells : ∀ (j : Nat) x, xs[j]? = some x → w.cell? ⟨bk, o + j, none⟩ = some (.string x)) (hbk : bk < w.heap.size) (hN : xs.length ≤ 140737488355328) (hcap : xs.length ≤ c) (hlen : (Lib.join (xs.map (·.data.toList)) sep.data.toList).length ≤ 140737488355328) :
  Calls Tryz.prog 89 #[.slice (some ⟨bk, o, none⟩) xs.length c, .string sep] w fun e w' => e = .returned (.string ⟨(Lib.join (xs.map (·.data.toList)) sep.data.toList).toArray⟩) ∧ Below w.heap.size w w' := Any.strings_Join Tryz.lays156 Tryz.Builder_Extra_156 bk o c xs sep w hcells hbk hN hcap hlen
def Tryz.lays172_ren : Go.Shelf.Ren := ⟨fun | 172 => 149 | 244 => 184 | 245 => 185 | 247 => 208 | 279 => 209 | 280 => 210 | 281 => 211 | 282 => 212 | 287 => 226 | 316 => 227 | 171 => 145 | 205 => 228 | 321 => 236 | 322 => 237 | 243 => 177 | 246 => 204 | 283 => 222 | 284 => 223 | 285 => 224 | 286 => 225 | 129 => 232 | 317 => 231 | 318 => 233 | 319 => 234 | 320 => 235 | 337 => 238 | 338 => 239 | n => n, fun | 9 => 9 | 3 => 3 | 75 => 178 | 76 => 179 | 4 => 4 | 5 => 5 | 167 => 231 | 37 => 163 | 0 => 0 | 85 => 232 | 2 => 2 | 168 => 234 | 53 => 244 | 175 => 249 | 46 => 210 | 210 => 253 | 127 => 205 | 145 => 267 | 143 => 265 | 21 => 21 | 171 => 243 | 173 => 247 | 212 => 261 | 51 => 228 | 20 => 20 | 213 => 262 | 232 => 269 | 233 => 270 | 80 => 181 | n => n, fun | 15 => 3 | 16 => 4 | 17 => 7 | 18 => 8 | 19 => 9 | n => n⟩
theorem Tryz.lays172 : Go.Proofs.Lays.n172 Tryz.prog Tryz.lays172_ren := {
 mixed := by kernel_rfl
 f129 := Tryz.func232.trans (congrArg some (by kernel_rfl))
 f171 := Tryz.func145.trans (congrArg some (by kernel_rfl))
 f172 := Tryz.func149.trans (congrArg some (by kernel_rfl))
 f205 := Tryz.func228.trans (congrArg some (by kernel_rfl))
 f243 := Tryz.func177.trans (congrArg some (by kernel_rfl))
 f244 := Tryz.func184.trans (congrArg some (by kernel_rfl))
 f245 := Tryz.func185.trans (congrArg some (by kernel_rfl))
 f246 := Tryz.func204.trans (congrArg some (by kernel_rfl))
 f247 := Tryz.func208.trans (congrArg some (by kernel_rfl))
 f279 := Tryz.func209.trans (congrArg some (by kernel_rfl))
 f280 := Tryz.func210.trans (congrArg some (by kernel_rfl))
 f281 := Tryz.func211.trans (congrArg some (by kernel_rfl))
 f282 := Tryz.func212.trans (congrArg some (by kernel_rfl))
 f283 := Tryz.func222.trans (congrArg some (by kernel_rfl))
 f284 := Tryz.func223.trans (congrArg some (by kernel_rfl))
 f285 := Tryz.func224.trans (congrArg some (by kernel_rfl))
 f286 := Tryz.func225.trans (congrArg some (by kernel_rfl))
 f287 := Tryz.func226.trans (congrArg some (by kernel_rfl))
 f316 := Tryz.func227.trans (congrArg some (by kernel_rfl))
 f317 := Tryz.func231.trans (congrArg some (by kernel_rfl))
 f318 := Tryz.func233.trans (congrArg some (by kernel_rfl))
 f319 := Tryz.func234.trans (congrArg some (by kernel_rfl))
 f320 := Tryz.func235.trans (congrArg some (by kernel_rfl))
 f321 := Tryz.func236.trans (congrArg some (by kernel_rfl))
 f322 := Tryz.func237.trans (congrArg some (by kernel_rfl))
 f337 := Tryz.func238.trans (congrArg some (by kernel_rfl))
 f338 := Tryz.func239.trans (congrArg some (by kernel_rfl))
 t0 := Tryz.underlying0
 a0 := Tryz.isAgg0
 z0 := Tryz.sizeOf0
 v0 := Tryz.zeroValue0
 t2 := Tryz.underlying2
 a2 := Tryz.isAgg2
 z2 := Tryz.sizeOf2
 v2 := Tryz.zeroValue2
 t3 := Tryz.underlying3
 a3 := Tryz.isAgg3
 z3 := Tryz.sizeOf3
 v3 := Tryz.zeroValue3
 t4 := Tryz.underlying4
 a4 := Tryz.isAgg4
 z4 := Tryz.sizeOf4
 v4 := Tryz.zeroValue4
 t5 := Tryz.underlying5
 a5 := Tryz.isAgg5
 z5 := Tryz.sizeOf5
 v5 := Tryz.zeroValue5
 t9 := Tryz.underlying9
 a9 := Tryz.isAgg9
 z9 := Tryz.sizeOf9
 v9 := Tryz.zeroValue9
 t20 := Tryz.underlying20
 a20 := Tryz.isAgg20
 z20 := Tryz.sizeOf20
 v20 := Tryz.zeroValue20
 t21 := Tryz.underlying21
 a21 := Tryz.isAgg21
 z21 := Tryz.sizeOf21
 v21 := Tryz.zeroValue21
 t37 := Tryz.underlying163
 a37 := Tryz.isAgg163
 z37 := Tryz.sizeOf163
 v37 := Tryz.zeroValue163
 t46 := Tryz.underlying210
 a46 := Tryz.isAgg210
 z46 := Tryz.sizeOf210
 v46 := Tryz.zeroValue210
 t51 := Tryz.underlying228
 a51 := Tryz.isAgg228
 z51 := Tryz.sizeOf228
 v51 := Tryz.zeroValue228
 t53 := Tryz.underlying244
 a53 := Tryz.isAgg244
 z53 := Tryz.sizeOf244
 v53 := Tryz.zeroValue244
 t75 := Tryz.underlying178
 a75 := Tryz.isAgg178
 z75 := Tryz.sizeOf178
 v75 := Tryz.zeroValue178
 t76 := Tryz.underlying179
 a76 := Tryz.isAgg179
 z76 := Tryz.sizeOf179
 v76 := Tryz.zeroValue179
 t85 := Tryz.underlying232
 a85 := Tryz.isAgg232
 z85 := Tryz.sizeOf232
 v85 := Tryz.zeroValue232
 t127 := Tryz.underlying205
 a127 := Tryz.isAgg205
 z127 := Tryz.sizeOf205
 v127 := Tryz.zeroValue205
 t143 := Tryz.underlying265
 a143 := Tryz.isAgg265
 z143 := Tryz.sizeOf265
 v143 := Tryz.zeroValue265
 t145 := Tryz.underlying267
 a145 := Tryz.isAgg267
 z145 := Tryz.sizeOf267
 v145 := Tryz.zeroValue267
 t167 := Tryz.underlying231
 a167 := Tryz.isAgg231
 z167 := Tryz.sizeOf231
 v167 := Tryz.zeroValue231
 t168 := Tryz.underlying234
 a168 := Tryz.isAgg234
 z168 := Tryz.sizeOf234
 v168 := Tryz.zeroValue234
 t171 := Tryz.underlying243
 a171 := Tryz.isAgg243
 z171 := Tryz.sizeOf243
 v171 := Tryz.zeroValue243
 t173 := Tryz.underlying247
 a173 := Tryz.isAgg247
 z173 := Tryz.sizeOf247
 v173 := Tryz.zeroValue247
 t175 := Tryz.underlying249
 a175 := Tryz.isAgg249
 z175 := Tryz.sizeOf249
 v175 := Tryz.zeroValue249
 t210 := Tryz.underlying253
 a210 := Tryz.isAgg253
 z210 := Tryz.sizeOf253
 v210 := Tryz.zeroValue253
 t212 := Tryz.underlying261
 a212 := Tryz.isAgg261
 z212 := Tryz.sizeOf261
 v212 := Tryz.zeroValue261
 t213 := Tryz.underlying262
 a213 := Tryz.isAgg262
 z213 := Tryz.sizeOf262
 t232 := Tryz.underlying269
 a232 := Tryz.isAgg269
 z232 := Tryz.sizeOf269
 v232 := Tryz.zeroValue269
 t233 := Tryz.underlying270
 a233 := Tryz.isAgg270
 z233 := Tryz.sizeOf270
 v233 := Tryz.zeroValue270
 g15 := by kernel_rfl
 g16 := by kernel_rfl
 g17 := by kernel_rfl
 g18 := by kernel_rfl
 g19 := by kernel_rfl }
open Go.RowKit in
theorem Tryz.strconv_Atoi (s : ByteArray) (n : Int) (hl : s.size ≤ 18) (h : Lib.atoi s.data.toList = some n) (w : World) :
  Calls Tryz.prog 149 #[.string s] w fun e w' => e = .returned (.tuple #[.int .i64 n, .nilIface]) ∧ ∃ t, w' = Lib.bytesWorld w 5 t := Any.strconv_Atoi Tryz.lays172 s n hl h w
def Tryz.laysM171_ren : Go.Shelf.Ren := ⟨fun | 171 => 145 | 243 => 177 | 246 => 204 | 283 => 222 | 284 => 223 | 285 => 224 | 286 => 225 | 129 => 232 | 317 => 231 | 318 => 233 | 319 => 234 | 320 => 235 | 337 => 238 | 338 => 239 | n => n, fun | 3 => 3 | 9 => 9 | 2 => 2 | 4 => 4 | 171 => 243 | 0 => 0 | 53 => 244 | 37 => 163 | 5 => 5 | 173 => 247 | 212 => 261 | 51 => 228 | 20 => 20 | 213 => 262 | 46 => 210 | 232 => 269 | 233 => 270 | n => n, fun | 17 => 7 | 18 => 8 | 19 => 9 | n => n⟩
theorem Tryz.laysM171 : Go.Proofs.LaysM.n171 Tryz.prog Tryz.laysM171_ren := {
 mixed := by kernel_rfl
 f129 := Tryz.func232.trans (congrArg some (by kernel_rfl))
 f171 := Tryz.func145.trans (congrArg some (by kernel_rfl))
 f243 := Tryz.func177.trans (congrArg some (by kernel_rfl))
 f246 := Tryz.func204.trans (congrArg some (by kernel_rfl))
 f283 := Tryz.func222.trans (congrArg some (by kernel_rfl))
 f284 := Tryz.func223.trans (congrArg some (by kernel_rfl))
 f285 := Tryz.func224.trans (congrArg some (by kernel_rfl))
 f286 := Tryz.func225.trans (congrArg some (by kernel_rfl))
 f317 := Tryz.func231.trans (congrArg some (by kernel_rfl))
 f318 := Tryz.func233.trans (congrArg some (by kernel_rfl))
 f319 := Tryz.func234.trans (congrArg some (by kernel_rfl))
 f320 := Tryz.func235.trans (congrArg some (by kernel_rfl))
 f337 := Tryz.func238.trans (congrArg some (by kernel_rfl))
 f338 := Tryz.func239.trans (congrArg some (by kernel_rfl))
 t0 := Tryz.underlying0
 a0 := Tryz.isAgg0
 z0 := Tryz.sizeOf0
 v0 := Tryz.zeroValue0
 t2 := Tryz.underlying2
 a2 := Tryz.isAgg2
 z2 := Tryz.sizeOf2
 v2 := Tryz.zeroValue2
 t3 := Tryz.underlying3
 a3 := Tryz.isAgg3
 z3 := Tryz.sizeOf3
 v3 := Tryz.zeroValue3
 t4 := Tryz.underlying4
 a4 := Tryz.isAgg4
 z4 := Tryz.sizeOf4
 v4 := Tryz.zeroValue4
 t5 := Tryz.underlying5
 a5 := Tryz.isAgg5
 z5 := Tryz.sizeOf5
 v5 := Tryz.zeroValue5
 t9 := Tryz.underlying9
 a9 := Tryz.isAgg9
 z9 := Tryz.sizeOf9
 v9 := Tryz.zeroValue9
 t20 := Tryz.underlying20
 a20 := Tryz.isAgg20
 z20 := Tryz.sizeOf20
 v20 := Tryz.zeroValue20
 t37 := Tryz.underlying163
 a37 := Tryz.isAgg163
 z37 := Tryz.sizeOf163
 v37 := Tryz.zeroValue163
 t46 := Tryz.underlying210
 a46 := Tryz.isAgg210
 z46 := Tryz.sizeOf210
 v46 := Tryz.zeroValue210
 t51 := Tryz.underlying228
 a51 := Tryz.isAgg228
 z51 := Tryz.sizeOf228
 v51 := Tryz.zeroValue228
 t53 := Tryz.underlying244
 a53 := Tryz.isAgg244
 z53 := Tryz.sizeOf244
 v53 := Tryz.zeroValue244
 t171 := Tryz.underlying243
 a171 := Tryz.isAgg243
 z171 := Tryz.sizeOf243
 v171 := Tryz.zeroValue243
 t173 := Tryz.underlying247
 a173 := Tryz.isAgg247
 z173 := Tryz.sizeOf247
 v173 := Tryz.zeroValue247
 t212 := Tryz.underlying261
 a212 := Tryz.isAgg261
 z212 := Tryz.sizeOf261
 v212 := Tryz.zeroValue261
 t213 := Tryz.underlying262
 a213 := Tryz.isAgg262
 z213 := Tryz.sizeOf262
 t232 := Tryz.underlying269
 a232 := Tryz.isAgg269
 z232 := Tryz.sizeOf269
 v232 := Tryz.zeroValue269
 t233 := Tryz.underlying270
 a233 := Tryz.isAgg270
 z233 := Tryz.sizeOf270
 v233 := Tryz.zeroValue270
 g17 := by kernel_rfl
 g18 := by kernel_rfl
 g19 := by kernel_rfl
 i0 := by kernel_rfl
 i2 := by kernel_rfl
 i3 := by kernel_rfl
 i4 := by kernel_rfl
 i5 := by kernel_rfl
 i9 := by kernel_rfl
 i20 := by kernel_rfl
 i37 := by kernel_rfl
 i46 := by kernel_rfl
 i51 := by kernel_rfl
 i53 := by kernel_rfl
 i171 := by kernel_rfl
 i173 := by kernel_rfl
 i212 := by kernel_rfl
 i232 := by kernel_rfl
 i233 := by kernel_rfl
 m17 := by kernel_rfl
 m18 := by kernel_rfl
 m19 := by kernel_rfl }
def Tryz.lays171_ren : Go.Shelf.Ren := ⟨fun | 171 => 145 | 243 => 177 | 246 => 204 | 283 => 222 | 284 => 223 | 285 => 224 | 286 => 225 | 129 => 232 | 317 => 231 | 318 => 233 | 319 => 234 | 320 => 235 | 337 => 238 | 338 => 239 | n => n, fun | 3 => 3 | 9 => 9 | 2 => 2 | 4 => 4 | 171 => 243 | 0 => 0 | 53 => 244 | 37 => 163 | 5 => 5 | 173 => 247 | 212 => 261 | 51 => 228 | 20 => 20 | 213 => 262 | 46 => 210 | 232 => 269 | 233 => 270 | n => n, fun | 17 => 7 | 18 => 8 | 19 => 9 | n => n⟩
theorem Tryz.lays171 : Go.Proofs.Lays.n171 Tryz.prog Tryz.lays171_ren := {
 mixed := by kernel_rfl
 f129 := Tryz.func232.trans (congrArg some (by kernel_rfl))
 f171 := Tryz.func145.trans (congrArg some (by kernel_rfl))
 f243 := Tryz.func177.trans (congrArg some (by kernel_rfl))
 f246 := Tryz.func204.trans (congrArg some (by kernel_rfl))
 f283 := Tryz.func222.trans (congrArg some (by kernel_rfl))
 f284 := Tryz.func223.trans (congrArg some (by kernel_rfl))
 f285 := Tryz.func224.trans (congrArg some (by kernel_rfl))
 f286 := Tryz.func225.trans (congrArg some (by kernel_rfl))
 f317 := Tryz.func231.trans (congrArg some (by kernel_rfl))
 f318 := Tryz.func233.trans (congrArg some (by kernel_rfl))
 f319 := Tryz.func234.trans (congrArg some (by kernel_rfl))
 f320 := Tryz.func235.trans (congrArg some (by kernel_rfl))
 f337 := Tryz.func238.trans (congrArg some (by kernel_rfl))
 f338 := Tryz.func239.trans (congrArg some (by kernel_rfl))
 t0 := Tryz.underlying0
 a0 := Tryz.isAgg0
 z0 := Tryz.sizeOf0
 v0 := Tryz.zeroValue0
 t2 := Tryz.underlying2
 a2 := Tryz.isAgg2
 z2 := Tryz.sizeOf2
 v2 := Tryz.zeroValue2
 t3 := Tryz.underlying3
 a3 := Tryz.isAgg3
 z3 := Tryz.sizeOf3
 v3 := Tryz.zeroValue3
 t4 := Tryz.underlying4
 a4 := Tryz.isAgg4
 z4 := Tryz.sizeOf4
 v4 := Tryz.zeroValue4
 t5 := Tryz.underlying5
 a5 := Tryz.isAgg5
 z5 := Tryz.sizeOf5
 v5 := Tryz.zeroValue5
 t9 := Tryz.underlying9
 a9 := Tryz.isAgg9
 z9 := Tryz.sizeOf9
 v9 := Tryz.zeroValue9
 t20 := Tryz.underlying20
 a20 := Tryz.isAgg20
 z20 := Tryz.sizeOf20
 v20 := Tryz.zeroValue20
 t37 := Tryz.underlying163
 a37 := Tryz.isAgg163
 z37 := Tryz.sizeOf163
 v37 := Tryz.zeroValue163
 t46 := Tryz.underlying210
 a46 := Tryz.isAgg210
 z46 := Tryz.sizeOf210
 v46 := Tryz.zeroValue210
 t51 := Tryz.underlying228
 a51 := Tryz.isAgg228
 z51 := Tryz.sizeOf228
 v51 := Tryz.zeroValue228
 t53 := Tryz.underlying244
 a53 := Tryz.isAgg244
 z53 := Tryz.sizeOf244
 v53 := Tryz.zeroValue244
 t171 := Tryz.underlying243
 a171 := Tryz.isAgg243
 z171 := Tryz.sizeOf243
 v171 := Tryz.zeroValue243
 t173 := Tryz.underlying247
 a173 := Tryz.isAgg247
 z173 := Tryz.sizeOf247
 v173 := Tryz.zeroValue247
 t212 := Tryz.underlying261
 a212 := Tryz.isAgg261
 z212 := Tryz.sizeOf261
 v212 := Tryz.zeroValue261
 t213 := Tryz.underlying262
 a213 := Tryz.isAgg262
 z213 := Tryz.sizeOf262
 t232 := Tryz.underlying269
 a232 := Tryz.isAgg269
 z232 := Tryz.sizeOf269
 v232 := Tryz.zeroValue269
 t233 := Tryz.underlying270
 a233 := Tryz.isAgg270
 z233 := Tryz.sizeOf270
 v233 := Tryz.zeroValue270
 g17 := by kernel_rfl
 g18 := by kernel_rfl
 g19 := by kernel_rfl }
open Go.RowKit Go.Sort Go.Lib in
theorem Tryz.strconv_Itoa_small (i : Nat) (hi : i < 100) (w : World) :
  Calls Tryz.prog 145 #[.int .i64 i] w fun e w' => e = .returned (.string ⟨(Lib.decDigits i).toArray⟩) ∧ w' = w := Any.strconv_Itoa_small Tryz.lays171 i hi w
def Tryz.laysC172_ren : Go.Shelf.Ren := ⟨fun | 172 => 149 | 244 => 184 | 245 => 185 | 247 => 208 | 279 => 209 | 280 => 210 | 281 => 211 | 282 => 212 | 287 => 226 | 316 => 227 | 171 => 145 | 205 => 228 | 321 => 236 | 322 => 237 | 243 => 177 | 246 => 204 | 283 => 222 | 284 => 223 | 285 => 224 | 286 => 225 | 129 => 232 | 317 => 231 | 318 => 233 | 319 => 234 | 320 => 235 | 337 => 238 | 338 => 239 | n => n, fun | 9 => 9 | 3 => 3 | 75 => 178 | 76 => 179 | 4 => 4 | 5 => 5 | 167 => 231 | 37 => 163 | 0 => 0 | 85 => 232 | 2 => 2 | 168 => 234 | 53 => 244 | 175 => 249 | 46 => 210 | 210 => 253 | 127 => 205 | 145 => 267 | 143 => 265 | 21 => 21 | 171 => 243 | 173 => 247 | 212 => 261 | 51 => 228 | 20 => 20 | 213 => 262 | 232 => 269 | 233 => 270 | 80 => 181 | n => n, fun | 15 => 3 | 16 => 4 | 17 => 7 | 18 => 8 | 19 => 9 | n => n⟩
theorem Tryz.laysC172 : Go.Proofs.LaysC.n172 Tryz.prog Tryz.laysC172_ren := {
 mixed := by kernel_rfl
 f129 := Tryz.func232.trans (congrArg some (by kernel_rfl))
 f171 := Tryz.func145.trans (congrArg some (by kernel_rfl))
 f172 := Tryz.func149.trans (congrArg some (by kernel_rfl))
 f205 := Tryz.func228.trans (congrArg some (by kernel_rfl))
 f243 := Tryz.func177.trans (congrArg some (by kernel_rfl))
 f244 := Tryz.func184.trans (congrArg some (by kernel_rfl))
 f245 := Tryz.func185.trans (congrArg some (by kernel_rfl))
 f246 := Tryz.func204.trans (congrArg some (by kernel_rfl))
 f247 := Tryz.func208.trans (congrArg some (by kernel_rfl))
 f279 := Tryz.func209.trans (congrArg some (by kernel_rfl))
 f280 := Tryz.func210.trans (congrArg some (by kernel_rfl))
 f281 := Tryz.func211.trans (congrArg some (by kernel_rfl))
 f282 := Tryz.func212.trans (congrArg some (by kernel_rfl))
 f283 := Tryz.func222.trans (congrArg some (by kernel_rfl))
 f284 := Tryz.func223.trans (congrArg some (by kernel_rfl))
 f285 := Tryz.func224.trans (congrArg some (by kernel_rfl))
 f286 := Tryz.func225.trans (congrArg some (by kernel_rfl))
 f287 := Tryz.func226.trans (congrArg some (by kernel_rfl))
 f316 := Tryz.func227.trans (congrArg some (by kernel_rfl))
 f317 := Tryz.func231.trans (congrArg some (by kernel_rfl))
 f318 := Tryz.func233.trans (congrArg some (by kernel_rfl))
 f319 := Tryz.func234.trans (congrArg some (by kernel_rfl))
 f320 := Tryz.func235.trans (congrArg some (by kernel_rfl))
 f321 := Tryz.func236.trans (congrArg some (by kernel_rfl))
 f322 := Tryz.func237.trans (congrArg some (by kernel_rfl))
 f337 := Tryz.func238.trans (congrArg some (by kernel_rfl))
 f338 := Tryz.func239.trans (congrArg some (by kernel_rfl))
 t0 := Tryz.underlying0
 a0 := Tryz.isAgg0
 z0 := Tryz.sizeOf0
 v0 := Tryz.zeroValue0
 t2 := Tryz.underlying2
 a2 := Tryz.isAgg2
 z2 := Tryz.sizeOf2
 v2 := Tryz.zeroValue2
 t3 := Tryz.underlying3
 a3 := Tryz.isAgg3
 z3 := Tryz.sizeOf3
 v3 := Tryz.zeroValue3
 t4 := Tryz.underlying4
 a4 := Tryz.isAgg4
 z4 := Tryz.sizeOf4
 v4 := Tryz.zeroValue4
 t5 := Tryz.underlying5
 a5 := Tryz.isAgg5
 z5 := Tryz.sizeOf5
 v5 := Tryz.zeroValue5
 t9 := Tryz.underlying9
 a9 := Tryz.isAgg9
 z9 := Tryz.sizeOf9
 v9 := Tryz.zeroValue9
 t20 := Tryz.underlying20
 a20 := Tryz.isAgg20
 z20 := Tryz.sizeOf20
 v20 := Tryz.zeroValue20
 t21 := Tryz.underlying21
 a21 := Tryz.isAgg21
 z21 := Tryz.sizeOf21
 v21 := Tryz.zeroValue21
 t37 := Tryz.underlying163
 a37 := Tryz.isAgg163
 z37 := Tryz.sizeOf163
 v37 := Tryz.zeroValue163
 t46 := Tryz.underlying210
 a46 := Tryz.isAgg210
 z46 := Tryz.sizeOf210
 v46 := Tryz.zeroValue210
 t51 := Tryz.underlying228
 a51 := Tryz.isAgg228
 z51 := Tryz.sizeOf228
 v51 := Tryz.zeroValue228
 t53 := Tryz.underlying244
 a53 := Tryz.isAgg244
 z53 := Tryz.sizeOf244
 v53 := Tryz.zeroValue244
 t75 := Tryz.underlying178
 a75 := Tryz.isAgg178
 z75 := Tryz.sizeOf178
 v75 := Tryz.zeroValue178
 t76 := Tryz.underlying179
 a76 := Tryz.isAgg179
 z76 := Tryz.sizeOf179
 v76 := Tryz.zeroValue179
 t85 := Tryz.underlying232
 a85 := Tryz.isAgg232
 z85 := Tryz.sizeOf232
 v85 := Tryz.zeroValue232
 t127 := Tryz.underlying205
 a127 := Tryz.isAgg205
 z127 := Tryz.sizeOf205
 v127 := Tryz.zeroValue205
 t143 := Tryz.underlying265
 a143 := Tryz.isAgg265
 z143 := Tryz.sizeOf265
 v143 := Tryz.zeroValue265
 t145 := Tryz.underlying267
 a145 := Tryz.isAgg267
 z145 := Tryz.sizeOf267
 v145 := Tryz.zeroValue267
 t167 := Tryz.underlying231
 a167 := Tryz.isAgg231
 z167 := Tryz.sizeOf231
 v167 := Tryz.zeroValue231
 t168 := Tryz.underlying234
 a168 := Tryz.isAgg234
 z168 := Tryz.sizeOf234
 v168 := Tryz.zeroValue234
 t171 := Tryz.underlying243
 a171 := Tryz.isAgg243
 z171 := Tryz.sizeOf243
 v171 := Tryz.zeroValue243
 t173 := Tryz.underlying247
 a173 := Tryz.isAgg247
 z173 := Tryz.sizeOf247
 v173 := Tryz.zeroValue247
 t175 := Tryz.underlying249
 a175 := Tryz.isAgg249
 z175 := Tryz.sizeOf249
 v175 := Tryz.zeroValue249
 t210 := Tryz.underlying253
 a210 := Tryz.isAgg253
 z210 := Tryz.sizeOf253
 v210 := Tryz.zeroValue253
 t212 := Tryz.underlying261
 a212 := Tryz.isAgg261
 z212 := Tryz.sizeOf261
 v212 := Tryz.zeroValue261
 t213 := Tryz.underlying262
 a213 := Tryz.isAgg262
 z213 := Tryz.sizeOf262
 t232 := Tryz.underlying269
 a232 := Tryz.isAgg269
 z232 := Tryz.sizeOf269
 v232 := Tryz.zeroValue269
 t233 := Tryz.underlying270
 a233 := Tryz.isAgg270
 z233 := Tryz.sizeOf270
 v233 := Tryz.zeroValue270
 g15 := by kernel_rfl
 g16 := by kernel_rfl
 g17 := by kernel_rfl
 g18 := by kernel_rfl
 g19 := by kernel_rfl
 t80 := Tryz.underlying181
 a80 := Tryz.isAgg181
 z80 := Tryz.sizeOf181
 v80 := Tryz.zeroValue181
 i0 := by kernel_rfl
 i2 := by kernel_rfl
 i3 := by kernel_rfl
 i4 := by kernel_rfl
 i5 := by kernel_rfl
 i9 := by kernel_rfl
 i20 := by kernel_rfl
 i21 := by kernel_rfl
 i37 := by kernel_rfl
 i46 := by kernel_rfl
 i51 := by kernel_rfl
 i53 := by kernel_rfl
 i75 := by kernel_rfl
 i76 := by kernel_rfl
 i80 := by kernel_rfl
 i85 := by kernel_rfl
 i127 := by kernel_rfl
 i143 := by kernel_rfl
 i145 := by kernel_rfl
 i167 := by kernel_rfl
 i168 := by kernel_rfl
 i171 := by kernel_rfl
 i173 := by kernel_rfl
 i175 := by kernel_rfl
 i210 := by kernel_rfl
 i212 := by kernel_rfl
 i232 := by kernel_rfl
 i233 := by kernel_rfl
 m15 := by kernel_rfl
 m16 := by kernel_rfl
 m17 := by kernel_rfl
 m18 := by kernel_rfl
 m19 := by kernel_rfl
 c0 := by kernel_rfl
 c2 := by kernel_rfl
 c3 := by kernel_rfl
 c4 := by kernel_rfl
 c5 := by kernel_rfl
 c9 := by kernel_rfl
 c20 := by kernel_rfl
 c21 := by kernel_rfl
 c37 := by kernel_rfl
 c46 := by kernel_rfl
 c51 := by kernel_rfl
 c53 := by kernel_rfl
 c75 := by kernel_rfl
 c76 := by kernel_rfl
 c80 := by kernel_rfl
 c85 := by kernel_rfl
 c127 := by kernel_rfl
 c143 := by kernel_rfl
 c145 := by kernel_rfl
 c167 := by kernel_rfl
 c168 := by kernel_rfl
 c171 := by kernel_rfl
 c173 := by kernel_rfl
 c175 := by kernel_rfl
 c210 := by kernel_rfl
 c212 := by kernel_rfl
 c213 := by kernel_rfl
 c232 := by kernel_rfl
 c233 := by kernel_rfl }
open Go.RowKit in
theorem Tryz.strconv_Atoi_err (s : ByteArray) (hl : s.size ≤ 18) (h : Lib.atoi s.data.toList = none) (ev : Value) (w : World) (hv : w.cell? ⟨3, 0, none⟩ = some ev) (hev : ev = .nilIface ∨ ∃ te pe, ev = .iface te pe) :
  Calls Tryz.prog 149 #[.string s] w fun e w' => ∃ N, e = .returned (.tuple #[.int .i64 0, .iface 234 (.pointer (some ⟨N, 0, none⟩))]) ∧ w.heap.size ≤ N ∧ w'.heap[N]? = some (.cells #[.string ⟨#[65, 116, 111, 105]⟩, .string s, ev] 253 (0, 0)) ∧ Below w.heap.size w w' := Any.strconv_Atoi_err Tryz.laysC172 s hl h ev w hv hev
def Tryz.lays145_ren : Go.Shelf.Ren := ⟨fun | 145 => 47 | 220 => 96 | 219 => 148 | 217 => 180 | 225 => 181 | 224 => 182 | 267 => 183 | 266 => 206 | 314 => 207 | n => n, fun | 9 => 9 | 4 => 4 | 59 => 83 | 3 => 3 | 5 => 5 | 46 => 210 | 146 => 229 | 51 => 228 | n => n, fun | 1 => 2 | n => n⟩
theorem Tryz.lays145 : Go.Proofs.Lays.n145 Tryz.prog Tryz.lays145_ren := {
 mixed := by kernel_rfl
 f145 := Tryz.func47.trans (congrArg some (by kernel_rfl))
 f217 := Tryz.func180.trans (congrArg some (by kernel_rfl))
 f219 := Tryz.func148.trans (congrArg some (by kernel_rfl))
 f220 := Tryz.func96.trans (congrArg some (by kernel_rfl))
 f224 := Tryz.func182.trans (congrArg some (by kernel_rfl))
 f225 := Tryz.func181.trans (congrArg some (by kernel_rfl))
 f266 := Tryz.func206.trans (congrArg some (by kernel_rfl))
 f267 := Tryz.func183.trans (congrArg some (by kernel_rfl))
 f314 := Tryz.func207.trans (congrArg some (by kernel_rfl))
 t3 := Tryz.underlying3
 a3 := Tryz.isAgg3
 z3 := Tryz.sizeOf3
 v3 := Tryz.zeroValue3
 t4 := Tryz.underlying4
 a4 := Tryz.isAgg4
 z4 := Tryz.sizeOf4
 v4 := Tryz.zeroValue4
 t5 := Tryz.underlying5
 a5 := Tryz.isAgg5
 z5 := Tryz.sizeOf5
 v5 := Tryz.zeroValue5
 t9 := Tryz.underlying9
 a9 := Tryz.isAgg9
 z9 := Tryz.sizeOf9
 v9 := Tryz.zeroValue9
 t46 := Tryz.underlying210
 a46 := Tryz.isAgg210
 z46 := Tryz.sizeOf210
 v46 := Tryz.zeroValue210
 t51 := Tryz.underlying228
 a51 := Tryz.isAgg228
 z51 := Tryz.sizeOf228
 v51 := Tryz.zeroValue228
 t59 := Tryz.underlying83
 a59 := Tryz.isAgg83
 z59 := Tryz.sizeOf83
 v59 := Tryz.zeroValue83
 t146 := Tryz.underlying229
 a146 := Tryz.isAgg229
 z146 := Tryz.sizeOf229
 v146 := Tryz.zeroValue229
 g1 := by kernel_rfl }
open Go.RowKit Go.Lib in
theorem Tryz.strings_Cut (s sep : ByteArray) (m : Int) (w : World) (hs : s.size < 4294967281) (hm : w.cell? ⟨2, 0, none⟩ = some (.int .i64 m)) :
  Calls Tryz.prog 47 #[.string s, .string sep] w fun e w' => e = .returned (.tuple #[.string ⟨(Lib.cut s.data.toList sep.data.toList).1.toArray⟩, .string ⟨(Lib.cut s.data.toList sep.data.toList).2.1.toArray⟩, .bool (Lib.cut s.data.toList sep.data.toList).2.2]) ∧ ∃ n, w' = w.drewN n := Any.strings_Cut Tryz.lays145 s sep m w hs hm
def Tryz.lays146_ren : Go.Shelf.Ren := ⟨fun | 146 => 49 | 221 => 100 | 268 => 151 | 138 => 152 | 143 => 153 | 195 => 187 | 197 => 188 | 218 => 189 | 219 => 148 | 260 => 213 | 217 => 180 | 225 => 181 | 224 => 182 | 267 => 183 | 266 => 206 | 314 => 207 | n => n, fun | 9 => 9 | 31 => 24 | 3 => 3 | 4 => 4 | 0 => 0 | 105 => 213 | 21 => 21 | 5 => 5 | 46 => 210 | 119 => 255 | 139 => 258 | 138 => 257 | 146 => 229 | 51 => 228 | n => n, fun | 1 => 2 | 3 => 5 | 4 => 6 | n => n⟩
theorem Tryz.lays146 : Go.Proofs.Lays.n146 Tryz.prog Tryz.lays146_ren := {
 mixed := by kernel_rfl
 f138 := Tryz.func152.trans (congrArg some (by kernel_rfl))
 f143 := Tryz.func153.trans (congrArg some (by kernel_rfl))
 f146 := Tryz.func49.trans (congrArg some (by kernel_rfl))
 f195 := Tryz.func187.trans (congrArg some (by kernel_rfl))
 f197 := Tryz.func188.trans (congrArg some (by kernel_rfl))
 f217 := Tryz.func180.trans (congrArg some (by kernel_rfl))
 f218 := Tryz.func189.trans (congrArg some (by kernel_rfl))
 f219 := Tryz.func148.trans (congrArg some (by kernel_rfl))
 f221 := Tryz.func100.trans (congrArg some (by kernel_rfl))
 f224 := Tryz.func182.trans (congrArg some (by kernel_rfl))
 f225 := Tryz.func181.trans (congrArg some (by kernel_rfl))
 f260 := Tryz.func213.trans (congrArg some (by kernel_rfl))
 f266 := Tryz.func206.trans (congrArg some (by kernel_rfl))
 f267 := Tryz.func183.trans (congrArg some (by kernel_rfl))
 f268 := Tryz.func151.trans (congrArg some (by kernel_rfl))
 f314 := Tryz.func207.trans (congrArg some (by kernel_rfl))
 t0 := Tryz.underlying0
 a0 := Tryz.isAgg0
 z0 := Tryz.sizeOf0
 v0 := Tryz.zeroValue0
 t3 := Tryz.underlying3
 a3 := Tryz.isAgg3
 z3 := Tryz.sizeOf3
 v3 := Tryz.zeroValue3
 t4 := Tryz.underlying4
 a4 := Tryz.isAgg4
 z4 := Tryz.sizeOf4
 v4 := Tryz.zeroValue4
 t5 := Tryz.underlying5
 a5 := Tryz.isAgg5
 z5 := Tryz.sizeOf5
 v5 := Tryz.zeroValue5
 t9 := Tryz.underlying9
 a9 := Tryz.isAgg9
 z9 := Tryz.sizeOf9
 v9 := Tryz.zeroValue9
 t21 := Tryz.underlying21
 a21 := Tryz.isAgg21
 z21 := Tryz.sizeOf21
 v21 := Tryz.zeroValue21
 t31 := Tryz.underlying24
 a31 := Tryz.isAgg24
 z31 := Tryz.sizeOf24
 v31 := Tryz.zeroValue24
 t46 := Tryz.underlying210
 a46 := Tryz.isAgg210
 z46 := Tryz.sizeOf210
 v46 := Tryz.zeroValue210
 t51 := Tryz.underlying228
 a51 := Tryz.isAgg228
 z51 := Tryz.sizeOf228
 v51 := Tryz.zeroValue228
 t105 := Tryz.underlying213
 a105 := Tryz.isAgg213
 z105 := Tryz.sizeOf213
 v105 := Tryz.zeroValue213
 t119 := Tryz.underlying255
 a119 := Tryz.isAgg255
 z119 := Tryz.sizeOf255
 t138 := Tryz.underlying257
 a138 := Tryz.isAgg257
 z138 := Tryz.sizeOf257
 v138 := Tryz.zeroValue257
 t139 := Tryz.underlying258
 a139 := Tryz.isAgg258
 z139 := Tryz.sizeOf258
 v139 := Tryz.zeroValue258
 t146 := Tryz.underlying229
 a146 := Tryz.isAgg229
 z146 := Tryz.sizeOf229
 v146 := Tryz.zeroValue229
 g1 := by kernel_rfl
 g3 := by kernel_rfl
 g4 := by kernel_rfl }
open Go.RowKit Go.Lib in
theorem Tryz.strings_Split (s sep : ByteArray) (m : Int) (w : World) (hs : s.size < 4294967281) (hm : w.cell? ⟨2, 0, none⟩ = some (.int .i64 m)) (h1 : 1 ≤ sep.size) :
  Calls Tryz.prog 49 #[.string s, .string sep] w fun e w' =>
   e = .returned (.slice (some ⟨w.heap.size, 0, none⟩) (Lib.countB s sep + 1) (Lib.countB s sep + 1)) ∧ w' = w.alloc (.cells ((Lib.splitB sep 0 (Lib.countB s sep) s).map Value.string).toArray 9) := Any.strings_Split Tryz.lays146 (by kernel_rfl) s sep m w hs hm h1
end Go.Proofs
/- Contracts: numbers and versions, written and read. -/
namespace Go.Proofs.YtjmakbnblpjkhaaGreatDoor
open Go.RowKit Go
variable [GC]
def bs (l : List UInt8) : ByteArray := ⟨l.toArray⟩
@[simp] theorem bs_toList (l : List UInt8) : (bs l).data.toList = l := by simp [bs]
@[simp] theorem bs_size (l : List UInt8) : (bs l).size = l.length := by simp [bs, ByteArray.size]
theorem bs_inj {l m : List UInt8} (h : bs l = bs m) : l = m := by have := congrArg (fun s : ByteArray => s.data.toList) h; simpa using this
@[simp] theorem bs_eq (l m : List UInt8) : bs l = bs m ↔ l = m := ⟨bs_inj, fun h => by rw [h]⟩
theorem bs_append (l m : List UInt8) : bs l ++ bs m = bs (l ++ m) := by
 apply ByteArray.ext
 simp [bs]
class HasPow : Prop where
 h : ∀ w : World, GInv w → GHas w 7 fun cs => cs = (Lib.pow10Tab.map fun z => Value.int .u64 z).toArray
class HasMax : Prop where
 h : ∀ w : World, GInv w → GHas w 2 fun cs => ∃ m, cs[0]? = some (Value.int .i64 m)
class HasErr : Prop where
 h : ∀ w : World, GInv w → GHas w 3 fun cs => ∃ tp p, cs = #[.iface tp p]
theorem c_Itoa [HasPow] {n : Nat} (h : n < 1000) : Fun Tryz.prog 145 none [.int .i64 n] (.str (bs (dig3 n))) [] := by
 refine Fun.of_callsG (by kernel_rfl) fun w M vs hG hr => ?_
 obtain ⟨v, q, rfl, ⟨rfl, _⟩, rfl⟩ := hr
 have c := Any.strconv_Itoa Tryz.laysM171 n (by omega) (by omega) w (by
  obtain ⟨cs, t, f, h1, rfl⟩ := HasPow.h w hG.2.1
  unfold Lib.TabIs World.var?
  rw [show Tryz.prog.globalNamed _ = some 7 by kernel_rfl]
  simp [h1])
 refine c.mono ?_
 rintro e w' ⟨rfl, k, os, rfl⟩
 have hl := dig3_le h
 refine ⟨_, rfl, ⟨?_, by rw [bs_size]; unfold maxLen; omega⟩, ?_⟩
 ·unfold Lib.itoa
  rw [if_neg (by omega), Int.toNat_natCast, dec3 h]; rfl
 ·exact ⟨rfl, rfl, rfl, by simp [Go.Sort.grow], fun j hj => by simp [Go.Sort.grow, Array.getElem?_append, hj]⟩
theorem c_impl_FormatNumber [HasPow] {n : Nat} (h : n < 1000) : Fun Tryz.prog 91 none [.int .i64 n] (.str (bs (dig3 n))) [] := by
 refine Fun.ofV vc_impl_FormatNumber_ok ty_impl_FormatNumber_ok rfl ?_ (fun hfit => ?_)
 ·simp [ty_impl_FormatNumber, HasTys, HasVT, HasV1, HasTy]
 unfold vc_impl_FormatNumber
 ((first | refine den_call ?_ (c_Itoa h) (trivial) ?_ | refine den_callR ?_ (c_Itoa h) (trivial) ?_ | refine den_call ?_ (.ofR (c_Itoa h)) (trivial) ?_); (focus (simp only [VC.den, E.den, dEq, gsH_nil, and_true]; try exact rfl)); (simp only [cA]))
 exact den_ret rfl
theorem dig3_step {n : Nat} (h1 : ¬ n < 10) (h2 : n < 1000) : dig3 n = dig3 (n / 10) ++ [UInt8.ofNat (48 + n % 10)] := by
 rw [← dec3 h2, ← dec3 (n := n / 10) (by omega), Lib.decDigits, dif_neg h1]
theorem digit_den (n : Nat) : strOfNums [IntKind.u8.wrap (IntKind.i64.wrap (48 + (n : Int).tmod 10))] = bs [UInt8.ofNat (48 + n % 10)] := by
 have h1 : (n : Int).tmod 10 = ((n % 10 : Nat) : Int) := by rw [Int.tmod_eq_emod_of_nonneg (by omega)]; omega
 rw [h1, wrap_i64 (by omega) (by omega)]
 have h2 : IntKind.u8.wrap (48 + ((n % 10 : Nat) : Int)) = ((48 + n % 10 : Nat) : Int) := by
  simp only [IntKind.wrap, IntKind.bits, IntKind.signed]
  simp
  omega
 rw [h2]
 unfold strOfNums bs
 simp only [List.map_cons, List.map_nil, Int.toNat_natCast]
theorem quo_ten (n : Nat) (h : n < 1000) : arI .quo .i64 n 10 = ((n / 10 : Nat) : Int) := by
 simp only [arI]
 have h1 : (n : Int).tdiv 10 = ((n / 10 : Nat) : Int) := by rw [Int.tdiv_eq_ediv_of_nonneg (by omega)]; omega
 rw [h1, wrap_i64 (by omega) (by omega)]
theorem c_spec_FormatNumber : ∀ {n : Nat}, n < 1000 → Fun Tryz.prog 77 none [.int .i64 n] (.str (bs (dig3 n))) [] := by
 intro n
 induction n using Nat.strongRecOn with
 | ind n ih =>
  intro hn
  have hb : bytesD (.sl ([[D.int .u8 (IntKind.u8.wrap (arI .add .i64 48 (arI .rem .i64 (n : Int) 10)))]])) = bs [UInt8.ofNat (48 + n % 10)] := by
   rw [← digit_den]; rfl
  refine Fun.ofV vc_spec_FormatNumber_ok ty_spec_FormatNumber_ok rfl ?_ (fun hfit => ?_)
  ·simp [ty_spec_FormatNumber, HasTys, HasVT, HasV1, HasTy]
  unfold vc_spec_FormatNumber
  refine den_ite (fun h => ?_) (fun _ => ?_)
  ·simp [E.den, cmpI] at h
  refine den_ite (fun h => ?_) (fun _ => ?_)
  ·simp [E.den, cmpI] at h; omega
  refine den_cond (fun _ => rfl) ?_
  refine den_ite (fun h => ?_) (fun h => ?_)
  ·simp [E.den, cmpI] at h
   refine den_cond (fun _ => rfl) ?_
   refine den_call (xs := [.int .i64 ((n / 10 : Nat) : Int)]) ?_ (ih (n / 10) (by omega) (by omega)) trivial ?_
   ·simp [E.den, quo_ten n hn]
   refine den_cond (fun _ => ?_) (den_ret ?_)
   ·simp only [E.den, dEq, iEq, sEq]
    rw [hb, bs_size, bs_size]
    have := dig3_le (n := n / 10) (by omega)
    simp; unfold maxLen; omega
   ·simp only [E.den, dEq, iEq, sEq]
    rw [hb, bs_append, dig3_step (n := n) (by omega) hn]
  ·simp [E.den, cmpI] at h
   refine den_ret ?_
   simp only [E.den, dEq, iEq, sEq]
   rw [hb]
   have : dig3 n = [UInt8.ofNat (48 + n % 10)] := by unfold dig3; rw [if_pos (by omega)]; congr; omega
   rw [this]
end Go.Proofs.YtjmakbnblpjkhaaGreatDoor
/- Contracts: versions as texts. -/
namespace Go.Proofs.YtjmakbnblpjkhaaGreatDoor
open Go.RowKit Go
variable [GC]
end Go.Proofs.YtjmakbnblpjkhaaGreatDoor
/- A row of one's own that is filled place by place ('out := make([]T, n); for i .. { out[i] = .. }'), on abstract data. No program in sight. -/
namespace Go.Proofs.YtjmakbnblpjkhaaGreatDoor
open Go.RowKit
variable [GC]
theorem run_make_rowN {P : Program} (t e : TypeId) (i : TypeInfo) (z : Value) (ht : P.underlying t = some (.slice e)) (hi : P.info? e = some i) (hz : i.zero = some z)
  (kl kc : IntKind) (n c : Nat) (hnc : n ≤ c) (hbytes : i.bytes * c ≤ 281474976710656) (h63 : c ≤ 9223372036854775807) (w : World) :
  (Instr.makeSlice t (.int kl (n : Int)) (.int kc (c : Int))).run P w = .ok (.slice (some ⟨w.heap.size, 0, none⟩) n c) (w.alloc (.cells (madeCells z.cells (c * i.size)) e)) := by
 have hb : (i.bytes : Int) * (c : Int) ≤ 281474976710656 := by
  have h : ((i.bytes * c : Nat) : Int) ≤ 281474976710656 := by omega
  rwa [Int.natCast_mul] at h
 have hr := run_make (P := P) w t e i z ht hi hz kl kc n c (by omega) (by omega) hb (by omega)
 simp only [Int.toNat_natCast] at hr
 exact hr
theorem run_make_at {P : Program} (t e : TypeId) {z : Value} {size bytes : Nat} (ht : P.underlying t = some (.slice e)) (h : (P.info? e).map (fun i => (i.zero, i.size, i.bytes)) = some (some z, size, bytes))
  (kl kc : IntKind) (n : Nat) (hbytes : bytes * n ≤ 281474976710656) (h63 : n ≤ 9223372036854775807) (w : World) :
  (Instr.makeSlice t (.int kl (n : Int)) (.int kc (n : Int))).run P w = .ok (.slice (some ⟨w.heap.size, 0, none⟩) n n) (w.alloc (.cells (madeCells z.cells (n * size)) e)) := by
 obtain ⟨i, hi, hz, h1, h2⟩ := info_parts h
 have := run_make_rowN t e i z ht hi hz kl kc n n (Nat.le_refl _) (by rw [h2]; exact hbytes) h63 w
 rw [h1] at this
 exact this
def setN (w : World) (g o : Nat) : List Value → World
 | [] => w
 | u :: r => setN (w.setCell ⟨g, o, none⟩ u) g (o + 1) r
def setA (C : Array Value) (o : Nat) : List Value → Array Value
 | [] => C
 | u :: r => setA (C.setIfInBounds o u) (o + 1) r
theorem RBlk.setN {w : World} {g : Nat} {t : TypeId} : ∀ {C : Array Value} {o : Nat} (cs : List Value), RBlk w g t C → RBlk (setN w g o cs) g t (setA C o cs)
 | _, _, [], h => h
 | C, o, u :: r, h => by
  have h1 := h.set_ o u
  unfold Go.Proofs.YtjmakbnblpjkhaaGreatDoor.setN setA
  exact RBlk.setN r h1
theorem size_setA : ∀ (cs : List Value) (C : Array Value) (o : Nat), (setA C o cs).size = C.size
 | [], _, _ => rfl
 | u :: r, C, o => by unfold setA; rw [size_setA r]; simp
theorem setA_out : ∀ (cs : List Value) (C : Array Value) (o i : Nat), i < o ∨ o + cs.length ≤ i → (setA C o cs)[i]? = C[i]?
 | [], _, _, _, _ => rfl
 | u :: r, C, o, i, h => by
  simp only [List.length_cons] at h
  unfold setA
  rw [setA_out r _ _ _ (by omega)]
  simp [Array.getElem?_setIfInBounds]; omega
theorem setA_in : ∀ (cs : List Value) (C : Array Value) (o j : Nat) (u : Value), o + cs.length ≤ C.size → cs[j]? = some u → (setA C o cs)[o + j]? = some u
 | [], _, _, _, _, _, h => by simp at h
 | v :: r, C, o, 0, u, hs, h => by
  simp only [List.length_cons] at hs
  simp at h; subst h
  unfold setA
  rw [setA_out r _ _ _ (by omega)]
  simp [Array.getElem?_setIfInBounds]; omega
 | v :: r, C, o, j + 1, u, hs, h => by
  simp only [List.length_cons] at hs
  simp at h
  unfold setA
  have := setA_in r (C.setIfInBounds o v) (o + 1) j u (by simp; omega) h
  rwa [show o + (j + 1) = o + 1 + j by omega]
theorem heap_setN (b : Nat) : ∀ (cs : List Value) (w : World) (g o : Nat), b ≠ g → (setN w g o cs).heap[b]? = w.heap[b]?
 | [], _, _, _, _ => rfl
 | u :: r, w, g, o, h => by
  unfold setN
  rw [heap_setN b r _ _ _ h]
  exact Below.heap_setCell _ _ _ _ h
def RowN (w : World) (M : Addr → Prop) (g : Nat) (T : TypeId) (len n k : Nat) (rows : List (List D)) : Prop :=
 ∃ C : Array Value, RBlk w g T C ∧ C.size = len * n ∧ ∃ vs : List Value, Rs w M (rows.take k).flatten vs ∧ ∀ (i : Nat) (u : Value), vs[i]? = some u → C[i]? = some u
def own (M : Addr → Prop) (g : Nat) : Addr → Prop := fun p => M p ∨ p.block = g
section
variable {w w1 : World} {M : Addr → Prop} {g : Nat} {T : TypeId} {len n k : Nat} {rows : List (List D)}
theorem RowN.new {C : Array Value} (h : RBlk w g T C) (hs : C.size = len * n) : RowN w M g T len n 0 rows := ⟨C, h, hs, [], rfl, fun i u h => by simp at h⟩
theorem RowN.keep (h : RowN w M g T len n k rows) (hb : Below w.heap.size w w1) : RowN w1 M g T len n k rows := by
 obtain ⟨C, h1, h2, vs, h3, h4⟩ := h
 exact ⟨C, h1.below hb h1.lt, h2, vs, Rs.keep (Keeps.below hb fun _ _ h => h) _ _ h3, h4⟩
theorem RowN.lt (h : RowN w M g T len n k rows) : g < w.heap.size := by
 obtain ⟨C, h1, _⟩ := h
 exact h1.lt
theorem RowN.step {us : List Value} {row : List D} (h : RowN w (own M g) g T len n k rows) (hk : k < len) (hrow : rows[k]? = some row) (hn : ∀ r ∈ rows, r.length = n) (hr : Rs w (own M g) row us) : RowN (setN w g (k * n) us) (own M g) g T len n (k + 1) rows := by
 obtain ⟨C, h1, h2, vs, h3, h4⟩ := h
 have hrl := hn row (List.mem_of_getElem? hrow)
 have hul : us.length = n := by rw [hr.length, hrl]
 have hle : k * n + us.length ≤ C.size := by
  rw [h2, hul]
  calc k * n + n = (k + 1) * n := by rw [Nat.add_mul, Nat.one_mul]
   _ ≤ len * n := Nat.mul_le_mul_right _ hk
 have hklt : k < rows.length := (List.getElem?_eq_some_iff.1 hrow).1
 have hvl : vs.length = k * n := by
  rw [h3.length, flat_len (n := n) (fun r hr => hn r (List.mem_of_mem_take hr)), List.length_take, Nat.min_eq_left (by omega)]
 have hkp : Keeps w (own M g) (setN w g (k * n) us) (own M g) := fun p v hp hnm => ⟨by
  rw [← hp]; exact World.cell?_of_block (heap_setN _ _ _ _ _ fun e => hnm (.inr e)), hnm⟩
 refine ⟨setA C (k * n) us, RBlk.setN us h1, by rw [size_setA]; exact h2, vs ++ us, ?_, fun i u hu => ?_⟩
 ·have e : (rows.take (k + 1)).flatten = (rows.take k).flatten ++ row := by
   rw [List.take_add_one, hrow]; simp
  rw [e]
  exact (Rs.keep hkp _ _ h3).append (Rs.keep hkp _ _ hr)
 ·rcases Nat.lt_or_ge i vs.length with hlt | hge
  ·rw [List.getElem?_append_left hlt] at hu
   rw [setA_out _ _ _ _ (.inl (by omega))]
   exact h4 i u hu
  ·rw [List.getElem?_append_right hge] at hu
   have := setA_in us C (k * n) (i - vs.length) u hle hu
   rwa [show k * n + (i - vs.length) = i by omega] at this
theorem RowN.done (h : RowN w (own M g) g T len n len rows) (hl : len = rows.length) (hn : ∀ r ∈ rows, r.length = n) (hM : ∀ p, p.block = g → ¬ M p) (hm : len ≤ maxLen) : R w M (.sl rows) (.slice (some ⟨g, 0, none⟩) len len) := by
 obtain ⟨C, h1, h2, vs, h3, h4⟩ := h
 refine ⟨_, _, _, rfl, hl, Nat.le_refl _, hm, (fun e => by cases e), fun b o s e => ?_⟩
 simp only [Option.some.injEq, Addr.mk.injEq] at e
 obtain ⟨rfl, rfl, rfl⟩ := e
 refine ⟨fun _ => rfl, Rws.of_flat (M := own M g) (w := w) (vs := vs) ?_ (fun p v hp hnm => ⟨hp, fun h => hnm (.inl h)⟩) fun i u hu => ⟨?_, hM _ rfl⟩⟩
 ·rwa [List.take_of_length_le (by omega)] at h3
 ·rw [Nat.zero_add, h1.cell]; exact h4 i u hu
end
theorem arg_slice {w : World} {M : Addr → Prop} {rows : List (List D)} {n : Nat} (hn : ∀ r ∈ rows, r.length = n) {v : Value} (h : R w M (.sl rows) v) :
  ∃ a cap, v = .slice a rows.length cap ∧ rows.length ≤ maxLen ∧ ∀ k row, rows[k]? = some row → ∃ b o vs, a = some ⟨b, o, none⟩ ∧ vs.length = n ∧ Rs w M row vs ∧ ∀ (j : Nat) (u : Value), vs[j]? = some u → w.cell? ⟨b, o + k * n + j, none⟩ = some u := by
 obtain ⟨a, len, cap, rfl, rfl, hlc, hcm, hnone, hcells⟩ := h
 refine ⟨a, cap, rfl, by omega, fun k row hk => ?_⟩
 have hlt : k < rows.length := (List.getElem?_eq_some_iff.1 hk).1
 rcases a with _ | ⟨b, o, s⟩
 ·have := hnone rfl; omega
 ·obtain ⟨hs, hrw⟩ := hcells b o s rfl
  have hs := hs (by omega); subst hs
  obtain ⟨vs, e, hr, hc⟩ := (hrw.get hn hk).cells
  exact ⟨b, o, vs, rfl, by rw [e, hn row (List.mem_of_getElem? hk)], hr, hc⟩
def BlkN (w : World) (g : Nat) (T : TypeId) (m : Nat) : Prop := ∃ C : Array Value, RBlk w g T C ∧ C.size = m
theorem RowN.blkN {w : World} {M : Addr → Prop} {g : Nat} {T : TypeId} {len n k : Nat} {rows : List (List D)} (h : RowN w M g T len n k rows) : BlkN w g T (len * n) := by
 obtain ⟨C, h1, h2, _⟩ := h
 exact ⟨C, h1, h2⟩
theorem BlkN.store {P : Program} {w : World} {g : Nat} {T : TypeId} {m o : Nat} {v : Value} (h : BlkN w g T m) (ho : o < m) (hone : v.oneCell' = true) : (store ⟨g, o, none⟩ v).run P w = .ok () (w.setCell ⟨g, o, none⟩ v) ∧ BlkN (w.setCell ⟨g, o, none⟩ v) g T m := by
 obtain ⟨C, h1, h2⟩ := h
 have hc : w.cell? ⟨g, o, none⟩ = some (C[o]'(by omega)) := by rw [h1.cell]; exact Array.getElem?_eq_getElem (by omega)
 refine ⟨by rw [run_store P w _ v .plain hone, hc, h1.frozen o]; rfl, _, h1.set_ o v, by simpa using h2⟩
theorem off_lt {k len n j : Nat} (hk : k < len) (hj : j < n) : k * n + j < len * n := by
 calc k * n + j < k * n + n := by omega
  _ = (k + 1) * n := by rw [Nat.add_mul, Nat.one_mul]
  _ ≤ len * n := Nat.mul_le_mul_right _ hk
theorem len_5 {α : Type} {l : List α} (h : l.length = 5) : ∃ a b c d e, l = [a, b, c, d, e] := match l, h with | [a, b, c, d, e], _ => ⟨a, b, c, d, e, rfl⟩
theorem len_6 {α : Type} {l : List α} (h : l.length = 6) : ∃ a b c d e f, l = [a, b, c, d, e, f] := match l, h with | [a, b, c, d, e, f], _ => ⟨a, b, c, d, e, f, rfl⟩
theorem len_7 {α : Type} {l : List α} (h : l.length = 7) : ∃ a b c d e f g, l = [a, b, c, d, e, f, g] := match l, h with | [a, b, c, d, e, f, g], _ => ⟨a, b, c, d, e, f, g, rfl⟩
theorem get_map {α : Type} [Enc α] (l : List α) {k : Nat} (h : k < l.length) : (l.map Enc.cells)[k]? = some (Enc.cells (nth l k)) := by
 rw [List.getElem?_map, nth, List.getD, List.getElem?_eq_getElem h]; rfl
theorem map_len {α : Type} [Enc α] {n : Nat} (h : ∀ x : α, (Enc.cells x).length = n) (l : List α) : ∀ r ∈ l.map Enc.cells, r.length = n := by
 intro r hr; obtain ⟨x, _, rfl⟩ := List.mem_map.1 hr; exact h x
end Go.Proofs.YtjmakbnblpjkhaaGreatDoor
