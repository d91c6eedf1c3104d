/- Contracts of the library's functions that are called here, laid at this seat's program by the kit's tool (lay-shelf, lay-plain); those that are needed. -/
import Derived.Shelf.Strings.Builder1
import Derived.Shelf.Strings.Builder2
import Derived.Shelf.Strings.OnBuilder
import Derived.Shelf.Strconv.Atoi
import Derived.Shelf.Strconv.Itoa0
import Derived.Shelf.Strconv.Itoa1
import Derived.Shelf.LaysM
import Derived.Shelf.Strconv.Itoa2
import Derived.Shelf.Strconv.Itoa3
import Derived.Shelf.Strconv.AtoiErrFast
import Derived.Shelf.Strconv.ParseIntEmpty
import Derived.Shelf.Strconv.AtoiFail
import Derived.Shelf.Strconv.Clone
import Derived.Shelf.Strconv.SyntaxError
import Derived.Shelf.LaysC
import Derived.Shelf.Strconv.ToError
import Derived.Shelf.Strconv.AtoiErr
import Derived.Shelf.Strconv.ErrVar
import Derived.Shelf.Strconv.Lower
import Derived.Shelf.Strconv.ParseUint10
import Derived.Shelf.Strconv.ParseUint10Empty
import Derived.Shelf.Strconv.ParseUint10Any
import Derived.Shelf.Strconv.ParseInt10
import Derived.Shelf.Strconv.AtoiLong
import Derived.Shelf.Strconv.AtoiInnerAll
import Derived.Shelf.Strconv.RangeError
import Derived.Shelf.Strconv.ToErrorRange
import Derived.Shelf.Strconv.AtoiAll
import Derived.Shelf.Strconv.ErrVarAll
import Derived.Shelf.Strings.Search1
import Derived.Shelf.Strings.Search2
import Derived.Shelf.Strings.Search3
import Derived.Shelf.Strings.Cut
import Derived.Shelf.Strings.Count
import Derived.Shelf.Strings.Shaped
import Derived.Shelf.Strings.Split
import Derived.Shelf.Strings.SplitShaped
import Derived.Shelf.Unicode.DecodeSlow
import Derived.Test.YtbgcaneflfdddaaGreatDoorProg
import Derived.Test.YtbgcaneflfdddaaGreatDoorC10
import Derived.Test.YtbgcaneflfdddaaGreatDoorC11
set_option linter.unusedVariables false
set_option linter.unusedSimpArgs false
set_option maxRecDepth 100000
set_option linter.unusedSectionVars false
namespace Go.Proofs
open Go.Shelf
def Tryz.lays156_ren : Go.Shelf.Ren := ⟨fun | 156 => 155 | 165 => 162 | 166 => 163 | 169 => 164 | 240 => 172 | 241 => 173 | 276 => 190 | 277 => 191 | n => n, fun | 31 => 48 | 9 => 9 | 3 => 3 | 4 => 4 | 0 => 0 | 20 => 20 | 72 => 167 | 76 => 163 | 70 => 165 | 37 => 22 | 75 => 162 | 127 => 174 | 164 => 190 | 5 => 5 | 80 => 169 | n => n, fun | n => n⟩
theorem Tryz.lays156 : Go.Proofs.Lays.n156 Tryz.prog Tryz.lays156_ren := {
 mixed := by kernel_rfl
 f156 := Tryz.func155.trans (congrArg some (by kernel_rfl))
 f165 := Tryz.func162.trans (congrArg some (by kernel_rfl))
 f166 := Tryz.func163.trans (congrArg some (by kernel_rfl))
 f169 := Tryz.func164.trans (congrArg some (by kernel_rfl))
 f240 := Tryz.func172.trans (congrArg some (by kernel_rfl))
 f241 := Tryz.func173.trans (congrArg some (by kernel_rfl))
 f276 := Tryz.func190.trans (congrArg some (by kernel_rfl))
 f277 := Tryz.func191.trans (congrArg some (by kernel_rfl))
 t0 := Tryz.underlying0
 a0 := Tryz.isAgg0
 z0 := Tryz.sizeOf0
 v0 := Tryz.zeroValue0
 t3 := Tryz.underlying3
 a3 := Tryz.isAgg3
 z3 := Tryz.sizeOf3
 v3 := Tryz.zeroValue3
 t4 := Tryz.underlying4
 a4 := Tryz.isAgg4
 z4 := Tryz.sizeOf4
 v4 := Tryz.zeroValue4
 t9 := Tryz.underlying9
 a9 := Tryz.isAgg9
 z9 := Tryz.sizeOf9
 v9 := Tryz.zeroValue9
 t20 := Tryz.underlying20
 a20 := Tryz.isAgg20
 z20 := Tryz.sizeOf20
 v20 := Tryz.zeroValue20
 t31 := Tryz.underlying48
 a31 := Tryz.isAgg48
 z31 := Tryz.sizeOf48
 v31 := Tryz.zeroValue48
 t37 := Tryz.underlying22
 a37 := Tryz.isAgg22
 z37 := Tryz.sizeOf22
 v37 := Tryz.zeroValue22
 t70 := Tryz.underlying165
 a70 := Tryz.isAgg165
 z70 := Tryz.sizeOf165
 v70 := Tryz.zeroValue165
 t72 := Tryz.underlying167
 a72 := Tryz.isAgg167
 z72 := Tryz.sizeOf167
 v72 := Tryz.zeroValue167
 t75 := Tryz.underlying162
 a75 := Tryz.isAgg162
 z75 := Tryz.sizeOf162
 v75 := Tryz.zeroValue162
 t76 := Tryz.underlying163
 a76 := Tryz.isAgg163
 z76 := Tryz.sizeOf163
 v76 := Tryz.zeroValue163
 t127 := Tryz.underlying174
 a127 := Tryz.isAgg174
 z127 := Tryz.sizeOf174
 v127 := Tryz.zeroValue174
 t164 := Tryz.underlying190
 a164 := Tryz.isAgg190
 z164 := Tryz.sizeOf190
 v164 := Tryz.zeroValue190 }
theorem Tryz.Builder_Extra_156 : Builder.Extra Tryz.prog Tryz.lays156_ren := {
 sizeBuilder := by kernel_rfl
 liesBuilder := by kernel_rfl
 t5 := Tryz.underlying5
 a5 := Tryz.isAgg5
 z5 := Tryz.sizeOf5
 v5 := Tryz.zeroValue5
 infoByte := by kernel_rfl
 cellsByte := by kernel_rfl
 sizeByte := by kernel_rfl
 neB5 := by decide }
open Go.RowKit in
theorem Tryz.strings_Join_none (a : Option Addr) (c : Nat) (sep : ByteArray) (w : World) :
  Calls Tryz.prog 155 #[.slice a 0 c, .string sep] w fun e w' => e = .returned (.string ⟨#[]⟩) ∧ w' = w := Any.strings_Join_none Tryz.lays156 Tryz.Builder_Extra_156 a c sep w
open Go.RowKit in
theorem Tryz.strings_Join (bk o c : Nat) (xs : List ByteArray) (sep : ByteArray) (w : World) (hcells : ∀ (j : Nat) x, xs[j]? = some x → w.cell? ⟨bk, o + j, none⟩ = some (.string x)) (hbk : bk < w.heap.size) (hN : xs.length ≤ 140737488355328) (hcap : xs.length ≤ c) (hlen : (Lib.join (xs.map (·.data.toList)) sep.data.toList).length ≤ 140737488355328) :
  Calls Tryz.prog 155 #[.slice (some ⟨bk, o, none⟩) xs.length c, .string sep] w fun e w' => e = .returned (.string ⟨(Lib.join (xs.map (·.data.toList)) sep.data.toList).toArray⟩) ∧ Below w.heap.size w w' := Any.strings_Join Tryz.lays156 Tryz.Builder_Extra_156 bk o c xs sep w hcells hbk hN hcap hlen
def Tryz.lays172_ren : Go.Shelf.Ren := ⟨fun | 172 => 158 | 244 => 169 | 245 => 170 | 247 => 181 | 279 => 182 | 280 => 183 | 281 => 184 | 282 => 185 | 287 => 195 | 316 => 196 | 171 => 154 | 205 => 197 | 321 => 203 | 322 => 204 | 243 => 161 | 246 => 171 | 283 => 186 | 284 => 187 | 285 => 188 | 286 => 189 | 129 => 199 | 317 => 198 | 318 => 200 | 319 => 201 | 320 => 202 | 337 => 205 | 338 => 206 | n => n, fun | 9 => 9 | 3 => 3 | 75 => 162 | 76 => 163 | 4 => 4 | 5 => 5 | 167 => 178 | 37 => 22 | 0 => 0 | 85 => 179 | 2 => 2 | 168 => 181 | 53 => 185 | 175 => 196 | 46 => 139 | 210 => 200 | 127 => 174 | 145 => 213 | 143 => 211 | 21 => 21 | 171 => 184 | 173 => 188 | 212 => 203 | 51 => 193 | 20 => 20 | 213 => 204 | 232 => 215 | 233 => 216 | 80 => 169 | n => n, fun | 15 => 1 | 16 => 2 | 17 => 3 | 18 => 6 | 19 => 7 | n => n⟩
theorem Tryz.lays172 : Go.Proofs.Lays.n172 Tryz.prog Tryz.lays172_ren := {
 mixed := by kernel_rfl
 f129 := Tryz.func199.trans (congrArg some (by kernel_rfl))
 f171 := Tryz.func154.trans (congrArg some (by kernel_rfl))
 f172 := Tryz.func158.trans (congrArg some (by kernel_rfl))
 f205 := Tryz.func197.trans (congrArg some (by kernel_rfl))
 f243 := Tryz.func161.trans (congrArg some (by kernel_rfl))
 f244 := Tryz.func169.trans (congrArg some (by kernel_rfl))
 f245 := Tryz.func170.trans (congrArg some (by kernel_rfl))
 f246 := Tryz.func171.trans (congrArg some (by kernel_rfl))
 f247 := Tryz.func181.trans (congrArg some (by kernel_rfl))
 f279 := Tryz.func182.trans (congrArg some (by kernel_rfl))
 f280 := Tryz.func183.trans (congrArg some (by kernel_rfl))
 f281 := Tryz.func184.trans (congrArg some (by kernel_rfl))
 f282 := Tryz.func185.trans (congrArg some (by kernel_rfl))
 f283 := Tryz.func186.trans (congrArg some (by kernel_rfl))
 f284 := Tryz.func187.trans (congrArg some (by kernel_rfl))
 f285 := Tryz.func188.trans (congrArg some (by kernel_rfl))
 f286 := Tryz.func189.trans (congrArg some (by kernel_rfl))
 f287 := Tryz.func195.trans (congrArg some (by kernel_rfl))
 f316 := Tryz.func196.trans (congrArg some (by kernel_rfl))
 f317 := Tryz.func198.trans (congrArg some (by kernel_rfl))
 f318 := Tryz.func200.trans (congrArg some (by kernel_rfl))
 f319 := Tryz.func201.trans (congrArg some (by kernel_rfl))
 f320 := Tryz.func202.trans (congrArg some (by kernel_rfl))
 f321 := Tryz.func203.trans (congrArg some (by kernel_rfl))
 f322 := Tryz.func204.trans (congrArg some (by kernel_rfl))
 f337 := Tryz.func205.trans (congrArg some (by kernel_rfl))
 f338 := Tryz.func206.trans (congrArg some (by kernel_rfl))
 t0 := Tryz.underlying0
 a0 := Tryz.isAgg0
 z0 := Tryz.sizeOf0
 v0 := Tryz.zeroValue0
 t2 := Tryz.underlying2
 a2 := Tryz.isAgg2
 z2 := Tryz.sizeOf2
 v2 := Tryz.zeroValue2
 t3 := Tryz.underlying3
 a3 := Tryz.isAgg3
 z3 := Tryz.sizeOf3
 v3 := Tryz.zeroValue3
 t4 := Tryz.underlying4
 a4 := Tryz.isAgg4
 z4 := Tryz.sizeOf4
 v4 := Tryz.zeroValue4
 t5 := Tryz.underlying5
 a5 := Tryz.isAgg5
 z5 := Tryz.sizeOf5
 v5 := Tryz.zeroValue5
 t9 := Tryz.underlying9
 a9 := Tryz.isAgg9
 z9 := Tryz.sizeOf9
 v9 := Tryz.zeroValue9
 t20 := Tryz.underlying20
 a20 := Tryz.isAgg20
 z20 := Tryz.sizeOf20
 v20 := Tryz.zeroValue20
 t21 := Tryz.underlying21
 a21 := Tryz.isAgg21
 z21 := Tryz.sizeOf21
 v21 := Tryz.zeroValue21
 t37 := Tryz.underlying22
 a37 := Tryz.isAgg22
 z37 := Tryz.sizeOf22
 v37 := Tryz.zeroValue22
 t46 := Tryz.underlying139
 a46 := Tryz.isAgg139
 z46 := Tryz.sizeOf139
 v46 := Tryz.zeroValue139
 t51 := Tryz.underlying193
 a51 := Tryz.isAgg193
 z51 := Tryz.sizeOf193
 v51 := Tryz.zeroValue193
 t53 := Tryz.underlying185
 a53 := Tryz.isAgg185
 z53 := Tryz.sizeOf185
 v53 := Tryz.zeroValue185
 t75 := Tryz.underlying162
 a75 := Tryz.isAgg162
 z75 := Tryz.sizeOf162
 v75 := Tryz.zeroValue162
 t76 := Tryz.underlying163
 a76 := Tryz.isAgg163
 z76 := Tryz.sizeOf163
 v76 := Tryz.zeroValue163
 t85 := Tryz.underlying179
 a85 := Tryz.isAgg179
 z85 := Tryz.sizeOf179
 v85 := Tryz.zeroValue179
 t127 := Tryz.underlying174
 a127 := Tryz.isAgg174
 z127 := Tryz.sizeOf174
 v127 := Tryz.zeroValue174
 t143 := Tryz.underlying211
 a143 := Tryz.isAgg211
 z143 := Tryz.sizeOf211
 v143 := Tryz.zeroValue211
 t145 := Tryz.underlying213
 a145 := Tryz.isAgg213
 z145 := Tryz.sizeOf213
 v145 := Tryz.zeroValue213
 t167 := Tryz.underlying178
 a167 := Tryz.isAgg178
 z167 := Tryz.sizeOf178
 v167 := Tryz.zeroValue178
 t168 := Tryz.underlying181
 a168 := Tryz.isAgg181
 z168 := Tryz.sizeOf181
 v168 := Tryz.zeroValue181
 t171 := Tryz.underlying184
 a171 := Tryz.isAgg184
 z171 := Tryz.sizeOf184
 v171 := Tryz.zeroValue184
 t173 := Tryz.underlying188
 a173 := Tryz.isAgg188
 z173 := Tryz.sizeOf188
 v173 := Tryz.zeroValue188
 t175 := Tryz.underlying196
 a175 := Tryz.isAgg196
 z175 := Tryz.sizeOf196
 v175 := Tryz.zeroValue196
 t210 := Tryz.underlying200
 a210 := Tryz.isAgg200
 z210 := Tryz.sizeOf200
 v210 := Tryz.zeroValue200
 t212 := Tryz.underlying203
 a212 := Tryz.isAgg203
 z212 := Tryz.sizeOf203
 v212 := Tryz.zeroValue203
 t213 := Tryz.underlying204
 a213 := Tryz.isAgg204
 z213 := Tryz.sizeOf204
 t232 := Tryz.underlying215
 a232 := Tryz.isAgg215
 z232 := Tryz.sizeOf215
 v232 := Tryz.zeroValue215
 t233 := Tryz.underlying216
 a233 := Tryz.isAgg216
 z233 := Tryz.sizeOf216
 v233 := Tryz.zeroValue216
 g15 := by kernel_rfl
 g16 := by kernel_rfl
 g17 := by kernel_rfl
 g18 := by kernel_rfl
 g19 := by kernel_rfl }
open Go.RowKit in
theorem Tryz.strconv_Atoi (s : ByteArray) (n : Int) (hl : s.size ≤ 18) (h : Lib.atoi s.data.toList = some n) (w : World) :
  Calls Tryz.prog 158 #[.string s] w fun e w' => e = .returned (.tuple #[.int .i64 n, .nilIface]) ∧ ∃ t, w' = Lib.bytesWorld w 5 t := Any.strconv_Atoi Tryz.lays172 s n hl h w
def Tryz.laysM171_ren : Go.Shelf.Ren := ⟨fun | 171 => 154 | 243 => 161 | 246 => 171 | 283 => 186 | 284 => 187 | 285 => 188 | 286 => 189 | 129 => 199 | 317 => 198 | 318 => 200 | 319 => 201 | 320 => 202 | 337 => 205 | 338 => 206 | n => n, fun | 3 => 3 | 9 => 9 | 2 => 2 | 4 => 4 | 171 => 184 | 0 => 0 | 53 => 185 | 37 => 22 | 5 => 5 | 173 => 188 | 212 => 203 | 51 => 193 | 20 => 20 | 213 => 204 | 46 => 139 | 232 => 215 | 233 => 216 | n => n, fun | 17 => 3 | 18 => 6 | 19 => 7 | n => n⟩
theorem Tryz.laysM171 : Go.Proofs.LaysM.n171 Tryz.prog Tryz.laysM171_ren := {
 mixed := by kernel_rfl
 f129 := Tryz.func199.trans (congrArg some (by kernel_rfl))
 f171 := Tryz.func154.trans (congrArg some (by kernel_rfl))
 f243 := Tryz.func161.trans (congrArg some (by kernel_rfl))
 f246 := Tryz.func171.trans (congrArg some (by kernel_rfl))
 f283 := Tryz.func186.trans (congrArg some (by kernel_rfl))
 f284 := Tryz.func187.trans (congrArg some (by kernel_rfl))
 f285 := Tryz.func188.trans (congrArg some (by kernel_rfl))
 f286 := Tryz.func189.trans (congrArg some (by kernel_rfl))
 f317 := Tryz.func198.trans (congrArg some (by kernel_rfl))
 f318 := Tryz.func200.trans (congrArg some (by kernel_rfl))
 f319 := Tryz.func201.trans (congrArg some (by kernel_rfl))
 f320 := Tryz.func202.trans (congrArg some (by kernel_rfl))
 f337 := Tryz.func205.trans (congrArg some (by kernel_rfl))
 f338 := Tryz.func206.trans (congrArg some (by kernel_rfl))
 t0 := Tryz.underlying0
 a0 := Tryz.isAgg0
 z0 := Tryz.sizeOf0
 v0 := Tryz.zeroValue0
 t2 := Tryz.underlying2
 a2 := Tryz.isAgg2
 z2 := Tryz.sizeOf2
 v2 := Tryz.zeroValue2
 t3 := Tryz.underlying3
 a3 := Tryz.isAgg3
 z3 := Tryz.sizeOf3
 v3 := Tryz.zeroValue3
 t4 := Tryz.underlying4
 a4 := Tryz.isAgg4
 z4 := Tryz.sizeOf4
 v4 := Tryz.zeroValue4
 t5 := Tryz.underlying5
 a5 := Tryz.isAgg5
 z5 := Tryz.sizeOf5
 v5 := Tryz.zeroValue5
 t9 := Tryz.underlying9
 a9 := Tryz.isAgg9
 z9 := Tryz.sizeOf9
 v9 := Tryz.zeroValue9
 t20 := Tryz.underlying20
 a20 := Tryz.isAgg20
 z20 := Tryz.sizeOf20
 v20 := Tryz.zeroValue20
 t37 := Tryz.underlying22
 a37 := Tryz.isAgg22
 z37 := Tryz.sizeOf22
 v37 := Tryz.zeroValue22
 t46 := Tryz.underlying139
 a46 := Tryz.isAgg139
 z46 := Tryz.sizeOf139
 v46 := Tryz.zeroValue139
 t51 := Tryz.underlying193
 a51 := Tryz.isAgg193
 z51 := Tryz.sizeOf193
 v51 := Tryz.zeroValue193
 t53 := Tryz.underlying185
 a53 := Tryz.isAgg185
 z53 := Tryz.sizeOf185
 v53 := Tryz.zeroValue185
 t171 := Tryz.underlying184
 a171 := Tryz.isAgg184
 z171 := Tryz.sizeOf184
 v171 := Tryz.zeroValue184
 t173 := Tryz.underlying188
 a173 := Tryz.isAgg188
 z173 := Tryz.sizeOf188
 v173 := Tryz.zeroValue188
 t212 := Tryz.underlying203
 a212 := Tryz.isAgg203
 z212 := Tryz.sizeOf203
 v212 := Tryz.zeroValue203
 t213 := Tryz.underlying204
 a213 := Tryz.isAgg204
 z213 := Tryz.sizeOf204
 t232 := Tryz.underlying215
 a232 := Tryz.isAgg215
 z232 := Tryz.sizeOf215
 v232 := Tryz.zeroValue215
 t233 := Tryz.underlying216
 a233 := Tryz.isAgg216
 z233 := Tryz.sizeOf216
 v233 := Tryz.zeroValue216
 g17 := by kernel_rfl
 g18 := by kernel_rfl
 g19 := by kernel_rfl
 i0 := by kernel_rfl
 i2 := by kernel_rfl
 i3 := by kernel_rfl
 i4 := by kernel_rfl
 i5 := by kernel_rfl
 i9 := by kernel_rfl
 i20 := by kernel_rfl
 i37 := by kernel_rfl
 i46 := by kernel_rfl
 i51 := by kernel_rfl
 i53 := by kernel_rfl
 i171 := by kernel_rfl
 i173 := by kernel_rfl
 i212 := by kernel_rfl
 i232 := by kernel_rfl
 i233 := by kernel_rfl
 m17 := by kernel_rfl
 m18 := by kernel_rfl
 m19 := by kernel_rfl }
def Tryz.lays171_ren : Go.Shelf.Ren := ⟨fun | 171 => 154 | 243 => 161 | 246 => 171 | 283 => 186 | 284 => 187 | 285 => 188 | 286 => 189 | 129 => 199 | 317 => 198 | 318 => 200 | 319 => 201 | 320 => 202 | 337 => 205 | 338 => 206 | n => n, fun | 3 => 3 | 9 => 9 | 2 => 2 | 4 => 4 | 171 => 184 | 0 => 0 | 53 => 185 | 37 => 22 | 5 => 5 | 173 => 188 | 212 => 203 | 51 => 193 | 20 => 20 | 213 => 204 | 46 => 139 | 232 => 215 | 233 => 216 | n => n, fun | 17 => 3 | 18 => 6 | 19 => 7 | n => n⟩
theorem Tryz.lays171 : Go.Proofs.Lays.n171 Tryz.prog Tryz.lays171_ren := {
 mixed := by kernel_rfl
 f129 := Tryz.func199.trans (congrArg some (by kernel_rfl))
 f171 := Tryz.func154.trans (congrArg some (by kernel_rfl))
 f243 := Tryz.func161.trans (congrArg some (by kernel_rfl))
 f246 := Tryz.func171.trans (congrArg some (by kernel_rfl))
 f283 := Tryz.func186.trans (congrArg some (by kernel_rfl))
 f284 := Tryz.func187.trans (congrArg some (by kernel_rfl))
 f285 := Tryz.func188.trans (congrArg some (by kernel_rfl))
 f286 := Tryz.func189.trans (congrArg some (by kernel_rfl))
 f317 := Tryz.func198.trans (congrArg some (by kernel_rfl))
 f318 := Tryz.func200.trans (congrArg some (by kernel_rfl))
 f319 := Tryz.func201.trans (congrArg some (by kernel_rfl))
 f320 := Tryz.func202.trans (congrArg some (by kernel_rfl))
 f337 := Tryz.func205.trans (congrArg some (by kernel_rfl))
 f338 := Tryz.func206.trans (congrArg some (by kernel_rfl))
 t0 := Tryz.underlying0
 a0 := Tryz.isAgg0
 z0 := Tryz.sizeOf0
 v0 := Tryz.zeroValue0
 t2 := Tryz.underlying2
 a2 := Tryz.isAgg2
 z2 := Tryz.sizeOf2
 v2 := Tryz.zeroValue2
 t3 := Tryz.underlying3
 a3 := Tryz.isAgg3
 z3 := Tryz.sizeOf3
 v3 := Tryz.zeroValue3
 t4 := Tryz.underlying4
 a4 := Tryz.isAgg4
 z4 := Tryz.sizeOf4
 v4 := Tryz.zeroValue4
 t5 := Tryz.underlying5
 a5 := Tryz.isAgg5
 z5 := Tryz.sizeOf5
 v5 := Tryz.zeroValue5
 t9 := Tryz.underlying9
 a9 := Tryz.isAgg9
 z9 := Tryz.sizeOf9
 v9 := Tryz.zeroValue9
 t20 := Tryz.underlying20
 a20 := Tryz.isAgg20
 z20 := Tryz.sizeOf20
 v20 := Tryz.zeroValue20
 t37 := Tryz.underlying22
 a37 := Tryz.isAgg22
 z37 := Tryz.sizeOf22
 v37 := Tryz.zeroValue22
 t46 := Tryz.underlying139
 a46 := Tryz.isAgg139
 z46 := Tryz.sizeOf139
 v46 := Tryz.zeroValue139
 t51 := Tryz.underlying193
 a51 := Tryz.isAgg193
 z51 := Tryz.sizeOf193
 v51 := Tryz.zeroValue193
 t53 := Tryz.underlying185
 a53 := Tryz.isAgg185
 z53 := Tryz.sizeOf185
 v53 := Tryz.zeroValue185
 t171 := Tryz.underlying184
 a171 := Tryz.isAgg184
 z171 := Tryz.sizeOf184
 v171 := Tryz.zeroValue184
 t173 := Tryz.underlying188
 a173 := Tryz.isAgg188
 z173 := Tryz.sizeOf188
 v173 := Tryz.zeroValue188
 t212 := Tryz.underlying203
 a212 := Tryz.isAgg203
 z212 := Tryz.sizeOf203
 v212 := Tryz.zeroValue203
 t213 := Tryz.underlying204
 a213 := Tryz.isAgg204
 z213 := Tryz.sizeOf204
 t232 := Tryz.underlying215
 a232 := Tryz.isAgg215
 z232 := Tryz.sizeOf215
 v232 := Tryz.zeroValue215
 t233 := Tryz.underlying216
 a233 := Tryz.isAgg216
 z233 := Tryz.sizeOf216
 v233 := Tryz.zeroValue216
 g17 := by kernel_rfl
 g18 := by kernel_rfl
 g19 := by kernel_rfl }
open Go.RowKit Go.Sort Go.Lib in
theorem Tryz.strconv_Itoa_small (i : Nat) (hi : i < 100) (w : World) :
  Calls Tryz.prog 154 #[.int .i64 i] w fun e w' => e = .returned (.string ⟨(Lib.decDigits i).toArray⟩) ∧ w' = w := Any.strconv_Itoa_small Tryz.lays171 i hi w
def Tryz.laysC172_ren : Go.Shelf.Ren := ⟨fun | 172 => 158 | 244 => 169 | 245 => 170 | 247 => 181 | 279 => 182 | 280 => 183 | 281 => 184 | 282 => 185 | 287 => 195 | 316 => 196 | 171 => 154 | 205 => 197 | 321 => 203 | 322 => 204 | 243 => 161 | 246 => 171 | 283 => 186 | 284 => 187 | 285 => 188 | 286 => 189 | 129 => 199 | 317 => 198 | 318 => 200 | 319 => 201 | 320 => 202 | 337 => 205 | 338 => 206 | n => n, fun | 9 => 9 | 3 => 3 | 75 => 162 | 76 => 163 | 4 => 4 | 5 => 5 | 167 => 178 | 37 => 22 | 0 => 0 | 85 => 179 | 2 => 2 | 168 => 181 | 53 => 185 | 175 => 196 | 46 => 139 | 210 => 200 | 127 => 174 | 145 => 213 | 143 => 211 | 21 => 21 | 171 => 184 | 173 => 188 | 212 => 203 | 51 => 193 | 20 => 20 | 213 => 204 | 232 => 215 | 233 => 216 | 80 => 169 | n => n, fun | 15 => 1 | 16 => 2 | 17 => 3 | 18 => 6 | 19 => 7 | n => n⟩
theorem Tryz.laysC172 : Go.Proofs.LaysC.n172 Tryz.prog Tryz.laysC172_ren := {
 mixed := by kernel_rfl
 f129 := Tryz.func199.trans (congrArg some (by kernel_rfl))
 f171 := Tryz.func154.trans (congrArg some (by kernel_rfl))
 f172 := Tryz.func158.trans (congrArg some (by kernel_rfl))
 f205 := Tryz.func197.trans (congrArg some (by kernel_rfl))
 f243 := Tryz.func161.trans (congrArg some (by kernel_rfl))
 f244 := Tryz.func169.trans (congrArg some (by kernel_rfl))
 f245 := Tryz.func170.trans (congrArg some (by kernel_rfl))
 f246 := Tryz.func171.trans (congrArg some (by kernel_rfl))
 f247 := Tryz.func181.trans (congrArg some (by kernel_rfl))
 f279 := Tryz.func182.trans (congrArg some (by kernel_rfl))
 f280 := Tryz.func183.trans (congrArg some (by kernel_rfl))
 f281 := Tryz.func184.trans (congrArg some (by kernel_rfl))
 f282 := Tryz.func185.trans (congrArg some (by kernel_rfl))
 f283 := Tryz.func186.trans (congrArg some (by kernel_rfl))
 f284 := Tryz.func187.trans (congrArg some (by kernel_rfl))
 f285 := Tryz.func188.trans (congrArg some (by kernel_rfl))
 f286 := Tryz.func189.trans (congrArg some (by kernel_rfl))
 f287 := Tryz.func195.trans (congrArg some (by kernel_rfl))
 f316 := Tryz.func196.trans (congrArg some (by kernel_rfl))
 f317 := Tryz.func198.trans (congrArg some (by kernel_rfl))
 f318 := Tryz.func200.trans (congrArg some (by kernel_rfl))
 f319 := Tryz.func201.trans (congrArg some (by kernel_rfl))
 f320 := Tryz.func202.trans (congrArg some (by kernel_rfl))
 f321 := Tryz.func203.trans (congrArg some (by kernel_rfl))
 f322 := Tryz.func204.trans (congrArg some (by kernel_rfl))
 f337 := Tryz.func205.trans (congrArg some (by kernel_rfl))
 f338 := Tryz.func206.trans (congrArg some (by kernel_rfl))
 t0 := Tryz.underlying0
 a0 := Tryz.isAgg0
 z0 := Tryz.sizeOf0
 v0 := Tryz.zeroValue0
 t2 := Tryz.underlying2
 a2 := Tryz.isAgg2
 z2 := Tryz.sizeOf2
 v2 := Tryz.zeroValue2
 t3 := Tryz.underlying3
 a3 := Tryz.isAgg3
 z3 := Tryz.sizeOf3
 v3 := Tryz.zeroValue3
 t4 := Tryz.underlying4
 a4 := Tryz.isAgg4
 z4 := Tryz.sizeOf4
 v4 := Tryz.zeroValue4
 t5 := Tryz.underlying5
 a5 := Tryz.isAgg5
 z5 := Tryz.sizeOf5
 v5 := Tryz.zeroValue5
 t9 := Tryz.underlying9
 a9 := Tryz.isAgg9
 z9 := Tryz.sizeOf9
 v9 := Tryz.zeroValue9
 t20 := Tryz.underlying20
 a20 := Tryz.isAgg20
 z20 := Tryz.sizeOf20
 v20 := Tryz.zeroValue20
 t21 := Tryz.underlying21
 a21 := Tryz.isAgg21
 z21 := Tryz.sizeOf21
 v21 := Tryz.zeroValue21
 t37 := Tryz.underlying22
 a37 := Tryz.isAgg22
 z37 := Tryz.sizeOf22
 v37 := Tryz.zeroValue22
 t46 := Tryz.underlying139
 a46 := Tryz.isAgg139
 z46 := Tryz.sizeOf139
 v46 := Tryz.zeroValue139
 t51 := Tryz.underlying193
 a51 := Tryz.isAgg193
 z51 := Tryz.sizeOf193
 v51 := Tryz.zeroValue193
 t53 := Tryz.underlying185
 a53 := Tryz.isAgg185
 z53 := Tryz.sizeOf185
 v53 := Tryz.zeroValue185
 t75 := Tryz.underlying162
 a75 := Tryz.isAgg162
 z75 := Tryz.sizeOf162
 v75 := Tryz.zeroValue162
 t76 := Tryz.underlying163
 a76 := Tryz.isAgg163
 z76 := Tryz.sizeOf163
 v76 := Tryz.zeroValue163
 t85 := Tryz.underlying179
 a85 := Tryz.isAgg179
 z85 := Tryz.sizeOf179
 v85 := Tryz.zeroValue179
 t127 := Tryz.underlying174
 a127 := Tryz.isAgg174
 z127 := Tryz.sizeOf174
 v127 := Tryz.zeroValue174
 t143 := Tryz.underlying211
 a143 := Tryz.isAgg211
 z143 := Tryz.sizeOf211
 v143 := Tryz.zeroValue211
 t145 := Tryz.underlying213
 a145 := Tryz.isAgg213
 z145 := Tryz.sizeOf213
 v145 := Tryz.zeroValue213
 t167 := Tryz.underlying178
 a167 := Tryz.isAgg178
 z167 := Tryz.sizeOf178
 v167 := Tryz.zeroValue178
 t168 := Tryz.underlying181
 a168 := Tryz.isAgg181
 z168 := Tryz.sizeOf181
 v168 := Tryz.zeroValue181
 t171 := Tryz.underlying184
 a171 := Tryz.isAgg184
 z171 := Tryz.sizeOf184
 v171 := Tryz.zeroValue184
 t173 := Tryz.underlying188
 a173 := Tryz.isAgg188
 z173 := Tryz.sizeOf188
 v173 := Tryz.zeroValue188
 t175 := Tryz.underlying196
 a175 := Tryz.isAgg196
 z175 := Tryz.sizeOf196
 v175 := Tryz.zeroValue196
 t210 := Tryz.underlying200
 a210 := Tryz.isAgg200
 z210 := Tryz.sizeOf200
 v210 := Tryz.zeroValue200
 t212 := Tryz.underlying203
 a212 := Tryz.isAgg203
 z212 := Tryz.sizeOf203
 v212 := Tryz.zeroValue203
 t213 := Tryz.underlying204
 a213 := Tryz.isAgg204
 z213 := Tryz.sizeOf204
 t232 := Tryz.underlying215
 a232 := Tryz.isAgg215
 z232 := Tryz.sizeOf215
 v232 := Tryz.zeroValue215
 t233 := Tryz.underlying216
 a233 := Tryz.isAgg216
 z233 := Tryz.sizeOf216
 v233 := Tryz.zeroValue216
 g15 := by kernel_rfl
 g16 := by kernel_rfl
 g17 := by kernel_rfl
 g18 := by kernel_rfl
 g19 := by kernel_rfl
 t80 := Tryz.underlying169
 a80 := Tryz.isAgg169
 z80 := Tryz.sizeOf169
 v80 := Tryz.zeroValue169
 i0 := by kernel_rfl
 i2 := by kernel_rfl
 i3 := by kernel_rfl
 i4 := by kernel_rfl
 i5 := by kernel_rfl
 i9 := by kernel_rfl
 i20 := by kernel_rfl
 i21 := by kernel_rfl
 i37 := by kernel_rfl
 i46 := by kernel_rfl
 i51 := by kernel_rfl
 i53 := by kernel_rfl
 i75 := by kernel_rfl
 i76 := by kernel_rfl
 i80 := by kernel_rfl
 i85 := by kernel_rfl
 i127 := by kernel_rfl
 i143 := by kernel_rfl
 i145 := by kernel_rfl
 i167 := by kernel_rfl
 i168 := by kernel_rfl
 i171 := by kernel_rfl
 i173 := by kernel_rfl
 i175 := by kernel_rfl
 i210 := by kernel_rfl
 i212 := by kernel_rfl
 i232 := by kernel_rfl
 i233 := by kernel_rfl
 m15 := by kernel_rfl
 m16 := by kernel_rfl
 m17 := by kernel_rfl
 m18 := by kernel_rfl
 m19 := by kernel_rfl
 c0 := by kernel_rfl
 c2 := by kernel_rfl
 c3 := by kernel_rfl
 c4 := by kernel_rfl
 c5 := by kernel_rfl
 c9 := by kernel_rfl
 c20 := by kernel_rfl
 c21 := by kernel_rfl
 c37 := by kernel_rfl
 c46 := by kernel_rfl
 c51 := by kernel_rfl
 c53 := by kernel_rfl
 c75 := by kernel_rfl
 c76 := by kernel_rfl
 c80 := by kernel_rfl
 c85 := by kernel_rfl
 c127 := by kernel_rfl
 c143 := by kernel_rfl
 c145 := by kernel_rfl
 c167 := by kernel_rfl
 c168 := by kernel_rfl
 c171 := by kernel_rfl
 c173 := by kernel_rfl
 c175 := by kernel_rfl
 c210 := by kernel_rfl
 c212 := by kernel_rfl
 c213 := by kernel_rfl
 c232 := by kernel_rfl
 c233 := by kernel_rfl }
open Go.RowKit in
theorem Tryz.strconv_Atoi_err (s : ByteArray) (hl : s.size ≤ 18) (h : Lib.atoi s.data.toList = none) (ev : Value) (w : World) (hv : w.cell? ⟨1, 0, none⟩ = some ev) (hev : ev = .nilIface ∨ ∃ te pe, ev = .iface te pe) :
  Calls Tryz.prog 158 #[.string s] w fun e w' => ∃ N, e = .returned (.tuple #[.int .i64 0, .iface 181 (.pointer (some ⟨N, 0, none⟩))]) ∧ w.heap.size ≤ N ∧ w'.heap[N]? = some (.cells #[.string ⟨#[65, 116, 111, 105]⟩, .string s, ev] 200 (0, 0)) ∧ Below w.heap.size w w' := Any.strconv_Atoi_err Tryz.laysC172 s hl h ev w hv hev
def Tryz.lays145_ren : Go.Shelf.Ren := ⟨fun | 145 => 147 | 220 => 157 | 219 => 168 | 217 => 177 | 225 => 178 | 224 => 179 | 267 => 180 | 266 => 193 | 314 => 194 | n => n, fun | 9 => 9 | 4 => 4 | 59 => 157 | 3 => 3 | 5 => 5 | 46 => 139 | 146 => 194 | 51 => 193 | n => n, fun | 1 => 0 | n => n⟩
theorem Tryz.lays145 : Go.Proofs.Lays.n145 Tryz.prog Tryz.lays145_ren := {
 mixed := by kernel_rfl
 f145 := Tryz.func147.trans (congrArg some (by kernel_rfl))
 f217 := Tryz.func177.trans (congrArg some (by kernel_rfl))
 f219 := Tryz.func168.trans (congrArg some (by kernel_rfl))
 f220 := Tryz.func157.trans (congrArg some (by kernel_rfl))
 f224 := Tryz.func179.trans (congrArg some (by kernel_rfl))
 f225 := Tryz.func178.trans (congrArg some (by kernel_rfl))
 f266 := Tryz.func193.trans (congrArg some (by kernel_rfl))
 f267 := Tryz.func180.trans (congrArg some (by kernel_rfl))
 f314 := Tryz.func194.trans (congrArg some (by kernel_rfl))
 t3 := Tryz.underlying3
 a3 := Tryz.isAgg3
 z3 := Tryz.sizeOf3
 v3 := Tryz.zeroValue3
 t4 := Tryz.underlying4
 a4 := Tryz.isAgg4
 z4 := Tryz.sizeOf4
 v4 := Tryz.zeroValue4
 t5 := Tryz.underlying5
 a5 := Tryz.isAgg5
 z5 := Tryz.sizeOf5
 v5 := Tryz.zeroValue5
 t9 := Tryz.underlying9
 a9 := Tryz.isAgg9
 z9 := Tryz.sizeOf9
 v9 := Tryz.zeroValue9
 t46 := Tryz.underlying139
 a46 := Tryz.isAgg139
 z46 := Tryz.sizeOf139
 v46 := Tryz.zeroValue139
 t51 := Tryz.underlying193
 a51 := Tryz.isAgg193
 z51 := Tryz.sizeOf193
 v51 := Tryz.zeroValue193
 t59 := Tryz.underlying157
 a59 := Tryz.isAgg157
 z59 := Tryz.sizeOf157
 v59 := Tryz.zeroValue157
 t146 := Tryz.underlying194
 a146 := Tryz.isAgg194
 z146 := Tryz.sizeOf194
 v146 := Tryz.zeroValue194
 g1 := by kernel_rfl }
open Go.RowKit Go.Lib in
theorem Tryz.strings_Cut (s sep : ByteArray) (m : Int) (w : World) (hs : s.size < 4294967281) (hm : w.cell? ⟨0, 0, none⟩ = some (.int .i64 m)) :
  Calls Tryz.prog 147 #[.string s, .string sep] w fun e w' => e = .returned (.tuple #[.string ⟨(Lib.cut s.data.toList sep.data.toList).1.toArray⟩, .string ⟨(Lib.cut s.data.toList sep.data.toList).2.1.toArray⟩, .bool (Lib.cut s.data.toList sep.data.toList).2.2]) ∧ ∃ n, w' = w.drewN n := Any.strings_Cut Tryz.lays145 s sep m w hs hm
def Tryz.lays146_ren : Go.Shelf.Ren := ⟨fun | 146 => 146 | 221 => 156 | 268 => 165 | 138 => 166 | 143 => 167 | 195 => 174 | 197 => 175 | 218 => 176 | 219 => 168 | 260 => 192 | 217 => 177 | 225 => 178 | 224 => 179 | 267 => 180 | 266 => 193 | 314 => 194 | n => n, fun | 9 => 9 | 31 => 48 | 3 => 3 | 4 => 4 | 0 => 0 | 105 => 175 | 21 => 21 | 5 => 5 | 46 => 139 | 119 => 206 | 139 => 209 | 138 => 208 | 146 => 194 | 51 => 193 | n => n, fun | 1 => 0 | 3 => 4 | 4 => 5 | n => n⟩
theorem Tryz.lays146 : Go.Proofs.Lays.n146 Tryz.prog Tryz.lays146_ren := {
 mixed := by kernel_rfl
 f138 := Tryz.func166.trans (congrArg some (by kernel_rfl))
 f143 := Tryz.func167.trans (congrArg some (by kernel_rfl))
 f146 := Tryz.func146.trans (congrArg some (by kernel_rfl))
 f195 := Tryz.func174.trans (congrArg some (by kernel_rfl))
 f197 := Tryz.func175.trans (congrArg some (by kernel_rfl))
 f217 := Tryz.func177.trans (congrArg some (by kernel_rfl))
 f218 := Tryz.func176.trans (congrArg some (by kernel_rfl))
 f219 := Tryz.func168.trans (congrArg some (by kernel_rfl))
 f221 := Tryz.func156.trans (congrArg some (by kernel_rfl))
 f224 := Tryz.func179.trans (congrArg some (by kernel_rfl))
 f225 := Tryz.func178.trans (congrArg some (by kernel_rfl))
 f260 := Tryz.func192.trans (congrArg some (by kernel_rfl))
 f266 := Tryz.func193.trans (congrArg some (by kernel_rfl))
 f267 := Tryz.func180.trans (congrArg some (by kernel_rfl))
 f268 := Tryz.func165.trans (congrArg some (by kernel_rfl))
 f314 := Tryz.func194.trans (congrArg some (by kernel_rfl))
 t0 := Tryz.underlying0
 a0 := Tryz.isAgg0
 z0 := Tryz.sizeOf0
 v0 := Tryz.zeroValue0
 t3 := Tryz.underlying3
 a3 := Tryz.isAgg3
 z3 := Tryz.sizeOf3
 v3 := Tryz.zeroValue3
 t4 := Tryz.underlying4
 a4 := Tryz.isAgg4
 z4 := Tryz.sizeOf4
 v4 := Tryz.zeroValue4
 t5 := Tryz.underlying5
 a5 := Tryz.isAgg5
 z5 := Tryz.sizeOf5
 v5 := Tryz.zeroValue5
 t9 := Tryz.underlying9
 a9 := Tryz.isAgg9
 z9 := Tryz.sizeOf9
 v9 := Tryz.zeroValue9
 t21 := Tryz.underlying21
 a21 := Tryz.isAgg21
 z21 := Tryz.sizeOf21
 v21 := Tryz.zeroValue21
 t31 := Tryz.underlying48
 a31 := Tryz.isAgg48
 z31 := Tryz.sizeOf48
 v31 := Tryz.zeroValue48
 t46 := Tryz.underlying139
 a46 := Tryz.isAgg139
 z46 := Tryz.sizeOf139
 v46 := Tryz.zeroValue139
 t51 := Tryz.underlying193
 a51 := Tryz.isAgg193
 z51 := Tryz.sizeOf193
 v51 := Tryz.zeroValue193
 t105 := Tryz.underlying175
 a105 := Tryz.isAgg175
 z105 := Tryz.sizeOf175
 v105 := Tryz.zeroValue175
 t119 := Tryz.underlying206
 a119 := Tryz.isAgg206
 z119 := Tryz.sizeOf206
 t138 := Tryz.underlying208
 a138 := Tryz.isAgg208
 z138 := Tryz.sizeOf208
 v138 := Tryz.zeroValue208
 t139 := Tryz.underlying209
 a139 := Tryz.isAgg209
 z139 := Tryz.sizeOf209
 v139 := Tryz.zeroValue209
 t146 := Tryz.underlying194
 a146 := Tryz.isAgg194
 z146 := Tryz.sizeOf194
 v146 := Tryz.zeroValue194
 g1 := by kernel_rfl
 g3 := by kernel_rfl
 g4 := by kernel_rfl }
open Go.RowKit Go.Lib in
theorem Tryz.strings_Split (s sep : ByteArray) (m : Int) (w : World) (hs : s.size < 4294967281) (hm : w.cell? ⟨0, 0, none⟩ = some (.int .i64 m)) (h1 : 1 ≤ sep.size) :
  Calls Tryz.prog 146 #[.string s, .string sep] w fun e w' =>
   e = .returned (.slice (some ⟨w.heap.size, 0, none⟩) (Lib.countB s sep + 1) (Lib.countB s sep + 1)) ∧ w' = w.alloc (.cells ((Lib.splitB sep 0 (Lib.countB s sep) s).map Value.string).toArray 9) := Any.strings_Split Tryz.lays146 (by kernel_rfl) s sep m w hs hm h1
end Go.Proofs
/- Contracts: numbers and versions, written and read. -/
namespace Go.Proofs.YtbgcaneflfdddaaGreatDoor
open Go.RowKit Go
variable [GC]
def bs (l : List UInt8) : ByteArray := ⟨l.toArray⟩
@[simp] theorem bs_toList (l : List UInt8) : (bs l).data.toList = l := by simp [bs]
theorem bs_data (s : ByteArray) : bs s.data.toList = s := by simp [bs]
@[simp] theorem bs_size (l : List UInt8) : (bs l).size = l.length := by simp [bs, ByteArray.size]
theorem bs_inj {l m : List UInt8} (h : bs l = bs m) : l = m := by have := congrArg (fun s : ByteArray => s.data.toList) h; simpa using this
@[simp] theorem bs_eq (l m : List UInt8) : bs l = bs m ↔ l = m := ⟨bs_inj, fun h => by rw [h]⟩
theorem bs_append (l m : List UInt8) : bs l ++ bs m = bs (l ++ m) := by
 apply ByteArray.ext
 simp [bs]
class HasPow : Prop where
 h : ∀ w : World, GInv w → GHas w 3 fun cs => cs = (Lib.pow10Tab.map fun z => Value.int .u64 z).toArray
class HasMax : Prop where
 h : ∀ w : World, GInv w → GHas w 0 fun cs => ∃ m, cs[0]? = some (Value.int .i64 m)
class HasErr : Prop where
 h : ∀ w : World, GInv w → GHas w 1 fun cs => ∃ tp p, cs = #[.iface tp p]
theorem GHas.cell {w : World} {g : Nat} {p : Array Value → Prop} (h : GHas w g p) : ∃ cs, p cs ∧ ∀ i : Nat, w.cell? ⟨g, i, none⟩ = cs[i]? := by
 obtain ⟨cs, t, f, h1, h2⟩ := h
 exact ⟨cs, h2, fun i => by simp [World.cell?, h1]⟩
theorem c_Itoa [HasPow] {n : Nat} (h : n < 1000) : Fun Tryz.prog 154 none [.int .i64 n] (.str (bs (dig3 n))) [] := by
 refine Fun.of_callsG (by kernel_rfl) fun w M vs hG hr => ?_
 obtain ⟨v, q, rfl, ⟨rfl, _⟩, rfl⟩ := hr
 have c := Any.strconv_Itoa Tryz.laysM171 n (by omega) (by omega) w (by
  obtain ⟨cs, t, f, h1, rfl⟩ := HasPow.h w hG.2.1
  unfold Lib.TabIs World.var?
  rw [show Tryz.prog.globalNamed _ = some 3 by kernel_rfl]
  simp [h1])
 refine c.mono ?_
 rintro e w' ⟨rfl, k, os, rfl⟩
 have hl := dig3_le h
 refine ⟨_, rfl, ⟨?_, by rw [bs_size]; unfold maxLen; omega⟩, ?_⟩
 ·unfold Lib.itoa
  rw [if_neg (by omega), Int.toNat_natCast, dec3 h]; rfl
 ·exact ⟨rfl, rfl, rfl, by simp [Go.Sort.grow], fun j hj => by simp [Go.Sort.grow, Array.getElem?_append, hj]⟩
theorem c_impl_FormatNumber [HasPow] {n : Nat} (h : n < 1000) : Fun Tryz.prog 144 none [.int .i64 n] (.str (bs (dig3 n))) [] := by
 refine Fun.ofV vc_impl_FormatNumber_ok ty_impl_FormatNumber_ok rfl ?_ (fun hfit => ?_)
 ·simp [ty_impl_FormatNumber, HasTys, HasVT, HasV1, HasTy]
 unfold vc_impl_FormatNumber
 ((first | refine den_call ?_ (c_Itoa h) (trivial) ?_ | refine den_callR ?_ (c_Itoa h) (trivial) ?_ | refine den_call ?_ (.ofR (c_Itoa h)) (trivial) ?_); (focus (simp only [VC.den, E.den, dEq, gsH_nil, and_true]; try exact rfl)); (simp only [cA]))
 exact den_ret rfl
theorem dig3_step {n : Nat} (h1 : ¬ n < 10) (h2 : n < 1000) : dig3 n = dig3 (n / 10) ++ [UInt8.ofNat (48 + n % 10)] := by
 rw [← dec3 h2, ← dec3 (n := n / 10) (by omega), Lib.decDigits, dif_neg h1]
theorem digit_den (n : Nat) : strOfNums [IntKind.u8.wrap (IntKind.i64.wrap (48 + (n : Int).tmod 10))] = bs [UInt8.ofNat (48 + n % 10)] := by
 have h1 : (n : Int).tmod 10 = ((n % 10 : Nat) : Int) := by rw [Int.tmod_eq_emod_of_nonneg (by omega)]; omega
 rw [h1, wrap_i64 (by omega) (by omega)]
 have h2 : IntKind.u8.wrap (48 + ((n % 10 : Nat) : Int)) = ((48 + n % 10 : Nat) : Int) := by
  simp only [IntKind.wrap, IntKind.bits, IntKind.signed]
  simp
  omega
 rw [h2]
 unfold strOfNums bs
 simp only [List.map_cons, List.map_nil, Int.toNat_natCast]
theorem quo_ten (n : Nat) (h : n < 1000) : arI .quo .i64 n 10 = ((n / 10 : Nat) : Int) := by
 simp only [arI]
 have h1 : (n : Int).tdiv 10 = ((n / 10 : Nat) : Int) := by rw [Int.tdiv_eq_ediv_of_nonneg (by omega)]; omega
 rw [h1, wrap_i64 (by omega) (by omega)]
theorem c_spec_FormatNumber : ∀ {n : Nat}, n < 1000 → Fun Tryz.prog 152 none [.int .i64 n] (.str (bs (dig3 n))) [] := by
 intro n
 induction n using Nat.strongRecOn with
 | ind n ih =>
  intro hn
  have hb : bytesD (.sl ([[D.int .u8 (IntKind.u8.wrap (arI .add .i64 48 (arI .rem .i64 (n : Int) 10)))]])) = bs [UInt8.ofNat (48 + n % 10)] := by
   rw [← digit_den]; rfl
  refine Fun.ofV vc_spec_FormatNumber_ok ty_spec_FormatNumber_ok rfl ?_ (fun hfit => ?_)
  ·simp [ty_spec_FormatNumber, HasTys, HasVT, HasV1, HasTy]
  unfold vc_spec_FormatNumber
  refine den_ite (fun h => ?_) (fun _ => ?_)
  ·simp [E.den, cmpI] at h
  refine den_ite (fun h => ?_) (fun _ => ?_)
  ·simp [E.den, cmpI] at h; omega
  refine den_cond (fun _ => rfl) ?_
  refine den_ite (fun h => ?_) (fun h => ?_)
  ·simp [E.den, cmpI] at h
   refine den_cond (fun _ => rfl) ?_
   refine den_call (xs := [.int .i64 ((n / 10 : Nat) : Int)]) ?_ (ih (n / 10) (by omega) (by omega)) trivial ?_
   ·simp [E.den, quo_ten n hn]
   refine den_cond (fun _ => ?_) (den_ret ?_)
   ·simp only [E.den, dEq, iEq, sEq]
    rw [hb, bs_size, bs_size]
    have := dig3_le (n := n / 10) (by omega)
    simp; unfold maxLen; omega
   ·simp only [E.den, dEq, iEq, sEq]
    rw [hb, bs_append, dig3_step (n := n) (by omega) hn]
  ·simp [E.den, cmpI] at h
   refine den_ret ?_
   simp only [E.den, dEq, iEq, sEq]
   rw [hb]
   have : dig3 n = [UInt8.ofNat (48 + n % 10)] := by unfold dig3; rw [if_pos (by omega)]; congr; omega
   rw [this]
def numI (s : ByteArray) : Int := match numO s.data.toList with | some n => n | none => 0
def numK (s : ByteArray) : Bool := (numO s.data.toList).isSome
def numD (s : ByteArray) : D := .tup [.int .i64 (numI s), .bool (numK s)]
theorem ty_numD (s : ByteArray) : HasVT tbl.tab (.tup [.c (.int .i64), .c .bool]) (numD s) := ⟨rfl, trivial, trivial⟩
theorem numI_some {s : ByteArray} {n : Nat} (h : numO s.data.toList = some n) : numI s = n := by unfold numI; rw [h]
theorem numK_some {s : ByteArray} {n : Nat} (h : numO s.data.toList = some n) : numK s = true := by unfold numK; rw [h]; rfl
theorem numI_none {s : ByteArray} (h : numO s.data.toList = none) : numI s = 0 := by unfold numI; rw [h]
theorem numK_none {s : ByteArray} (h : numO s.data.toList = none) : numK s = false := by unfold numK; rw [h]; rfl
theorem atoi_num {l : List UInt8} {n : Nat} (h : numO l = some n) : Lib.atoi l = some (n : Int) := by
 obtain ⟨h1, rfl⟩ := numO_some.1 h
 exact dig3_atoi h1
theorem size_data (s : ByteArray) : s.data.toList.length = s.size := Array.length_toList
theorem bytes_below {w w' : World} {e : TypeId} {t : ByteArray} (h : w' = Lib.bytesWorld w e t) : Below w.heap.size w w' := by
 subst h
 exact Lib.bytesWorld_below _ _ _
theorem R_num {w : World} {M : Addr → Prop} {n : Int} {b : Bool} (h0 : -9223372036854775808 ≤ n) (h1 : n ≤ 9223372036854775807) : R w M (.tup [.int .i64 n, .bool b]) (.tuple #[.int .i64 n, .bool b]) :=
 ⟨_, rfl, _, _, rfl, ⟨rfl, h0, h1⟩, _, _, rfl, rfl, rfl⟩
theorem R_num0 {w : World} {M : Addr → Prop} {s : ByteArray} (h : numO s.data.toList = none) : R w M (numD s) (.tuple #[.int .i64 0, .bool false]) := by
 unfold numD; rw [numI_none h, numK_none h]; exact R_num (by omega) (by omega)
theorem R_num1 {w : World} {M : Addr → Prop} {s : ByteArray} {n : Nat} (h : numO s.data.toList = some n) : R w M (numD s) (.tuple #[.int .i64 n, .bool true]) := by
 have := (numO_some.1 h).1
 unfold numD; rw [numI_some h, numK_some h]; exact R_num (by omega) (by omega)
theorem c_impl_ParseNumber [HasPow] [HasErr] (s : ByteArray) : Fun Tryz.prog 148 none [.str s] (numD s) [] := by
 refine Fun.of_callsG (by kernel_rfl) fun w M vs hG hr => ?_
 obtain ⟨v, q, rfl, ⟨rfl, hsm⟩, rfl⟩ := hr
 have hM := hG.1
 have no0 := fun W (h : numO s.data.toList = none) => R_num0 (w := W) (M := M) h
 by_cases hl : 1 ≤ s.size ∧ s.size ≤ 3
 ·have a1 : ((s.size : Int) < 1) = False := by simp; omega
  have a2 : ((s.size : Int) > 3) = False := by simp; omega
  cases ha : Lib.atoi s.data.toList with
  | none =>
   have hn : numO s.data.toList = none := by
    cases h : numO s.data.toList with
    | none => rfl
    | some n => rw [atoi_num h] at ha; cases ha
   obtain ⟨cs, ⟨tp, p, rfl⟩, hc⟩ := (HasErr.h w hG.2.1).cell
   have hv := hc 0
   simp at hv
   have HC := Lib.hid (fun W (hW : W = w) => Tryz.strconv_Atoi_err s (by omega) ha (.iface tp p) W (by rw [hW]; exact hv) (Or.inr ⟨tp, p, rfl⟩))
   have HN := Lib.hid hn
   clear hv hc ha hn
   go_enter Tryz.func148, Tryz.ntmps148
   go_wp2_with (go_at_call 158; refine (HC.out _ rfl).mono ?_; rintro e w1 ⟨N0, rfl, hb0, hb1, hb⟩)
   go_ret2
   exact ⟨_, rfl, no0 _ HN.out, hb⟩
  | some z =>
   have HC := Lib.hid (fun W => Tryz.strconv_Atoi s z (by omega) ha W)
   by_cases hz : 0 ≤ z ∧ z ≤ 999
   ·obtain ⟨n, rfl⟩ := Int.eq_ofNat_of_zero_le hz.1
    have hn : n < 1000 := by omega
    have b1 : (0 : Int) ≤ (n : Int) := by omega
    have b2 : (n : Int) ≤ 999 := by omega
    have HF := Lib.hid (fun (w0 : World) (hb : Below w.heap.size w w0) => (c_impl_FormatNumber hn).2 w0 M 0 [.int .i64 n] (hG.below hb fun p hp => Nat.lt_of_lt_of_le (hM p hp) hb.size) (Rs.one ⟨rfl, by show (-9223372036854775808 : Int) ≤ n; omega, by show (n : Int) ≤ 9223372036854775807; omega⟩) (fun cs h => by cases h))
    have hne : ((bs (dig3 n)).toList == s.toList) = decide (numO s.data.toList = some n) := by
     rw [toList_eqB]
     by_cases h : numO s.data.toList = some n
     ·have := (numO_some.1 h).2
      simp [h, this, bs_data]
     ·have : bs (dig3 n) ≠ s := fun e => h (by rw [← e, bs_toList]; exact numO_dig hn)
      simp [h, this]
    by_cases hq : numO s.data.toList = some n
    ·have HQ := Lib.hid hq
     have e1 : ((bs (dig3 n)).toList == s.toList) = true := by rw [hne]; simp [hq]
     clear hne hq ha
     go_enter Tryz.func148, Tryz.ntmps148
     go_wp2_with (first | (go_at_call 158; refine (HC.out _).mono ?_; rintro e w1 ⟨rfl, t1, hb1⟩; replace hb1 := bytes_below hb1) | (go_at_call 144; refine (HF.out _ (by go_grown)).mono ?_; rintro e w2 ⟨v2, rfl, ⟨rfl, -⟩, hb2, -⟩; replace hb2 := hb2.to_below) | go_in)
     go_ret2
     exact ⟨_, rfl, R_num1 HQ.out, bt hb1 hb2⟩
    ·have e1 : ((bs (dig3 n)).toList == s.toList) = false := by rw [hne]; simp [hq]
     have hno : numO s.data.toList = none := by
      cases h : numO s.data.toList with
      | none => rfl
      | some m =>
       have := atoi_num h
       rw [ha] at this
       have e : n = m := by have := Option.some.inj this; omega
       subst e
       exact absurd h hq
     have HN := Lib.hid hno
     clear hne hq ha hno
     go_enter Tryz.func148, Tryz.ntmps148
     go_wp2_with (first | (go_at_call 158; refine (HC.out _).mono ?_; rintro e w1 ⟨rfl, t1, hb1⟩; replace hb1 := bytes_below hb1) | (go_at_call 144; refine (HF.out _ (by go_grown)).mono ?_; rintro e w2 ⟨v2, rfl, ⟨rfl, -⟩, hb2, -⟩; replace hb2 := hb2.to_below) | go_in)
     go_ret2
     exact ⟨_, rfl, no0 _ HN.out, bt hb1 hb2⟩
   ·have hno : numO s.data.toList = none := by
     cases h : numO s.data.toList with
     | none => rfl
     | some m =>
      have h1 := (numO_some.1 h).1
      have := atoi_num h
      rw [ha] at this
      have e : z = (m : Int) := Option.some.inj this
      subst e
      exact absurd ⟨by omega, by omega⟩ hz
    have HN := Lib.hid hno
    have e1 : (decide (0 ≤ z) && decide (z ≤ 999)) = false := by
     rw [Bool.and_eq_false_iff]; simp; omega
    by_cases hz0 : 0 ≤ z
    ·have b2 : (z ≤ 999) = False := by simp; omega
     clear e1 hz hno ha
     go_enter Tryz.func148, Tryz.ntmps148
     go_wp2_with (first | (go_at_call 158; refine (HC.out _).mono ?_; rintro e w1 ⟨rfl, t1, hb1⟩; replace hb1 := bytes_below hb1) | go_in)
     go_ret2
     exact ⟨_, rfl, no0 _ HN.out, hb1⟩
    ·have b2 : (0 ≤ z) = False := by simp; omega
     clear e1 hz hno hz0 ha
     go_enter Tryz.func148, Tryz.ntmps148
     go_wp2_with (first | (go_at_call 158; refine (HC.out _).mono ?_; rintro e w1 ⟨rfl, t1, hb1⟩; replace hb1 := bytes_below hb1) | go_in)
     go_ret2
     exact ⟨_, rfl, no0 _ HN.out, hb1⟩
 ·have hno : numO s.data.toList = none := by
   cases h : numO s.data.toList with
   | none => rfl
   | some m =>
    obtain ⟨h1, h2⟩ := numO_some.1 h
    have h3 := dig3_pos h1
    have h4 := dig3_le h1
    rw [h2, size_data] at h3 h4
    exact absurd ⟨h3, h4⟩ hl
  have HN := Lib.hid hno
  clear hno
  by_cases h0 : s.size = 0
  ·have a1 : ((s.size : Int) < 1) = True := by simp; omega
   clear hl h0
   go_enter Tryz.func148, Tryz.ntmps148
   go_wp2_with fail
   go_ret2
   exact ⟨_, rfl, no0 _ HN.out, Below.refl _ _⟩
  ·have a1 : ((s.size : Int) < 1) = False := by simp; omega
   have a2 : ((s.size : Int) > 3) = True := by simp; omega
   clear hl h0
   go_enter Tryz.func148, Tryz.ntmps148
   go_wp2_with fail
   go_ret2
   exact ⟨_, rfl, no0 _ HN.out, Below.refl _ _⟩
end Go.Proofs.YtbgcaneflfdddaaGreatDoor
/- Contracts: versions as texts. -/
namespace Go.Proofs.YtbgcaneflfdddaaGreatDoor
open Go.RowKit Go
variable [GC]
end Go.Proofs.YtbgcaneflfdddaaGreatDoor
/- A row of one's own that is filled place by place ('out := make([]T, n); for i .. { out[i] = .. }'), on abstract data. No program in sight. -/
namespace Go.Proofs.YtbgcaneflfdddaaGreatDoor
open Go.RowKit
variable [GC]
def own (M : Addr → Prop) (g : Nat) : Addr → Prop := fun p => M p ∨ p.block = g
section
variable {w w1 : World} {M : Addr → Prop} {g : Nat} {T : TypeId} {len n k : Nat} {rows : List (List D)}
end
end Go.Proofs.YtbgcaneflfdddaaGreatDoor
/- The laws' helpers: sizes, copies, equality. Written by gen3.py. -/
namespace Go.Proofs.YtbgcaneflfdddaaGreatDoor
open Go.RowKit Go
variable [GC]
class Sm (α : Type) where
 sm : α → Prop
instance : Sm ByteArray := ⟨fun s => s.size ≤ 1048576⟩
instance {α : Type} [Inhabited α] [Sm α] : Sm (List α) := ⟨fun l => l.length ≤ 1048576 ∧ ∀ k, k < l.length → Sm.sm (nth l k)⟩
instance : Sm Layer := ⟨fun x => Sm.sm x.name⟩
instance : Sm Cell := ⟨fun x => Sm.sm x.key⟩
instance : Sm Core := ⟨fun x => Sm.sm x.kind ∧ Sm.sm x.cells⟩
instance : Sm Call := ⟨fun x => Sm.sm x.method ∧ Sm.sm x.key ∧ Sm.sm x.text⟩
instance : Sm Reply := ⟨fun x => Sm.sm x.text⟩
instance : Sm Part := ⟨fun x => Sm.sm x.core ∧ Sm.sm x.layers⟩
end Go.Proofs.YtbgcaneflfdddaaGreatDoor
/- Contracts: texts joined; faces as texts. -/
namespace Go.Proofs.YtbgcaneflfdddaaGreatDoor
open Go.RowKit Go
variable [GC]
def joinB (l : List ByteArray) (sep : ByteArray) : ByteArray := ⟨(Lib.join (l.map (·.data.toList)) sep.data.toList).toArray⟩
theorem joinB_size (l : List ByteArray) (sep : ByteArray) : (joinB l sep).size = (Lib.join (l.map (·.data.toList)) sep.data.toList).length := bs_size _
theorem bs_of (s : ByteArray) : bs s.data.toList = s := by simp [bs]
theorem joinB_succ {l : List ByteArray} {k : Nat} (h : k < l.length) (sep : ByteArray) : joinB (l.take (k + 1)) sep = if k = 0 then nth l k else joinB (l.take k) sep ++ sep ++ nth l k := by
 cases l with
 | nil => simp at h
 | cons x r =>
  cases k with
  | zero =>
   rw [if_pos rfl]
   show bs (Lib.join [x.data.toList] _) = _
   rw [Lib.join_one, bs_of]; rfl
  | succ j =>
   rw [if_neg (by omega)]
   have hj : j < r.length := by simpa using h
   have e : (r.map (·.data.toList))[j]? = some ((nth (x :: r) (j + 1)).data.toList) := by
    simp [nth, hj]
   simp only [joinB, List.take_succ_cons, List.map_cons, List.map_take, Lib.join_cons]
   rw [Lib.joinTail_take_succ _ _ _ _ e]
   apply ByteArray.ext
   simp [ByteArray.data_append]
theorem joinB_le (l : List ByteArray) (sep : ByteArray) (k : Nat) : (joinB (l.take k) sep).size ≤ (joinB l sep).size := by
 rw [joinB_size, joinB_size]
 cases l with
 | nil => simp
 | cons x r =>
  cases k with
  | zero => simp [Lib.join_nil]
  | succ j =>
   simp only [List.take_succ_cons, List.map_cons, List.map_take, Lib.join_cons, List.length_append]
   have := Lib.joinTail_take_le sep.data.toList (r.map (·.data.toList)) j
   omega
theorem joinB_bound {l : List ByteArray} {sep : ByteArray} {n : Nat} (h : ∀ k, k < l.length → (nth l k).size ≤ n) : (joinB l sep).size ≤ l.length * (n + sep.size) := by
 have : ∀ k, k ≤ l.length → (joinB (l.take k) sep).size ≤ k * (n + sep.size) := by
  intro k
  induction k with
  | zero => intro _; simp [joinB_size, Lib.join_nil]
  | succ k ih =>
   intro hk
   have h1 := ih (by omega)
   have h2 := h k (by omega)
   rw [joinB_succ (by omega), Nat.add_mul]
   split
   ·omega
   ·simp only [ByteArray.size_append]; omega
 simpa using this l.length (Nat.le_refl _)
theorem c_Join (l : List ByteArray) (sep : ByteArray) (hN : l.length ≤ 140737488355328) (hlen : (joinB l sep).size ≤ 140737488355328) : Fun Tryz.prog 155 none [encS l, .str sep] (.str (joinB l sep)) [] := by
 refine Fun.of_callsG (by kernel_rfl) fun w M vs hG hr => ?_
 obtain ⟨v, q, rfl, ⟨a, len, cap, rfl, rfl, hc, hm, ha, hb⟩, v2, q2, rfl, ⟨rfl, _⟩, rfl⟩ := hr
 have hsz : (joinB l sep).size ≤ maxLen := by unfold maxLen; omega
 by_cases h0 : l = []
 ·subst h0
  refine (Tryz.strings_Join_none a cap sep w).mono ?_
  rintro e w' ⟨rfl, rfl⟩
  exact ⟨_, rfl, ⟨rfl, hsz⟩, Below.refl _ _⟩
 ·have hpos : 0 < l.length := List.length_pos_iff.2 h0
  simp only [List.length_map] at hc hb ⊢
  cases a with
  | none => have := ha rfl; omega
  | some ad =>
   obtain ⟨b, o, s⟩ := ad
   obtain ⟨h1, h2⟩ := hb b o s rfl
   obtain rfl := h1 hpos
   have hcell : ∀ (j : Nat) x, l[j]? = some x → w.cell? ⟨b, o + j, none⟩ = some (.string x) := fun j x hx => by
    have h3 := Rws.get (n := 1) h2 (fun r hr => by obtain ⟨y, _, rfl⟩ := List.mem_map.1 hr; rfl) (i := j) (r := [.str x]) (by rw [List.getElem?_map, hx]; rfl)
    obtain ⟨⟨v, h4, _, rfl, _⟩, _⟩ := h3
    simpa using h4
   have hbk : b < w.heap.size := by
    have := hcell 0 _ (List.getElem?_eq_getElem hpos)
    unfold World.cell? at this
    rcases Nat.lt_or_ge b w.heap.size with h | h
    ·exact h
    ·simp only [Array.getElem?_eq_none h] at this; cases this
   refine (Tryz.strings_Join b o cap l sep w hcell hbk hN hc (by rw [← joinB_size]; exact hlen)).mono ?_
   rintro e w' ⟨rfl, hw⟩
   exact ⟨_, rfl, ⟨rfl, hsz⟩, hw⟩
theorem c_impl_JoinWith (l : List ByteArray) (sep : ByteArray) (hN : l.length ≤ 140737488355328) (hlen : (joinB l sep).size ≤ 140737488355328) : Fun Tryz.prog 145 none [encS l, .str sep] (.str (joinB l sep)) [] := by
 refine Fun.ofV vc_impl_JoinWith_ok ty_impl_JoinWith_ok rfl ?_ (fun hfit => ?_)
 ·exact ⟨ty_strS l, trivial, trivial⟩
 unfold vc_impl_JoinWith
 ((first | refine den_call ?_ (c_Join l sep hN hlen) (trivial) ?_ | refine den_callR ?_ (c_Join l sep hN hlen) (trivial) ?_ | refine den_call ?_ (.ofR (c_Join l sep hN hlen)) (trivial) ?_); (focus (simp only [VC.den, E.den, dEq, gsH_nil, and_true]; try exact rfl)); (simp only [cA]))
 exact den_ret rfl
theorem c_spec_JoinWith (l : List ByteArray) (sep : ByteArray) (hN : l.length ≤ 140737488355328) (hlen : (joinB l sep).size ≤ 140737488355328) : Fun Tryz.prog 153 none [encS l, .str sep] (.str (joinB l sep)) [] := by
 refine Fun.ofV vc_spec_JoinWith_ok ty_spec_JoinWith_ok rfl ?_ (fun hfit => ?_)
 ·exact ⟨ty_strS l, trivial, trivial⟩
 unfold vc_spec_JoinWith
 refine den_for l.length (fun k => [.str (joinB (l.take k) sep), .int .i64 k]) (fun _ => True) rfl trivial ?_
 intro k hk hI _
 simp only [cA]
 refine den_ite (fun h2 => ?_) (fun h2 => ?_)
 ·simp only [E.den, dEq, iEq, sEq] at h2
  have h2 : k < l.length := by simp at h2; exact h2
  (refine den_cond (fun hg => ?_) ?_; (focus (simp only [gsH, gE, E.den, dEq, iEq, sEq] at hg ⊢; (try simp only [D.bool.injEq] at hg); (try simp only [D.bool.injEq]); grind)))
  have hle := joinB_le l sep (k + 1)
  have e := joinB_succ h2 sep
  refine den_ite (fun h3 => ?_) (fun h3 => ?_)
  ·simp only [E.den, dEq, iEq, sEq] at h3
   have h3 : k ≠ 0 := by simp at h3; omega
   rw [if_neg h3] at e
   rw [e, ByteArray.size_append, ByteArray.size_append] at hle
   refine den_cond (fun _ => ?_) ?_
   ·simp only [E.den, dEq, iEq, sEq]; simp [maxLen]; exact decide_eq_true (by omega)
   refine den_cond (fun _ => ?_) ?_
   ·simp only [E.den, dEq, iEq, sEq, row_str, cells_str]; simp [maxLen, ByteArray.size_append]; omega
   refine den_next h2 ?_ trivial
   simp only [E.den, dEq, iEq, sEq, row_str, cells_str]
   rw [ar_add (by omega) (by omega), e]; rfl
  ·simp only [E.den, dEq, iEq, sEq] at h3
   have h3 : k = 0 := by simp at h3; omega
   subst h3
   rw [if_pos rfl] at e
   rw [e] at hle
   refine den_cond (fun _ => ?_) ?_
   ·simp only [E.den, dEq, iEq, sEq, row_str, cells_str]; simp [maxLen, joinB_size, Lib.join_nil]; omega
   refine den_next h2 ?_ trivial
   simp only [E.den, dEq, iEq, sEq, row_str, cells_str]
   rw [e]
   have : joinB [] sep ++ nth l 0 = nth l 0 := by
    apply ByteArray.ext
    simp [joinB, Lib.join_nil, ByteArray.data_append]
   rw [this]; rfl
 ·simp only [E.den, dEq, iEq, sEq] at h2
  obtain rfl : k = l.length := by simp at h2; omega
  refine den_ret ?_
  simp only [E.den, dEq, iEq, sEq]
  rw [List.take_length]
/-! Arrays of texts that the program's variables hold -/
end Go.Proofs.YtbgcaneflfdddaaGreatDoor
/- Contracts: entries as texts. -/
namespace Go.Proofs.YtbgcaneflfdddaaGreatDoor
open Go.RowKit Go
variable [GC]
theorem dec_ok {p : Prop} [Decidable p] (h : p) : D.bool (decide p) = .bool true := by simp [h]
theorem nameB_le {s : ByteArray} (h : nameB s = true) : s.size ≤ 8 := by
 unfold nameB at h; simp at h; omega
theorem map_take_succ {α β : Type} [Inhabited α] (f : α → β) {l : List α} {k : Nat} (h : k < l.length) : (l.take (k + 1)).map f = (l.take k).map f ++ [f (nth l k)] := by
 rw [List.take_succ_eq_append_getElem h, List.map_append]
 simp [nth, h]
/-! What a recipe's text may be -/
end Go.Proofs.YtbgcaneflfdddaaGreatDoor
/- Contracts: texts cut and divided into pieces. -/
namespace Go.Proofs.YtbgcaneflfdddaaGreatDoor
open Go.RowKit Go
variable [GC]
theorem cut_len (s sep : List UInt8) : (Lib.cut s sep).1.length ≤ s.length ∧ (Lib.cut s sep).2.1.length ≤ s.length := by
 unfold Lib.cut
 split
 ·simp; omega
 ·simp
def cutD3 (s : ByteArray) (sep : List UInt8) : D := .tup [.str (bs (Lib.cut s.data.toList sep).1), .str (bs (Lib.cut s.data.toList sep).2.1), .bool (Lib.cut s.data.toList sep).2.2]
theorem c_Cut [HasMax] (s : ByteArray) (sep : List UInt8) (hs : s.size < 4294967281) : Fun Tryz.prog 147 none [.str s, .str (bs sep)] (cutD3 s sep) [] := by
 refine Fun.of_callsG (by kernel_rfl) fun w M vs hG hr => ?_
 obtain ⟨v, q, rfl, ⟨rfl, _⟩, v2, q2, rfl, ⟨rfl, _⟩, rfl⟩ := hr
 obtain ⟨cs, ⟨m, hcs⟩, hc⟩ := (HasMax.h w hG.2.1).cell
 have hm := hc 0
 rw [hcs] at hm
 have h := cut_len s.data.toList sep
 rw [size_data] at h
 refine (Tryz.strings_Cut s (bs sep) m w hs hm).mono ?_
 rintro e w' ⟨rfl, k, rfl⟩
 rw [bs_toList]
 refine ⟨_, rfl, ⟨_, rfl, _, _, rfl, ⟨rfl, ?_⟩, _, _, rfl, ⟨rfl, ?_⟩, _, _, rfl, rfl, rfl⟩, ⟨rfl, rfl, rfl, Nat.le_refl _, fun _ _ => rfl⟩⟩
 ·rw [bs_size]; unfold maxLen; omega
 ·rw [bs_size]; unfold maxLen; omega
def pieces (s sep : ByteArray) : List ByteArray := (Lib.split s.data.toList sep.data.toList).map bs
theorem map_bs (l : List ByteArray) : (l.map (·.data.toList)).map bs = l := by
 rw [List.map_map]
 conv => rhs; rw [← List.map_id l]
 exact List.map_congr_left fun x _ => bs_data x
theorem mem_lens {x : List UInt8} : ∀ {l : List (List UInt8)}, x ∈ l → x.length ≤ Lib.lens l
 | y :: r, h => by
  have e : Lib.lens (y :: r) = y.length + Lib.lens r := by simp [Lib.lens]
  rw [e]
  rcases List.mem_cons.1 h with rfl | h
  ·omega
  ·have := mem_lens h
   omega
theorem split_size {s sep : List UInt8} (h : sep ≠ []) : (Lib.split s sep).length ≤ s.length + 1 ∧ ∀ x ∈ Lib.split s sep, x.length ≤ s.length := by
 obtain ⟨h1, h2⟩ := join_split h s.length s (Nat.le_refl _)
 have hpos : 0 < sep.length := List.length_pos_iff.2 h
 cases hl : Lib.split s sep with
 | nil => exact absurd hl h2
 | cons y r =>
  rw [hl, Lib.join_cons] at h1
  have e := congrArg List.length h1
  rw [List.length_append, Lib.joinTail_length] at e
  have : r.length ≤ sep.length * r.length := Nat.le_mul_of_pos_left _ hpos
  refine ⟨by simp; omega, fun x hx => ?_⟩
  rcases List.mem_cons.1 hx with rfl | hx
  ·omega
  ·have := mem_lens hx
   omega
theorem pieces_size {s sep : ByteArray} (h : 1 ≤ sep.size) : (pieces s sep).length ≤ s.size + 1 ∧ ∀ x ∈ pieces s sep, x.size ≤ s.size := by
 have hne : sep.data.toList ≠ [] := fun e => by
  have : sep.size = 0 := by rw [← size_data, e]; rfl
  omega
 obtain ⟨h1, h2⟩ := split_size (s := s.data.toList) hne
 rw [size_data] at h1
 refine ⟨by unfold pieces; rw [List.length_map]; exact h1, fun x hx => ?_⟩
 obtain ⟨y, hy, rfl⟩ := List.mem_map.1 hx
 have := h2 y hy
 rw [size_data] at this
 rw [bs_size]; exact this
theorem piece_size {s sep : ByteArray} (h : 1 ≤ sep.size) {k : Nat} (hk : k < (pieces s sep).length) : (nth (pieces s sep) k).size ≤ s.size := (pieces_size h).2 _ (nth_mem hk)
theorem pieces_eq (s sep : ByteArray) : Lib.splitB sep 0 (Lib.countB s sep) s = pieces s sep := by
 unfold pieces
 rw [← map_bs (Lib.splitB sep 0 (Lib.countB s sep) s), Lib.splitB_data]
 rfl
theorem cR_Split [HasMax] (s sep : ByteArray) (hs : s.size < 4294967281) (h1 : 1 ≤ sep.size) : FunR Tryz.prog 146 none [.str s, .str sep] (encS (pieces s sep)) [] [(0, 1)] := by
 refine ⟨by kernel_rfl, fun w M g vs hG hr _ => ?_⟩
 obtain ⟨v, q, rfl, ⟨rfl, _⟩, v2, q2, rfl, ⟨rfl, _⟩, rfl⟩ := hr
 obtain ⟨cs, ⟨m, hcs⟩, hc⟩ := (HasMax.h w hG.2.1).cell
 have hm := hc 0
 rw [hcs] at hm
 obtain ⟨z1, z2⟩ := pieces_size (s := s) h1
 have hlen : Lib.countB s sep + 1 = (pieces s sep).length := by rw [← pieces_eq, Lib.splitB_all sep h1 0 _ s rfl]
 refine (Tryz.strings_Split s sep m w hs hm h1).mono ?_
 rintro e w' ⟨rfl, rfl⟩
 rw [pieces_eq, hlen]
 have hnsp : ∀ p, ¬ RtM (.slice (some ⟨w.heap.size, 0, none⟩) (pieces s sep).length (pieces s sep).length) [(0, 1)] p := by
  rintro p ⟨x, hx, hsp⟩
  simp at hx
  subst hx
  obtain ⟨b, o, s', len, cap, e, q1, q2, q3⟩ := hsp
  have e : Value.slice (some ⟨w.heap.size, 0, none⟩) (pieces s sep).length (pieces s sep).length = .slice (some ⟨b, o, s'⟩) len cap := e
  cases e
  omega
 have hnew : (w.alloc (.cells ((pieces s sep).map Value.string).toArray 9)).heap[w.heap.size]? = some (.cells ((pieces s sep).map Value.string).toArray 9 (0, 0)) := heap_new (by simp)
 refine ⟨_, rfl, R_strs (pieces s sep) hnew rfl rfl (fun o h => ?_) (fun x hx => ?_) ?_, Fr.of_below ((Below.refl _ _).alloc (Nat.le_refl _) _) (Nat.le_refl _), ⟨fun x hx => ?_, fun i j x y hi hj hij => ?_⟩, fun h => by cases h⟩
 ·rcases h with h | h
  ·have := hG.1 _ h
   simp at this
  ·exact hnsp _ h
 ·have := z2 x hx
  unfold maxLen; omega
 ·unfold maxLen; omega
 ·simp at hx
  subst hx
  intro b o s' len cap e hc
  have e : Value.slice (some ⟨w.heap.size, 0, none⟩) (pieces s sep).length (pieces s sep).length = .slice (some ⟨b, o, s'⟩) len cap := e
  cases e
  exact ⟨rfl, Nat.le_refl _, _, _, hnew, by simp⟩
 ·have h1 := (List.getElem?_eq_some_iff.1 hi).1
  have h2 := (List.getElem?_eq_some_iff.1 hj).1
  simp at h1 h2
  omega
end Go.Proofs.YtbgcaneflfdddaaGreatDoor
/- Contracts: cells as texts; counting up; what a method wants. -/
namespace Go.Proofs.YtbgcaneflfdddaaGreatDoor
open Go.RowKit Go
variable [GC]
def tEq : ByteArray := ⟨#[61]⟩
def tDash : ByteArray := ⟨#[45]⟩
def tCo : ByteArray := ⟨#[44]⟩
theorem tEq_eq : (⟨#[61]⟩ : ByteArray) = tEq := rfl
theorem tDash_eq : (⟨#[45]⟩ : ByteArray) = tDash := rfl
theorem tCo_eq : (⟨#[44]⟩ : ByteArray) = tCo := rfl
theorem tEq_size : tEq.size = 1 := rfl
theorem tCo_size : tCo.size = 1 := rfl
def cellT (c : Cell) : ByteArray := c.key ++ tEq ++ bs (dig3 c.val.toNat)
def fmtC (l : List Cell) : ByteArray := if cellsB l = true then (if l.length = 0 then tDash else joinB (l.map cellT) tCo) else noText
theorem cellsB_at {l : List Cell} (h : cellsB l = true) {k : Nat} (hk : k < l.length) : nameB (nth l k).key = true ∧ numB (nth l k).val = true := by
 unfold cellsB at h
 simp only [Bool.and_eq_true] at h
 have := allTo_iff.1 h.2 k hk
 unfold cellB at this
 simp only [Bool.and_eq_true] at this
 exact this.1
theorem cellsB_len {l : List Cell} (h : cellsB l = true) : l.length ≤ 4 := by
 unfold cellsB at h
 simp only [Bool.and_eq_true, decide_eq_true_eq] at h
 exact h.1
theorem numB_nat {n : Int} (h : numB n = true) : ∃ m : Nat, n = m ∧ m < 1000 := by
 unfold numB at h
 simp only [Bool.and_eq_true, decide_eq_true_eq] at h
 exact ⟨n.toNat, by omega, by omega⟩
theorem cellT_size {c : Cell} (h1 : nameB c.key = true) (h2 : numB c.val = true) : (cellT c).size ≤ 12 := by
 obtain ⟨m, e, hm⟩ := numB_nat h2
 have := nameB_le h1
 have hl := dig3_le hm
 unfold cellT
 rw [e, Int.toNat_natCast]
 simp only [ByteArray.size_append, tEq_size, bs_size]
 omega
theorem cells_join {l : List Cell} (h : cellsB l = true) : (joinB (l.map cellT) tCo).size ≤ 52 := by
 have h1 := cellsB_len h
 refine Nat.le_trans (joinB_bound (n := 12) fun k hk => ?_) ?_
 ·have hk : k < l.length := by simpa using hk
  have : nth (l.map cellT) k = cellT (nth l k) := by simp [nth, hk]
  rw [this]
  exact cellT_size (cellsB_at h hk).1 (cellsB_at h hk).2
 ·rw [List.length_map, tCo_size]; omega
theorem fmtC_size (l : List Cell) : (fmtC l).size ≤ 52 := by
 unfold fmtC
 split
 ·rename_i h
  split
  ·decide
  ·exact cells_join h
 ·decide
theorem c_impl_FormatCells [HasPow] (l : List Cell) : Fun Tryz.prog 130 none [encS l] (.str (fmtC l)) [] := by
 refine Fun.ofV vc_impl_FormatCells_ok ty_impl_FormatCells_ok rfl ?_ (fun hfit => ?_)
 ·exact ⟨ty_CellS l, trivial⟩
 unfold vc_impl_FormatCells
 ((first | refine den_call ?_ (c_impl_IsCells l) (trivial) ?_ | refine den_callR ?_ (c_impl_IsCells l) (trivial) ?_ | refine den_call ?_ (.ofR (c_impl_IsCells l)) (trivial) ?_); (focus (simp only [VC.den, E.den, dEq, gsH_nil, and_true]; try exact rfl)); (simp only [cA]))
 refine den_ite (fun h => den_ret ?_) (fun h => ?_)
 ·simp only [E.den, dEq, iEq, sEq] at h ⊢
  rw [fmtC, if_neg (by grind)]; rfl
 simp only [E.den, dEq, iEq, sEq] at h
 have h : cellsB l = true := by grind
 have h4 := cellsB_len h
 have hj := cells_join h
 have hml : (l.map cellT).length ≤ 140737488355328 := by rw [List.length_map]; omega
 refine den_ite (fun h0 => den_ret ?_) (fun h0 => ?_)
 ·simp only [E.den, dEq, iEq, sEq] at h0 ⊢
  rw [fmtC, if_pos h, if_pos (by grind)]; rfl
 simp only [E.den, dEq, iEq, sEq] at h0
 have h0 : l.length ≠ 0 := by grind
 refine den_for l.length (fun k => [encS ((l.take k).map cellT), .int .i64 k]) (fun _ => True) rfl trivial ?_
 intro k hk hI _
 simp only [cA]
 refine den_ite (fun g2 => ?_) (fun g2 => ?_)
 ·simp only [E.den, dEq, iEq, sEq] at g2
  have g2 : k < l.length := by simp at g2; exact g2
  obtain ⟨q1, q2⟩ := cellsB_at h g2
  obtain ⟨m, e, hm⟩ := numB_nat q2
  have q3 := nameB_le q1
  have hl := dig3_le hm
  (refine den_cond (fun hg => ?_) ?_; (focus (simp only [gsH, gE, E.den, dEq, iEq, sEq] at hg ⊢; (try simp only [D.bool.injEq] at hg); (try simp only [D.bool.injEq]); grind)))
  (try (refine den_cond (fun _ => ?_) ?_; (focus (simp only [E.den, dEq, iEq, sEq, row_Cell, cells_Cell, tEq_eq]; refine dec_ok ?_; simp only [ByteArray.size_append, tEq_size]; unfold maxLen; omega))))
  ((first | refine den_call ?_ (c_impl_FormatNumber hm) (trivial) ?_ | refine den_callR ?_ (c_impl_FormatNumber hm) (trivial) ?_ | refine den_call ?_ (.ofR (c_impl_FormatNumber hm)) (trivial) ?_); (focus (simp only [VC.den, E.den, dEq, gsH_nil, and_true, row_Cell, cells_Cell, Int.toNat_natCast, e]; try exact rfl)); (simp only [cA]))
  (try (refine den_cond (fun _ => ?_) ?_; (focus (simp only [E.den, dEq, iEq, sEq, row_Cell, cells_Cell, tEq_eq]; refine dec_ok ?_; simp only [ByteArray.size_append, tEq_size, bs_size]; unfold maxLen; omega))))
  refine den_cond (fun _ => ?_) ?_
  ·simp only [E.den, dEq, iEq, sEq]; simp [maxLen]; omega
  refine den_next g2 ?_ trivial
  simp only [E.den, dEq, iEq, sEq, row_Cell, cells_Cell, tEq_eq]
  rw [ar_add (by omega) (by omega), map_take_succ _ g2]
  simp [encS, cells_str, cellT, e]
 ·simp only [E.den, dEq, iEq, sEq] at g2
  obtain rfl : k = l.length := by simp at g2; omega
  ((first | refine den_call ?_ (c_impl_JoinWith (l.map cellT) tCo hml (by omega)) (trivial) ?_ | refine den_callR ?_ (c_impl_JoinWith (l.map cellT) tCo hml (by omega)) (trivial) ?_ | refine den_call ?_ (.ofR (c_impl_JoinWith (l.map cellT) tCo hml (by omega))) (trivial) ?_); (focus (simp only [VC.den, E.den, dEq, gsH_nil, and_true, tCo_eq, List.take_length]; try exact rfl)); (simp only [cA]))
  refine den_ret ?_
  simp only [E.den, dEq, iEq, sEq]
  rw [fmtC, if_pos h, if_neg h0]
theorem c_spec_FormatCells (l : List Cell) : Fun Tryz.prog 143 none [encS l] (.str (fmtC l)) [] := by
 refine Fun.ofV vc_spec_FormatCells_ok ty_spec_FormatCells_ok rfl ?_ (fun hfit => ?_)
 ·exact ⟨ty_CellS l, trivial⟩
 unfold vc_spec_FormatCells
 ((first | refine den_call ?_ (c_spec_IsCells l) (trivial) ?_ | refine den_callR ?_ (c_spec_IsCells l) (trivial) ?_ | refine den_call ?_ (.ofR (c_spec_IsCells l)) (trivial) ?_); (focus (simp only [VC.den, E.den, dEq, gsH_nil, and_true]; try exact rfl)); (simp only [cA]))
 refine den_ite (fun h => den_ret ?_) (fun h => ?_)
 ·simp only [E.den, dEq, iEq, sEq] at h ⊢
  rw [fmtC, if_neg (by grind)]; rfl
 simp only [E.den, dEq, iEq, sEq] at h
 have h : cellsB l = true := by grind
 have h4 := cellsB_len h
 have hj := cells_join h
 have hml : (l.map cellT).length ≤ 140737488355328 := by rw [List.length_map]; omega
 refine den_for l.length (fun k => [encS ((l.take k).map cellT), .int .i64 k]) (fun _ => True) rfl trivial ?_
 intro k hk hI _
 simp only [cA]
 refine den_ite (fun g2 => ?_) (fun g2 => ?_)
 ·simp only [E.den, dEq, iEq, sEq] at g2
  have g2 : k < l.length := by simp at g2; exact g2
  obtain ⟨q1, q2⟩ := cellsB_at h g2
  obtain ⟨m, e, hm⟩ := numB_nat q2
  have q3 := nameB_le q1
  have hl := dig3_le hm
  (refine den_cond (fun hg => ?_) ?_; (focus (simp only [gsH, gE, E.den, dEq, iEq, sEq] at hg ⊢; (try simp only [D.bool.injEq] at hg); (try simp only [D.bool.injEq]); grind)))
  (try (refine den_cond (fun _ => ?_) ?_; (focus (simp only [E.den, dEq, iEq, sEq, row_Cell, cells_Cell, tEq_eq]; refine dec_ok ?_; simp only [ByteArray.size_append, tEq_size]; unfold maxLen; omega))))
  ((first | refine den_call ?_ (c_spec_FormatNumber hm) (trivial) ?_ | refine den_callR ?_ (c_spec_FormatNumber hm) (trivial) ?_ | refine den_call ?_ (.ofR (c_spec_FormatNumber hm)) (trivial) ?_); (focus (simp only [VC.den, E.den, dEq, gsH_nil, and_true, row_Cell, cells_Cell, Int.toNat_natCast, e]; try exact rfl)); (simp only [cA]))
  (try (refine den_cond (fun _ => ?_) ?_; (focus (simp only [E.den, dEq, iEq, sEq, row_Cell, cells_Cell, tEq_eq]; refine dec_ok ?_; simp only [ByteArray.size_append, tEq_size, bs_size]; unfold maxLen; omega))))
  refine den_cond (fun _ => ?_) ?_
  ·simp only [E.den, dEq, iEq, sEq]; simp [maxLen]; omega
  refine den_next g2 ?_ trivial
  simp only [E.den, dEq, iEq, sEq, row_Cell, cells_Cell, tEq_eq]
  rw [ar_add (by omega) (by omega), map_take_succ _ g2]
  simp [encS, cells_str, cellT, e]
 ·simp only [E.den, dEq, iEq, sEq] at g2
  obtain rfl : k = l.length := by simp at g2; omega
  refine den_ite (fun g3 => den_ret ?_) (fun g3 => ?_)
  ·simp only [E.den, dEq, iEq, sEq] at g3 ⊢
   have g3 : l.length = 0 := by simpa using g3
   rw [fmtC, if_pos h, if_pos g3]; rfl
  ·simp only [E.den, dEq, iEq, sEq] at g3
   have g3 : l.length ≠ 0 := by simpa using g3
   ((first | refine den_call ?_ (c_spec_JoinWith (l.map cellT) tCo hml (by omega)) (trivial) ?_ | refine den_callR ?_ (c_spec_JoinWith (l.map cellT) tCo hml (by omega)) (trivial) ?_ | refine den_call ?_ (.ofR (c_spec_JoinWith (l.map cellT) tCo hml (by omega))) (trivial) ?_); (focus (simp only [VC.den, E.den, dEq, gsH_nil, and_true, tCo_eq, List.take_length]; try exact rfl)); (simp only [cA]))
   refine den_ret ?_
   simp only [E.den, dEq, iEq, sEq]
   rw [fmtC, if_pos h, if_neg g3]
def pcA (x : ByteArray) : ByteArray := bs (Lib.cut x.data.toList [61]).1
def pcZ (x : ByteArray) : ByteArray := bs (Lib.cut x.data.toList [61]).2.1
def pcC (x : ByteArray) : Cell := ⟨pcA x, numI (pcZ x)⟩
def pcB (x : ByteArray) : Bool := (Lib.cut x.data.toList [61]).2.2 && numK (pcZ x)
def parL (s : ByteArray) : List Cell := (pieces s tCo).map pcC
def parB (s : ByteArray) : Bool := (pieces s tCo).all pcB && decide ((pieces s tCo).length ≤ 4) && cellsB (parL s)
def parC (s : ByteArray) : List Cell × Bool := if s = tDash then ([], true) else if parB s = true then (parL s, true) else ([], false)
theorem parC_ok {s : ByteArray} (h : (parC s).2 = true) : cellsB (parC s).1 = true := by
 unfold parC at h ⊢
 split
 ·decide
 ·rename_i h1
  rw [if_neg h1] at h
  split
  ·rename_i h2
   unfold parB at h2
   simp only [Bool.and_eq_true] at h2
   exact h2.2
  ·rename_i h2
   rw [if_neg h2] at h; cases h
theorem c_impl_countUp (n : Int) : Fun Tryz.prog 97 none [.int .i64 n] (.int .i64 (min (IntKind.i64.wrap (n + 1)) 999)) [] := by
 refine Fun.of_callsG (by kernel_rfl) fun w M vs hG hr => ?_
 obtain ⟨v, q, rfl, ⟨rfl, h1, h2⟩, rfl⟩ := hr
 show Calls Tryz.prog 97 #[.int .i64 n] w _
 go_enter Tryz.func97, Tryz.ntmps97
 go_wp2
 go_ret
 have hw : -9223372036854775808 ≤ wrap64 (n + 1) ∧ wrap64 (n + 1) ≤ 9223372036854775807 := by unfold wrap64; omega
 refine ⟨.int .i64 (min (wrap64 (n + 1)) 999), rfl, ⟨by rw [← IntWalk.i64_left], ?_, ?_⟩, by go_grown⟩
 ·rw [IntKind.wrap_i64]; simp only [IntKind.min, IntKind.bits, IntKind.signed]; simp; omega
 ·rw [IntKind.wrap_i64]; simp only [IntKind.max, IntKind.bits, IntKind.signed]; simp; omega
theorem c_impl_WantOf (s : ByteArray) : Fun Tryz.prog 23 none [.str s] (.int .i64 (wantZ s)) [] := by
 refine Fun.ofV vc_impl_WantOf_ok ty_impl_WantOf_ok rfl ?_ (fun hfit => ?_)
 ·exact ⟨trivial, trivial⟩
 unfold vc_impl_WantOf
 ((first | refine den_call ?_ (c_impl_AbilityOfMethod s) (rfl) ?_ | refine den_callR ?_ (c_impl_AbilityOfMethod s) (rfl) ?_ | refine den_call ?_ (.ofR (c_impl_AbilityOfMethod s)) (rfl) ?_); (focus (simp only [VC.den, E.den, dEq, gsH_nil, and_true]; try exact rfl)); (simp only [cA]))
 refine den_ite (fun h => ?_) (fun h => ?_)
 ·simp only [E.den, dEq, iEq, sEq] at h
  have h : abM s < 0 := by simpa using h
  exact den_ret (by simp [E.den, wantZ, h])
 simp only [E.den, dEq, iEq, sEq] at h
 have h : ¬ abM s < 0 := by simpa using h
 have h6 := abM_lt s
 refine den_cond (fun _ => ?_) (den_ret ?_)
 ·simp [E.den, cmpI]; omega
 ·have e := allow_shl ⟨(abM s).toNat, by omega⟩
  have e2 : (((abM s).toNat : Nat) : Int) = abM s := by omega
  rw [e2] at e
  simp only [E.den, dEq, iEq, sEq, e]
  simp [wantZ, h]
theorem c_impl_ParseCells [HasMax] [HasPow] [HasErr] (s : ByteArray) (hs : s.size < 4294967281) : FunR Tryz.prog 131 none [.str s] (.tup [encS (parC s).1, .bool (parC s).2]) [] [(0, 2)] := by
 refine FunR.ofV vc_impl_ParseCells_ok ty_impl_ParseCells_ok rt_impl_ParseCells_ok rfl ?_ (fun hfit => ?_)
 ·exact ⟨trivial, trivial⟩
 unfold vc_impl_ParseCells
 refine den_ite (fun h => den_ret ?_) (fun h => ?_)
 ·simp only [E.den, dEq, iEq, sEq, tDash_eq] at h
  have h : s = tDash := by simpa using h
  rw [parC, if_pos h]; rfl
 simp only [E.den, dEq, iEq, sEq, tDash_eq] at h
 have h0 : s ≠ tDash := by simpa using h
 ((first | refine den_call ?_ (cR_Split s tCo hs (by decide)) (ty_strS _) ?_ | refine den_callR ?_ (cR_Split s tCo hs (by decide)) (ty_strS _) ?_ | refine den_call ?_ (.ofR (cR_Split s tCo hs (by decide))) (ty_strS _) ?_); (focus (simp only [VC.den, E.den, dEq, gsH_nil, and_true, tCo_eq]; try exact rfl)); (simp only [cA]))
 have hz := (pieces_size (s := s) (sep := tCo) (by decide)).1
 have hp : ∀ k, k < (pieces s tCo).length → (nth (pieces s tCo) k).size < 4294967281 := fun k hk => by
  have := piece_size (s := s) (sep := tCo) (by decide) hk
  omega
 refine den_for (pieces s tCo).length (fun k => [encS (((pieces s tCo).take k).map pcC), .int .i64 k]) (fun k => (∀ i, i < k → pcB (nth (pieces s tCo) i) = true) ∧ k ≤ 4) rfl ⟨by omega, by omega⟩ ?_
 intro k hk hI _
 simp only [cA]
 refine den_ite (fun h2 => ?_) (fun h2 => ?_)
 ·simp only [E.den, dEq, iEq, sEq] at h2
  have h2 : k < (pieces s tCo).length := by simp at h2; exact h2
  (refine den_cond (fun hg => ?_) ?_; (focus (simp only [gsH, gE, E.den, dEq, iEq, sEq] at hg ⊢; (try simp only [D.bool.injEq] at hg); (try simp only [D.bool.injEq]); grind)))
  ((first | refine den_call ?_ (c_Cut (nth (pieces s tCo) k) [61] (hp k h2)) (⟨trivial, trivial, trivial, trivial⟩) ?_ | refine den_callR ?_ (c_Cut (nth (pieces s tCo) k) [61] (hp k h2)) (⟨trivial, trivial, trivial, trivial⟩) ?_ | refine den_call ?_ (.ofR (c_Cut (nth (pieces s tCo) k) [61] (hp k h2))) (⟨trivial, trivial, trivial, trivial⟩) ?_); (focus (simp only [VC.den, E.den, dEq, gsH_nil, and_true, row_str, cells_str, Int.toNat_natCast]; try exact rfl)); (simp only [cA]))
  ((first | refine den_call ?_ (c_impl_ParseNumber (pcZ (nth (pieces s tCo) k))) (ty_numD _) ?_ | refine den_callR ?_ (c_impl_ParseNumber (pcZ (nth (pieces s tCo) k))) (ty_numD _) ?_ | refine den_call ?_ (.ofR (c_impl_ParseNumber (pcZ (nth (pieces s tCo) k)))) (ty_numD _) ?_); (focus (simp only [VC.den, E.den, dEq, gsH_nil, and_true, cutD3, pcZ]; try exact rfl)); (simp only [cA]))
  refine den_ite (fun h3 => den_ret ?_) (fun h3 => ?_)
  ·simp only [E.den, dEq, iEq, sEq, cutD3, numD] at h3
   have hn : parB s = false := by
    cases hb : parB s with
    | false => rfl
    | true =>
     exfalso
     unfold parB at hb
     simp only [Bool.and_eq_true, decide_eq_true_eq] at hb
     have := List.all_eq_true.1 hb.1.1 _ (nth_mem h2)
     unfold pcB at this
     simp only [Bool.and_eq_true] at this
     simp [this.1, this.2] at h3
     omega
   rw [parC, if_neg h0, if_neg (by simp [hn])]; rfl
  ·simp only [E.den, dEq, iEq, sEq, cutD3, numD] at h3
   simp at h3
   refine den_cond (fun _ => ?_) ?_
   ·simp only [E.den, dEq, iEq, sEq]; simp [maxLen]; omega
   refine den_next h2 ?_ ⟨fun i hi => ?_, by omega⟩
   ·simp only [E.den, dEq, iEq, sEq, cutD3, numD]
    rw [ar_add (by omega) (by omega), map_take_succ _ h2]
    simp [encS, cells_Cell, pcC, pcA, pcZ]
   ·rcases Nat.lt_or_ge i k with h | h
    ·exact hI.1 i h
    ·obtain rfl : i = k := by omega
     unfold pcB
     simp [h3]
 ·simp only [E.den, dEq, iEq, sEq] at h2
  obtain rfl : k = (pieces s tCo).length := by simp at h2; omega
  have hE : (pieces s tCo).take (pieces s tCo).length = pieces s tCo := List.take_length
  have hp : parB s = cellsB (parL s) := by
   unfold parB
   have : (pieces s tCo).all pcB = true := List.all_eq_true.2 fun x hx => by
    obtain ⟨i, hi, rfl⟩ := List.getElem_of_mem hx
    have := hI.1 i hi
    simpa [nth, hi] using this
   simp [this, hI.2]
  ((first | refine den_call ?_ (c_impl_IsCells (parL s)) (trivial) ?_ | refine den_callR ?_ (c_impl_IsCells (parL s)) (trivial) ?_ | refine den_call ?_ (.ofR (c_impl_IsCells (parL s))) (trivial) ?_); (focus (simp only [VC.den, E.den, dEq, gsH_nil, and_true, hE, parL]; try exact rfl)); (simp only [cA]))
  refine den_ite (fun h6 => den_ret ?_) (fun h6 => den_ret ?_)
  ·simp only [E.den, dEq, iEq, sEq] at h6
   have h6 : cellsB (parL s) = false := by simpa using h6
   rw [parC, if_neg h0, if_neg (by rw [hp, h6]; simp)]; rfl
  ·simp only [E.den, dEq, iEq, sEq] at h6
   have h6 : cellsB (parL s) = true := by simpa using h6
   rw [parC, if_neg h0, if_pos (by rw [hp, h6])]
   simp only [E.den, dEq, iEq, sEq, hE]
   rfl
end Go.Proofs.YtbgcaneflfdddaaGreatDoor
/- What a call does to a part, as data: cores, layers, parts; what calls keep. -/
namespace Go.Proofs.YtbgcaneflfdddaaGreatDoor
open Go.RowKit Go
variable [GC]
def lazyN : ByteArray := ⟨#[108, 97, 122, 121]⟩
def readsN : ByteArray := ⟨#[114, 101, 97, 100, 115]⟩
def healsN : ByteArray := ⟨#[104, 101, 97, 108, 115]⟩
def twiceN : ByteArray := ⟨#[116, 119, 105, 99, 101]⟩
def up3 (n : Int) : Int := min (IntKind.i64.wrap (n + 1)) 999
theorem up3_num {n : Int} (h : numB n = true) : numB (up3 n) = true ∧ (n < 999 → up3 n = n + 1) ∧ 1 ≤ up3 n := by
 unfold numB at h
 simp only [Bool.and_eq_true, decide_eq_true_eq] at h
 have e : up3 n = min (n + 1) 999 := by unfold up3; rw [wrap_i64 (by omega) (by omega)]
 refine ⟨?_, fun _ => by omega, by omega⟩
 unfold numB
 simp only [Bool.and_eq_true, decide_eq_true_eq]
 omega
def atC : List Cell → ByteArray → Nat
 | [], _ => 0
 | c :: r, k => if ltB c.key k = true then atC r k + 1 else 0
theorem atC_le : ∀ (l : List Cell) (k : ByteArray), atC l k ≤ l.length
 | [], _ => Nat.le_refl _
 | c :: r, k => by
  unfold atC
  have := atC_le r k
  split
  ·simp; exact this
  ·exact Nat.zero_le _
theorem nth_cons {α : Type} [Inhabited α] (a : α) (l : List α) (i : Nat) : nth (a :: l) (i + 1) = nth l i := by simp [nth]
theorem nth_zero {α : Type} [Inhabited α] (a : α) (l : List α) : nth (a :: l) 0 = a := by simp [nth]
theorem atC_lt : ∀ {l : List Cell} {k : ByteArray} {i : Nat}, i < atC l k → ltB (nth l i).key k = true
 | [], _, i, h => by simp [atC] at h
 | c :: r, k, i, h => by
  unfold atC at h
  split at h
  ·rename_i hc
   cases i with
   | zero => rw [nth_zero]; exact hc
   | succ i => rw [nth_cons]; exact atC_lt (by omega)
  ·omega
theorem atC_at : ∀ {l : List Cell} {k : ByteArray}, atC l k < l.length → ltB (nth l (atC l k)).key k = false
 | [], _, h => by simp [atC] at h
 | c :: r, k, h => by
  unfold atC at h ⊢
  split at h
  ·rename_i hc
   rw [if_pos hc, nth_cons]; exact atC_at (by simp at h; omega)
  ·rename_i hc
   rw [if_neg hc, nth_zero]; simpa using hc
theorem atC_of : ∀ {l : List Cell} {k : ByteArray} {n : Nat}, n ≤ l.length → (∀ i, i < n → ltB (nth l i).key k = true) → (n < l.length → ltB (nth l n).key k = false) → atC l k = n
 | [], _, n, h, _, _ => by simp at h; subst h; rfl
 | c :: r, k, n, h, h1, h2 => by
  unfold atC
  cases n with
  | zero =>
   have := h2 (by simp)
   rw [nth_zero] at this
   rw [if_neg (by simp [this])]
  | succ n =>
   have h0 := h1 0 (by omega)
   rw [nth_zero] at h0
   rw [if_pos h0, atC_of (n := n) (by simp at h; omega) (fun i hi => by have := h1 (i + 1) (by omega); rwa [nth_cons] at this) (fun hn => by have := h2 (by simp; omega); rwa [nth_cons] at this)]
def isK (l : List Cell) (k : ByteArray) : Bool := decide (atC l k < l.length) && decide ((nth l (atC l k)).key = k)
def putC (l : List Cell) (k : ByteArray) (v : Int) : List Cell := if isK l k = true then l.set (atC l k) ⟨k, v⟩ else l.take (atC l k) ++ [⟨k, v⟩] ++ l.drop (atC l k)
def keepD (p : Core) (x : Call) : Core × Reply :=
 if (kindN p.kind).testBit 0 = true ∧ p.on = false then (p, rep 2 0 0 0)
 else if x.method = mGet then (if isK p.cells x.key = true then (p, rep 0 (nth p.cells (atC p.cells x.key)).val 0 0) else (p, rep 4 0 0 0))
 else if isK p.cells x.key = false ∧ 4 ≤ p.cells.length then (p, rep 5 0 0 0)
 else (⟨p.kind, p.on, p.broken, putC p.cells x.key x.val, up3 p.count⟩, rep 0 (putC p.cells x.key x.val).length 0 0)
def isKeep (x : Call) : Bool := decide (x.method = mGet) || decide (x.method = mPut)
def doesD (p : Core) (x : Call) : Core × Reply :=
 if p.broken = true ∧ x.method ≠ mHeal ∧ x.method ≠ mTell then (p, rep 3 0 0 0)
 else if x.method = mStart then (if p.on = true then (⟨p.kind, false, true, p.cells, p.count⟩, rep 3 0 0 0) else (⟨p.kind, true, p.broken, p.cells, up3 p.count⟩, rep 0 0 0 0))
 else if x.method = mStop then (if p.on = false then (p, rep 2 0 0 0) else (⟨p.kind, false, p.broken, p.cells, p.count⟩, rep 0 0 0 0))
 else if isKeep x = true then keepD p x
 else if x.method = mTell then (p, rep 0 p.count 0 0)
 else if x.method = mHear then (⟨p.kind, if x.val = 0 then false else if x.val = 1 then true else p.on, p.broken, p.cells, up3 p.count⟩, rep 0 (up3 p.count) 0 0)
 else if x.method = mSave then (p, ⟨0, 0, fmtC p.cells, 0, 0⟩)
 else if x.method = mLoad then (if (parC x.text).2 = true then (⟨p.kind, p.on, p.broken, (parC x.text).1, p.count⟩, rep 0 (parC x.text).1.length 0 0) else (p, rep 6 0 0 0))
 else if x.method = mHeal then (⟨p.kind, false, false, p.cells, p.count⟩, rep 0 0 0 0)
 else (p, rep 0 0 0 0)
def bump (p : Part) (k : Nat) : Part := ⟨p.core, p.layers.set k ⟨(nth p.layers k).name, up3 (nth p.layers k).count⟩⟩
def plainCall (m : ByteArray) : Call := ⟨m, noText, 0, noText⟩
def twoR (r : Reply) : Reply := if r.code = 0 then ⟨r.code, min (IntKind.i64.wrap (2 * r.val)) 999, r.text, r.want, r.had⟩ else r
def thrD : Nat → Part → Call → Part × Reply
 | 0, p, x => (⟨(doesD p.core x).1, p.layers⟩, (doesD p.core x).2)
 | k + 1, p, x =>
  if (nth p.layers k).name = counts ∧ x.method = mTell then (p, rep 0 (nth p.layers k).count 0 0)
  else if (nth p.layers k).name = counts ∧ isKeep x = true then (bump (thrD k p x).1 k, (thrD k p x).2)
  else if (nth p.layers k).name = lazyN ∧ isKeep x = true then
   (if (thrD k p x).2.code = 2 then thrD k (thrD k (thrD k p x).1 (plainCall mStart)).1 x else thrD k p x)
  else if (nth p.layers k).name = readsN ∧ x.method = mPut then (p, rep 6 0 0 0)
  else if (nth p.layers k).name = hears ∧ x.method = mHear then
   (if x.val = 0 then thrD k (bump p k) (plainCall mStop) else if x.val = 1 then thrD k (bump p k) (plainCall mStart) else (bump p k, rep 0 (nth (bump p k).layers k).count 0 0))
  else if (nth p.layers k).name = healsN ∧ x.method = mHeal then thrD k (thrD k p (plainCall mStop)).1 (plainCall mStart)
  else if (nth p.layers k).name = twiceN then ((thrD k p x).1, twoR (thrD k p x).2)
  else thrD k p x
def callD (p : Part) (x : Call) : Part × Reply :=
 if partB p = false ∨ callB x = false then (p, rep 7 0 0 0)
 else if offersB (faceOf p) (wantZ x.method) = false then (p, rep 1 0 (wantZ x.method) (faceOf p))
 else thrD p.layers.length p x
/- Kinds, layers, methods by their numbers. -/
theorem kind_fin {s : ByteArray} (h : kindOk s = true) : ∃ i : Fin 8, s = nth kinds i.val ∧ kindN s = kindFs.getD i.val 0 := by
 have key : ∃ i : Fin 8, s = nth kinds i.val := by
  unfold kindOk kindAt at h
  by_cases e0 : s = nth kinds 0
  ·exact ⟨0, e0⟩
  by_cases e1 : s = nth kinds 1
  ·exact ⟨1, e1⟩
  by_cases e2 : s = nth kinds 2
  ·exact ⟨2, e2⟩
  by_cases e3 : s = nth kinds 3
  ·exact ⟨3, e3⟩
  by_cases e4 : s = nth kinds 4
  ·exact ⟨4, e4⟩
  by_cases e5 : s = nth kinds 5
  ·exact ⟨5, e5⟩
  by_cases e6 : s = nth kinds 6
  ·exact ⟨6, e6⟩
  by_cases e7 : s = nth kinds 7
  ·exact ⟨7, e7⟩
  simp [e0, e1, e2, e3, e4, e5, e6, e7] at h
 obtain ⟨i, rfl⟩ := key
 refine ⟨i, rfl, ?_⟩
 unfold kindN
 rw [kindAt_nth i]
theorem lay_fin {s : ByteArray} (h : layOk s = true) : ∃ i : Fin 9, s = nth layers i.val ∧ needN s = layN.getD i.val 0 ∧ giveN s = layG.getD i.val 0 := by
 have key : ∃ i : Fin 9, s = nth layers i.val := by
  unfold layOk layAt at h
  by_cases e0 : s = nth layers 0
  ·exact ⟨0, e0⟩
  by_cases e1 : s = nth layers 1
  ·exact ⟨1, e1⟩
  by_cases e2 : s = nth layers 2
  ·exact ⟨2, e2⟩
  by_cases e3 : s = nth layers 3
  ·exact ⟨3, e3⟩
  by_cases e4 : s = nth layers 4
  ·exact ⟨4, e4⟩
  by_cases e5 : s = nth layers 5
  ·exact ⟨5, e5⟩
  by_cases e6 : s = nth layers 6
  ·exact ⟨6, e6⟩
  by_cases e7 : s = nth layers 7
  ·exact ⟨7, e7⟩
  by_cases e8 : s = nth layers 8
  ·exact ⟨8, e8⟩
  simp [e0, e1, e2, e3, e4, e5, e6, e7, e8] at h
 obtain ⟨i, rfl⟩ := key
 refine ⟨i, rfl, ?_, ?_⟩
 ·unfold needN; rw [layAt_nth i]
 ·unfold giveN; rw [layAt_nth i]
theorem meth_fin {s : ByteArray} (h : ¬ abM s < 0) : ∃ j : Fin 6, wantZ s = ((2 ^ j.val : Nat) : Int) ∧ s ∈ methods j.val := by
 unfold wantZ
 rw [if_neg h]
 unfold abM at h ⊢
 cases hf : firstTo (abP s) 6 with
 | none => rw [hf] at h; simp at h
 | some k =>
  obtain ⟨h1, h2, _⟩ := firstTo_lt hf
  refine ⟨⟨k, h1⟩, by simp, ?_⟩
  unfold abP hasB at h2
  rw [List.any_eq_true] at h2
  obtain ⟨t, ht, e⟩ := h2
  have e : t = s := by simpa using e
  subst e
  exact ht
theorem kind_off : ∀ (i : Fin 8) (j : Fin 6), offersB ((kindFs.getD i.val 0 : Nat) : Int) ((2 ^ j.val : Nat) : Int) = true → (j.val = 0 ∨ j.val = 3 → (kindFs.getD i.val 0).testBit 0 = true) ∧ (j.val = 1 ∨ j.val = 4 → (kindFs.getD i.val 0).testBit 1 = true) := by decide +kernel
theorem lay_off : ∀ (i : Fin 9) (j : Fin 6) (f : Fin 64), offersB ((f.val : Nat) : Int) ((layN.getD i.val 0 : Nat) : Int) = true → offersB ((layG.getD i.val 0 : Nat) : Int) ((2 ^ j.val : Nat) : Int) = true → (i.val = 3 ∧ j.val = 2) ∨ (i.val = 6 ∧ j.val = 3) ∨ (i.val = 7 ∧ j.val = 5) ∨ offersB ((f.val : Nat) : Int) ((2 ^ j.val : Nat) : Int) = true := by decide +kernel
theorem lay_run : ∀ (i : Fin 9) (f : Fin 64), (i.val = 4 ∨ i.val = 6 ∨ i.val = 7) → offersB ((f.val : Nat) : Int) ((layN.getD i.val 0 : Nat) : Int) = true → offersB ((f.val : Nat) : Int) 1 = true := by decide +kernel
theorem want_start : wantZ mStart = 1 ∧ wantZ mStop = 1 ∧ wantZ mGet = 2 ∧ wantZ mPut = 2 ∧ wantZ mTell = 4 ∧ wantZ mHear = 8 := by decide +kernel
theorem callB_start : callB (plainCall mStart) = true ∧ callB (plainCall mStop) = true ∧ callB (plainCall mTell) = true := by decide +kernel
theorem callB_ab {x : Call} (h : callB x = true) : ¬ abM x.method < 0 := by
 unfold callB at h
 simp only [Bool.and_eq_true, Bool.not_eq_true', decide_eq_false_iff_not] at h
 exact h.1.1.1
theorem callB_put {x : Call} (h : callB x = true) (hm : isKeep x = true) : nameB x.key = true := by
 unfold callB isKeep at *
 grind
theorem callB_num {x : Call} (h : callB x = true) : numB x.val = true := by
 unfold callB numB at *
 grind
theorem layers_eq : nth layers 3 = counts ∧ nth layers 4 = lazyN ∧ nth layers 6 = hears ∧ nth layers 7 = healsN := by decide
end Go.Proofs.YtbgcaneflfdddaaGreatDoor
