/- Several texts, one behind the other. -/
import Derived.Shelf.Strings.Builder1
import Derived.Shelf.Strings.Builder2
import Derived.Shelf.Strings.OnBuilder
import Derived.Shelf.Small.Utf8
import Derived.Shelf.Small.Bits
import Derived.Shelf.Small.Strs
import Derived.Shelf.Strings.BuilderF
import Derived.Shelf.Utf8.RuneCount
import Derived.Shelf.Strconv.Atoi
import Derived.Shelf.Strconv.Itoa0
import Derived.Shelf.Strconv.Itoa1
import Derived.Shelf.LaysM
import Derived.Shelf.Strconv.Itoa2
import Derived.Shelf.Strconv.Itoa3
import Derived.Shelf.Strconv.AtoiErrFast
import Derived.Shelf.Strconv.ParseIntEmpty
import Derived.Shelf.Strconv.AtoiFail
import Derived.Shelf.Strconv.Clone
import Derived.Shelf.Strconv.SyntaxError
import Derived.Shelf.LaysC
import Derived.Shelf.Strconv.ToError
import Derived.Shelf.Strconv.Lower
import Derived.Shelf.Strconv.ParseUint10
import Derived.Shelf.Strconv.ParseUint10Empty
import Derived.Shelf.Strconv.ParseUint10Any
import Derived.Shelf.Strconv.ParseInt10
import Derived.Shelf.Strconv.AtoiLong
import Derived.Shelf.Strconv.AtoiInnerAll
import Derived.Shelf.Strconv.RangeError
import Derived.Shelf.Strconv.ToErrorRange
import Derived.Shelf.Strconv.AtoiAll
import Derived.Shelf.Strconv.ErrVarAll
import Derived.Shelf.Strings.Search1
import Derived.Shelf.Strings.Search2
import Derived.Shelf.Strings.Search3
import Derived.Shelf.Strings.Cut
import Derived.Shelf.Strings.Count
import Derived.Shelf.Strings.Shaped
import Derived.Shelf.Strings.Prefix
import Derived.Shelf.Strings.Split
import Derived.Shelf.Strings.SplitShaped
import Derived.Shelf.Unicode.Decode
import Derived.Shelf.Strings.Runes
import Derived.Shelf.Strings.RuneCount
import Derived.Shelf.Strings.AsciiSet
import Derived.Shelf.Strings.Explode
import Derived.Shelf.Bits.Mul64
import Derived.Shelf.Strings.Repeat
import Derived.Shelf.Unicode.DecodeSlow
import Derived.Shelf.Unicode.DecodeAny
import Derived.Shelf.Unicode.DecodeLast
import Derived.Ground.Names2Prog
import Derived.Shelf.Slices.Clone
import Derived.Shelf.Slices.SearchI
import Derived.Ground.SlgnProg
import Derived.Shelf.SlicesE.Clone
import Derived.Test.YtkjdeihmefhkpaaGreatDoorProg
import Derived.Test.YtkjdeihmefhkpaaGreatDoorMOpentoMWex
set_option linter.all false
namespace Go.Proofs
def Tryz.lays156_ren : Go.Shelf.Ren := ⟨fun | 156 => 277 | 165 => 312 | 166 => 313 | 169 => 315 | 240 => 347 | 241 => 348 | 276 => 370 | 277 => 371 | n => n, fun | 31 => 33 | 9 => 9 | 3 => 3 | 4 => 4 | 0 => 0 | 20 => 20 | 72 => 332 | 76 => 333 | 70 => 330 | 37 => 22 | 75 => 304 | 127 => 363 | 164 => 274 | 5 => 5 | 80 => 155 | n => n, fun | n => n⟩
theorem Tryz.lays156 : Go.Proofs.Lays.n156 Tryz.prog Tryz.lays156_ren := {
 mixed := by kernel_rfl
 f156 := Tryz.func277.trans (congrArg some (by kernel_rfl))
 f165 := Tryz.func312.trans (congrArg some (by kernel_rfl))
 f166 := Tryz.func313.trans (congrArg some (by kernel_rfl))
 f169 := Tryz.func315.trans (congrArg some (by kernel_rfl))
 f240 := Tryz.func347.trans (congrArg some (by kernel_rfl))
 f241 := Tryz.func348.trans (congrArg some (by kernel_rfl))
 f276 := Tryz.func370.trans (congrArg some (by kernel_rfl))
 f277 := Tryz.func371.trans (congrArg some (by kernel_rfl))
 t0 := Tryz.underlying0
 a0 := Tryz.isAgg0
 z0 := Tryz.sizeOf0
 v0 := Tryz.zeroValue0
 t3 := Tryz.underlying3
 a3 := Tryz.isAgg3
 z3 := Tryz.sizeOf3
 v3 := Tryz.zeroValue3
 t4 := Tryz.underlying4
 a4 := Tryz.isAgg4
 z4 := Tryz.sizeOf4
 v4 := Tryz.zeroValue4
 t9 := Tryz.underlying9
 a9 := Tryz.isAgg9
 z9 := Tryz.sizeOf9
 v9 := Tryz.zeroValue9
 t20 := Tryz.underlying20
 a20 := Tryz.isAgg20
 z20 := Tryz.sizeOf20
 v20 := Tryz.zeroValue20
 t31 := Tryz.underlying33
 a31 := Tryz.isAgg33
 z31 := Tryz.sizeOf33
 v31 := Tryz.zeroValue33
 t37 := Tryz.underlying22
 a37 := Tryz.isAgg22
 z37 := Tryz.sizeOf22
 v37 := Tryz.zeroValue22
 t70 := Tryz.underlying330
 a70 := Tryz.isAgg330
 z70 := Tryz.sizeOf330
 v70 := Tryz.zeroValue330
 t72 := Tryz.underlying332
 a72 := Tryz.isAgg332
 z72 := Tryz.sizeOf332
 v72 := Tryz.zeroValue332
 t75 := Tryz.underlying304
 a75 := Tryz.isAgg304
 z75 := Tryz.sizeOf304
 v75 := Tryz.zeroValue304
 t76 := Tryz.underlying333
 a76 := Tryz.isAgg333
 z76 := Tryz.sizeOf333
 v76 := Tryz.zeroValue333
 t127 := Tryz.underlying363
 a127 := Tryz.isAgg363
 z127 := Tryz.sizeOf363
 v127 := Tryz.zeroValue363
 t164 := Tryz.underlying274
 a164 := Tryz.isAgg274
 z164 := Tryz.sizeOf274
 v164 := Tryz.zeroValue274 }
theorem Tryz.Builder_Extra_156 : Builder.Extra Tryz.prog Tryz.lays156_ren := {
 sizeBuilder := by kernel_rfl
 liesBuilder := by kernel_rfl
 t5 := Tryz.underlying5
 a5 := Tryz.isAgg5
 z5 := Tryz.sizeOf5
 v5 := Tryz.zeroValue5
 infoByte := by kernel_rfl
 cellsByte := by kernel_rfl
 sizeByte := by kernel_rfl
 neB5 := by decide }
open Go.RowKit in
theorem Tryz.strings_Join_none (a : Option Addr) (c : Nat) (sep : ByteArray) (w : World) :
  Calls Tryz.prog 277 #[.slice a 0 c, .string sep] w fun e w' => e = .returned (.string ⟨#[]⟩) ∧ w' = w := Any.strings_Join_none Tryz.lays156 Tryz.Builder_Extra_156 a c sep w
open Go.RowKit in
theorem Tryz.strings_Join (bk o c : Nat) (xs : List ByteArray) (sep : ByteArray) (w : World) (hcells : ∀ (j : Nat) x, xs[j]? = some x → w.cell? ⟨bk, o + j, none⟩ = some (.string x)) (hbk : bk < w.heap.size) (hN : xs.length ≤ 140737488355328) (hcap : xs.length ≤ c) (hlen : (Lib.join (xs.map (·.data.toList)) sep.data.toList).length ≤ 140737488355328) :
  Calls Tryz.prog 277 #[.slice (some ⟨bk, o, none⟩) xs.length c, .string sep] w fun e w' => e = .returned (.string ⟨(Lib.join (xs.map (·.data.toList)) sep.data.toList).toArray⟩) ∧ Below w.heap.size w w' := Any.strings_Join Tryz.lays156 Tryz.Builder_Extra_156 bk o c xs sep w hcells hbk hN hcap hlen
def Tryz.laysM171_ren : Go.Shelf.Ren := ⟨fun | 171 => 192 | 243 => 276 | 246 => 326 | 283 => 357 | 284 => 358 | 285 => 359 | 286 => 360 | 129 => 377 | 317 => 376 | 318 => 378 | 319 => 379 | 320 => 380 | 337 => 400 | 338 => 401 | n => n, fun | 3 => 3 | 9 => 9 | 2 => 2 | 4 => 4 | 171 => 372 | 0 => 0 | 53 => 195 | 37 => 22 | 5 => 5 | 173 => 375 | 212 => 403 | 51 => 198 | 20 => 20 | 213 => 404 | 46 => 279 | 232 => 433 | 233 => 434 | n => n, fun | 17 => 1 | 18 => 5 | 19 => 6 | n => n⟩
theorem Tryz.laysM171 : Go.Proofs.LaysM.n171 Tryz.prog Tryz.laysM171_ren := {
 mixed := by kernel_rfl
 f129 := Tryz.func377.trans (congrArg some (by kernel_rfl))
 f171 := Tryz.func192.trans (congrArg some (by kernel_rfl))
 f243 := Tryz.func276.trans (congrArg some (by kernel_rfl))
 f246 := Tryz.func326.trans (congrArg some (by kernel_rfl))
 f283 := Tryz.func357.trans (congrArg some (by kernel_rfl))
 f284 := Tryz.func358.trans (congrArg some (by kernel_rfl))
 f285 := Tryz.func359.trans (congrArg some (by kernel_rfl))
 f286 := Tryz.func360.trans (congrArg some (by kernel_rfl))
 f317 := Tryz.func376.trans (congrArg some (by kernel_rfl))
 f318 := Tryz.func378.trans (congrArg some (by kernel_rfl))
 f319 := Tryz.func379.trans (congrArg some (by kernel_rfl))
 f320 := Tryz.func380.trans (congrArg some (by kernel_rfl))
 f337 := Tryz.func400.trans (congrArg some (by kernel_rfl))
 f338 := Tryz.func401.trans (congrArg some (by kernel_rfl))
 t0 := Tryz.underlying0
 a0 := Tryz.isAgg0
 z0 := Tryz.sizeOf0
 v0 := Tryz.zeroValue0
 t2 := Tryz.underlying2
 a2 := Tryz.isAgg2
 z2 := Tryz.sizeOf2
 v2 := Tryz.zeroValue2
 t3 := Tryz.underlying3
 a3 := Tryz.isAgg3
 z3 := Tryz.sizeOf3
 v3 := Tryz.zeroValue3
 t4 := Tryz.underlying4
 a4 := Tryz.isAgg4
 z4 := Tryz.sizeOf4
 v4 := Tryz.zeroValue4
 t5 := Tryz.underlying5
 a5 := Tryz.isAgg5
 z5 := Tryz.sizeOf5
 v5 := Tryz.zeroValue5
 t9 := Tryz.underlying9
 a9 := Tryz.isAgg9
 z9 := Tryz.sizeOf9
 v9 := Tryz.zeroValue9
 t20 := Tryz.underlying20
 a20 := Tryz.isAgg20
 z20 := Tryz.sizeOf20
 v20 := Tryz.zeroValue20
 t37 := Tryz.underlying22
 a37 := Tryz.isAgg22
 z37 := Tryz.sizeOf22
 v37 := Tryz.zeroValue22
 t46 := Tryz.underlying279
 a46 := Tryz.isAgg279
 z46 := Tryz.sizeOf279
 v46 := Tryz.zeroValue279
 t51 := Tryz.underlying198
 a51 := Tryz.isAgg198
 z51 := Tryz.sizeOf198
 v51 := Tryz.zeroValue198
 t53 := Tryz.underlying195
 a53 := Tryz.isAgg195
 z53 := Tryz.sizeOf195
 v53 := Tryz.zeroValue195
 t171 := Tryz.underlying372
 a171 := Tryz.isAgg372
 z171 := Tryz.sizeOf372
 v171 := Tryz.zeroValue372
 t173 := Tryz.underlying375
 a173 := Tryz.isAgg375
 z173 := Tryz.sizeOf375
 v173 := Tryz.zeroValue375
 t212 := Tryz.underlying403
 a212 := Tryz.isAgg403
 z212 := Tryz.sizeOf403
 v212 := Tryz.zeroValue403
 t213 := Tryz.underlying404
 a213 := Tryz.isAgg404
 z213 := Tryz.sizeOf404
 t232 := Tryz.underlying433
 a232 := Tryz.isAgg433
 z232 := Tryz.sizeOf433
 v232 := Tryz.zeroValue433
 t233 := Tryz.underlying434
 a233 := Tryz.isAgg434
 z233 := Tryz.sizeOf434
 v233 := Tryz.zeroValue434
 g17 := by kernel_rfl
 g18 := by kernel_rfl
 g19 := by kernel_rfl
 i0 := by kernel_rfl
 i2 := by kernel_rfl
 i3 := by kernel_rfl
 i4 := by kernel_rfl
 i5 := by kernel_rfl
 i9 := by kernel_rfl
 i20 := by kernel_rfl
 i37 := by kernel_rfl
 i46 := by kernel_rfl
 i51 := by kernel_rfl
 i53 := by kernel_rfl
 i171 := by kernel_rfl
 i173 := by kernel_rfl
 i212 := by kernel_rfl
 i232 := by kernel_rfl
 i233 := by kernel_rfl
 m17 := by kernel_rfl
 m18 := by kernel_rfl
 m19 := by kernel_rfl }
open Go.RowKit Go.Sort Go.Lib in
theorem Tryz.strconv_Itoa (n : Int) (h0 : -9223372036854775808 ≤ n) (h1 : n ≤ 9223372036854775807) (w : World) (htab : Lib.TabIs Tryz.prog w "internal/strconv.uint64pow10" .u64 Lib.pow10Tab) :
  Calls Tryz.prog 192 #[.int .i64 n] w fun e w' => e = .returned (.string ⟨(Lib.itoa n).toArray⟩) ∧ ∃ k os, w' = grow (w.drewN k) os := Any.strconv_Itoa Tryz.laysM171 n h0 h1 w htab
def Tryz.laysC172_ren : Go.Shelf.Ren := ⟨fun | 172 => 364 | 244 => 384 | 245 => 385 | 247 => 406 | 279 => 407 | 280 => 408 | 281 => 409 | 282 => 410 | 287 => 420 | 316 => 421 | 171 => 192 | 205 => 422 | 321 => 424 | 322 => 425 | 243 => 276 | 246 => 326 | 283 => 357 | 284 => 358 | 285 => 359 | 286 => 360 | 129 => 377 | 317 => 376 | 318 => 378 | 319 => 379 | 320 => 380 | 337 => 400 | 338 => 401 | n => n, fun | 9 => 9 | 3 => 3 | 75 => 304 | 76 => 333 | 4 => 4 | 5 => 5 | 167 => 417 | 37 => 22 | 0 => 0 | 85 => 418 | 2 => 2 | 168 => 420 | 53 => 195 | 175 => 436 | 46 => 279 | 210 => 439 | 127 => 363 | 145 => 447 | 143 => 445 | 21 => 21 | 171 => 372 | 173 => 375 | 212 => 403 | 51 => 198 | 20 => 20 | 213 => 404 | 232 => 433 | 233 => 434 | 80 => 155 | n => n, fun | 15 => 7 | 16 => 8 | 17 => 1 | 18 => 5 | 19 => 6 | n => n⟩
theorem Tryz.laysC172 : Go.Proofs.LaysC.n172 Tryz.prog Tryz.laysC172_ren := {
 mixed := by kernel_rfl
 f129 := Tryz.func377.trans (congrArg some (by kernel_rfl))
 f171 := Tryz.func192.trans (congrArg some (by kernel_rfl))
 f172 := Tryz.func364.trans (congrArg some (by kernel_rfl))
 f205 := Tryz.func422.trans (congrArg some (by kernel_rfl))
 f243 := Tryz.func276.trans (congrArg some (by kernel_rfl))
 f244 := Tryz.func384.trans (congrArg some (by kernel_rfl))
 f245 := Tryz.func385.trans (congrArg some (by kernel_rfl))
 f246 := Tryz.func326.trans (congrArg some (by kernel_rfl))
 f247 := Tryz.func406.trans (congrArg some (by kernel_rfl))
 f279 := Tryz.func407.trans (congrArg some (by kernel_rfl))
 f280 := Tryz.func408.trans (congrArg some (by kernel_rfl))
 f281 := Tryz.func409.trans (congrArg some (by kernel_rfl))
 f282 := Tryz.func410.trans (congrArg some (by kernel_rfl))
 f283 := Tryz.func357.trans (congrArg some (by kernel_rfl))
 f284 := Tryz.func358.trans (congrArg some (by kernel_rfl))
 f285 := Tryz.func359.trans (congrArg some (by kernel_rfl))
 f286 := Tryz.func360.trans (congrArg some (by kernel_rfl))
 f287 := Tryz.func420.trans (congrArg some (by kernel_rfl))
 f316 := Tryz.func421.trans (congrArg some (by kernel_rfl))
 f317 := Tryz.func376.trans (congrArg some (by kernel_rfl))
 f318 := Tryz.func378.trans (congrArg some (by kernel_rfl))
 f319 := Tryz.func379.trans (congrArg some (by kernel_rfl))
 f320 := Tryz.func380.trans (congrArg some (by kernel_rfl))
 f321 := Tryz.func424.trans (congrArg some (by kernel_rfl))
 f322 := Tryz.func425.trans (congrArg some (by kernel_rfl))
 f337 := Tryz.func400.trans (congrArg some (by kernel_rfl))
 f338 := Tryz.func401.trans (congrArg some (by kernel_rfl))
 t0 := Tryz.underlying0
 a0 := Tryz.isAgg0
 z0 := Tryz.sizeOf0
 v0 := Tryz.zeroValue0
 t2 := Tryz.underlying2
 a2 := Tryz.isAgg2
 z2 := Tryz.sizeOf2
 v2 := Tryz.zeroValue2
 t3 := Tryz.underlying3
 a3 := Tryz.isAgg3
 z3 := Tryz.sizeOf3
 v3 := Tryz.zeroValue3
 t4 := Tryz.underlying4
 a4 := Tryz.isAgg4
 z4 := Tryz.sizeOf4
 v4 := Tryz.zeroValue4
 t5 := Tryz.underlying5
 a5 := Tryz.isAgg5
 z5 := Tryz.sizeOf5
 v5 := Tryz.zeroValue5
 t9 := Tryz.underlying9
 a9 := Tryz.isAgg9
 z9 := Tryz.sizeOf9
 v9 := Tryz.zeroValue9
 t20 := Tryz.underlying20
 a20 := Tryz.isAgg20
 z20 := Tryz.sizeOf20
 v20 := Tryz.zeroValue20
 t21 := Tryz.underlying21
 a21 := Tryz.isAgg21
 z21 := Tryz.sizeOf21
 v21 := Tryz.zeroValue21
 t37 := Tryz.underlying22
 a37 := Tryz.isAgg22
 z37 := Tryz.sizeOf22
 v37 := Tryz.zeroValue22
 t46 := Tryz.underlying279
 a46 := Tryz.isAgg279
 z46 := Tryz.sizeOf279
 v46 := Tryz.zeroValue279
 t51 := Tryz.underlying198
 a51 := Tryz.isAgg198
 z51 := Tryz.sizeOf198
 v51 := Tryz.zeroValue198
 t53 := Tryz.underlying195
 a53 := Tryz.isAgg195
 z53 := Tryz.sizeOf195
 v53 := Tryz.zeroValue195
 t75 := Tryz.underlying304
 a75 := Tryz.isAgg304
 z75 := Tryz.sizeOf304
 v75 := Tryz.zeroValue304
 t76 := Tryz.underlying333
 a76 := Tryz.isAgg333
 z76 := Tryz.sizeOf333
 v76 := Tryz.zeroValue333
 t85 := Tryz.underlying418
 a85 := Tryz.isAgg418
 z85 := Tryz.sizeOf418
 v85 := Tryz.zeroValue418
 t127 := Tryz.underlying363
 a127 := Tryz.isAgg363
 z127 := Tryz.sizeOf363
 v127 := Tryz.zeroValue363
 t143 := Tryz.underlying445
 a143 := Tryz.isAgg445
 z143 := Tryz.sizeOf445
 v143 := Tryz.zeroValue445
 t145 := Tryz.underlying447
 a145 := Tryz.isAgg447
 z145 := Tryz.sizeOf447
 v145 := Tryz.zeroValue447
 t167 := Tryz.underlying417
 a167 := Tryz.isAgg417
 z167 := Tryz.sizeOf417
 v167 := Tryz.zeroValue417
 t168 := Tryz.underlying420
 a168 := Tryz.isAgg420
 z168 := Tryz.sizeOf420
 v168 := Tryz.zeroValue420
 t171 := Tryz.underlying372
 a171 := Tryz.isAgg372
 z171 := Tryz.sizeOf372
 v171 := Tryz.zeroValue372
 t173 := Tryz.underlying375
 a173 := Tryz.isAgg375
 z173 := Tryz.sizeOf375
 v173 := Tryz.zeroValue375
 t175 := Tryz.underlying436
 a175 := Tryz.isAgg436
 z175 := Tryz.sizeOf436
 v175 := Tryz.zeroValue436
 t210 := Tryz.underlying439
 a210 := Tryz.isAgg439
 z210 := Tryz.sizeOf439
 v210 := Tryz.zeroValue439
 t212 := Tryz.underlying403
 a212 := Tryz.isAgg403
 z212 := Tryz.sizeOf403
 v212 := Tryz.zeroValue403
 t213 := Tryz.underlying404
 a213 := Tryz.isAgg404
 z213 := Tryz.sizeOf404
 t232 := Tryz.underlying433
 a232 := Tryz.isAgg433
 z232 := Tryz.sizeOf433
 v232 := Tryz.zeroValue433
 t233 := Tryz.underlying434
 a233 := Tryz.isAgg434
 z233 := Tryz.sizeOf434
 v233 := Tryz.zeroValue434
 g15 := by kernel_rfl
 g16 := by kernel_rfl
 g17 := by kernel_rfl
 g18 := by kernel_rfl
 g19 := by kernel_rfl
 t80 := Tryz.underlying155
 a80 := Tryz.isAgg155
 z80 := Tryz.sizeOf155
 v80 := Tryz.zeroValue155
 i0 := by kernel_rfl
 i2 := by kernel_rfl
 i3 := by kernel_rfl
 i4 := by kernel_rfl
 i5 := by kernel_rfl
 i9 := by kernel_rfl
 i20 := by kernel_rfl
 i21 := by kernel_rfl
 i37 := by kernel_rfl
 i46 := by kernel_rfl
 i51 := by kernel_rfl
 i53 := by kernel_rfl
 i75 := by kernel_rfl
 i76 := by kernel_rfl
 i80 := by kernel_rfl
 i85 := by kernel_rfl
 i127 := by kernel_rfl
 i143 := by kernel_rfl
 i145 := by kernel_rfl
 i167 := by kernel_rfl
 i168 := by kernel_rfl
 i171 := by kernel_rfl
 i173 := by kernel_rfl
 i175 := by kernel_rfl
 i210 := by kernel_rfl
 i212 := by kernel_rfl
 i232 := by kernel_rfl
 i233 := by kernel_rfl
 m15 := by kernel_rfl
 m16 := by kernel_rfl
 m17 := by kernel_rfl
 m18 := by kernel_rfl
 m19 := by kernel_rfl
 c0 := by kernel_rfl
 c2 := by kernel_rfl
 c3 := by kernel_rfl
 c4 := by kernel_rfl
 c5 := by kernel_rfl
 c9 := by kernel_rfl
 c20 := by kernel_rfl
 c21 := by kernel_rfl
 c37 := by kernel_rfl
 c46 := by kernel_rfl
 c51 := by kernel_rfl
 c53 := by kernel_rfl
 c75 := by kernel_rfl
 c76 := by kernel_rfl
 c80 := by kernel_rfl
 c85 := by kernel_rfl
 c127 := by kernel_rfl
 c143 := by kernel_rfl
 c145 := by kernel_rfl
 c167 := by kernel_rfl
 c168 := by kernel_rfl
 c171 := by kernel_rfl
 c173 := by kernel_rfl
 c175 := by kernel_rfl
 c210 := by kernel_rfl
 c212 := by kernel_rfl
 c213 := by kernel_rfl
 c232 := by kernel_rfl
 c233 := by kernel_rfl }
open Go.RowKit in
theorem Tryz.strconv_Atoi_ok (s : ByteArray) (hmax : s.size ≤ 9223372036854775806) (v : Int) (h : Lib.atoiAll s.data.toList = .ok v) (w : World) :
  Calls Tryz.prog 364 #[.string s] w fun e w' => e = .returned (.tuple #[.int .i64 v, .nilIface]) ∧ (w' = w ∨ ∃ t, w' = Lib.bytesWorld w 5 t) := Any.strconv_Atoi_ok Tryz.laysC172 s hmax v h w
open Go.RowKit in
theorem Tryz.strconv_Atoi_syntax (s : ByteArray) (hlim : s.size ≤ 281474976710656) (h : Lib.atoiAll s.data.toList = Lib.atoiAll []) (ev : Value) (w : World) (hv : w.cell? ⟨7, 0, none⟩ = some ev) (hev : ev = .nilIface ∨ ∃ te pe, ev = .iface te pe) :
  Calls Tryz.prog 364 #[.string s] w fun e w' => ∃ N, e = .returned (.tuple #[.int .i64 (0), .iface 420 (.pointer (some ⟨N, 0, none⟩))]) ∧ w.heap.size ≤ N ∧ w'.heap[N]? = some (.cells #[.string ⟨#[65, 116, 111, 105]⟩, .string s, ev] 439 (0, 0)) ∧ Below w.heap.size w w' := Any.strconv_Atoi_syntax Tryz.laysC172 s hlim h ev w hv hev
open Go.RowKit in
theorem Tryz.strconv_Atoi_range (s : ByteArray) (hlim : s.size ≤ 281474976710656) (h : Lib.atoiAll s.data.toList = .range) (ev : Value) (w : World) (hv : w.cell? ⟨8, 0, none⟩ = some ev) (hev : ev = .nilIface ∨ ∃ te pe, ev = .iface te pe) :
  Calls Tryz.prog 364 #[.string s] w fun e w' => ∃ N, e = .returned (.tuple #[.int .i64 (Lib.atoiSat s.data.toList), .iface 420 (.pointer (some ⟨N, 0, none⟩))]) ∧ w.heap.size ≤ N ∧ w'.heap[N]? = some (.cells #[.string ⟨#[65, 116, 111, 105]⟩, .string s, ev] 439 (0, 0)) ∧ Below w.heap.size w w' := Any.strconv_Atoi_range Tryz.laysC172 s hlim h ev w hv hev
def Tryz.lays145_ren : Go.Shelf.Ren := ⟨fun | 145 => 365 | 220 => 386 | 219 => 383 | 217 => 402 | 225 => 403 | 224 => 404 | 267 => 405 | 266 => 418 | 314 => 419 | n => n, fun | 9 => 9 | 4 => 4 | 59 => 379 | 3 => 3 | 5 => 5 | 46 => 279 | 146 => 359 | 51 => 198 | n => n, fun | 1 => 2 | n => n⟩
theorem Tryz.lays145 : Go.Proofs.Lays.n145 Tryz.prog Tryz.lays145_ren := {
 mixed := by kernel_rfl
 f145 := Tryz.func365.trans (congrArg some (by kernel_rfl))
 f217 := Tryz.func402.trans (congrArg some (by kernel_rfl))
 f219 := Tryz.func383.trans (congrArg some (by kernel_rfl))
 f220 := Tryz.func386.trans (congrArg some (by kernel_rfl))
 f224 := Tryz.func404.trans (congrArg some (by kernel_rfl))
 f225 := Tryz.func403.trans (congrArg some (by kernel_rfl))
 f266 := Tryz.func418.trans (congrArg some (by kernel_rfl))
 f267 := Tryz.func405.trans (congrArg some (by kernel_rfl))
 f314 := Tryz.func419.trans (congrArg some (by kernel_rfl))
 t3 := Tryz.underlying3
 a3 := Tryz.isAgg3
 z3 := Tryz.sizeOf3
 v3 := Tryz.zeroValue3
 t4 := Tryz.underlying4
 a4 := Tryz.isAgg4
 z4 := Tryz.sizeOf4
 v4 := Tryz.zeroValue4
 t5 := Tryz.underlying5
 a5 := Tryz.isAgg5
 z5 := Tryz.sizeOf5
 v5 := Tryz.zeroValue5
 t9 := Tryz.underlying9
 a9 := Tryz.isAgg9
 z9 := Tryz.sizeOf9
 v9 := Tryz.zeroValue9
 t46 := Tryz.underlying279
 a46 := Tryz.isAgg279
 z46 := Tryz.sizeOf279
 v46 := Tryz.zeroValue279
 t51 := Tryz.underlying198
 a51 := Tryz.isAgg198
 z51 := Tryz.sizeOf198
 v51 := Tryz.zeroValue198
 t59 := Tryz.underlying379
 a59 := Tryz.isAgg379
 z59 := Tryz.sizeOf379
 v59 := Tryz.zeroValue379
 t146 := Tryz.underlying359
 a146 := Tryz.isAgg359
 z146 := Tryz.sizeOf359
 v146 := Tryz.zeroValue359
 g1 := by kernel_rfl }
open Go.RowKit Go.Lib in
theorem Tryz.strings_Cut (s sep : ByteArray) (m : Int) (w : World) (hs : s.size < 4294967281) (hm : w.cell? ⟨2, 0, none⟩ = some (.int .i64 m)) :
  Calls Tryz.prog 365 #[.string s, .string sep] w fun e w' => e = .returned (.tuple #[.string ⟨(Lib.cut s.data.toList sep.data.toList).1.toArray⟩, .string ⟨(Lib.cut s.data.toList sep.data.toList).2.1.toArray⟩, .bool (Lib.cut s.data.toList sep.data.toList).2.2]) ∧ ∃ n, w' = w.drewN n := Any.strings_Cut Tryz.lays145 s sep m w hs hm
def Tryz.lays99_ren : Go.Shelf.Ren := ⟨fun | 99 => 311 | 206 => 346 | n => n, fun | 9 => 9 | 4 => 4 | 3 => 3 | n => n, fun | n => n⟩
theorem Tryz.lays99 : Go.Proofs.Lays.n99 Tryz.prog Tryz.lays99_ren := {
 mixed := by kernel_rfl
 f99 := Tryz.func311.trans (congrArg some (by kernel_rfl))
 f206 := Tryz.func346.trans (congrArg some (by kernel_rfl))
 t3 := Tryz.underlying3
 a3 := Tryz.isAgg3
 z3 := Tryz.sizeOf3
 v3 := Tryz.zeroValue3
 t4 := Tryz.underlying4
 a4 := Tryz.isAgg4
 z4 := Tryz.sizeOf4
 v4 := Tryz.zeroValue4
 t9 := Tryz.underlying9
 a9 := Tryz.isAgg9
 z9 := Tryz.sizeOf9
 v9 := Tryz.zeroValue9 }
open Go.RowKit Go.Lib in
theorem Tryz.strings_HasPrefix (s p : ByteArray) (w : World) :
  Calls Tryz.prog 311 #[.string s, .string p] w fun e w' => e = .returned (.bool (Lib.hasPrefix s.data.toList p.data.toList)) ∧ w' = w := Any.strings_HasPrefix Tryz.lays99 s p w
def Tryz.lays146_ren : Go.Shelf.Ren := ⟨fun | 146 => 282 | 221 => 327 | 268 => 361 | 138 => 362 | 143 => 363 | 195 => 381 | 197 => 373 | 218 => 382 | 219 => 383 | 260 => 397 | 217 => 402 | 225 => 403 | 224 => 404 | 267 => 405 | 266 => 418 | 314 => 419 | n => n, fun | 9 => 9 | 31 => 33 | 3 => 3 | 4 => 4 | 0 => 0 | 105 => 399 | 21 => 21 | 5 => 5 | 46 => 279 | 119 => 428 | 139 => 431 | 138 => 430 | 146 => 359 | 51 => 198 | n => n, fun | 1 => 2 | 3 => 3 | 4 => 4 | n => n⟩
theorem Tryz.lays146 : Go.Proofs.Lays.n146 Tryz.prog Tryz.lays146_ren := {
 mixed := by kernel_rfl
 f138 := Tryz.func362.trans (congrArg some (by kernel_rfl))
 f143 := Tryz.func363.trans (congrArg some (by kernel_rfl))
 f146 := Tryz.func282.trans (congrArg some (by kernel_rfl))
 f195 := Tryz.func381.trans (congrArg some (by kernel_rfl))
 f197 := Tryz.func373.trans (congrArg some (by kernel_rfl))
 f217 := Tryz.func402.trans (congrArg some (by kernel_rfl))
 f218 := Tryz.func382.trans (congrArg some (by kernel_rfl))
 f219 := Tryz.func383.trans (congrArg some (by kernel_rfl))
 f221 := Tryz.func327.trans (congrArg some (by kernel_rfl))
 f224 := Tryz.func404.trans (congrArg some (by kernel_rfl))
 f225 := Tryz.func403.trans (congrArg some (by kernel_rfl))
 f260 := Tryz.func397.trans (congrArg some (by kernel_rfl))
 f266 := Tryz.func418.trans (congrArg some (by kernel_rfl))
 f267 := Tryz.func405.trans (congrArg some (by kernel_rfl))
 f268 := Tryz.func361.trans (congrArg some (by kernel_rfl))
 f314 := Tryz.func419.trans (congrArg some (by kernel_rfl))
 t0 := Tryz.underlying0
 a0 := Tryz.isAgg0
 z0 := Tryz.sizeOf0
 v0 := Tryz.zeroValue0
 t3 := Tryz.underlying3
 a3 := Tryz.isAgg3
 z3 := Tryz.sizeOf3
 v3 := Tryz.zeroValue3
 t4 := Tryz.underlying4
 a4 := Tryz.isAgg4
 z4 := Tryz.sizeOf4
 v4 := Tryz.zeroValue4
 t5 := Tryz.underlying5
 a5 := Tryz.isAgg5
 z5 := Tryz.sizeOf5
 v5 := Tryz.zeroValue5
 t9 := Tryz.underlying9
 a9 := Tryz.isAgg9
 z9 := Tryz.sizeOf9
 v9 := Tryz.zeroValue9
 t21 := Tryz.underlying21
 a21 := Tryz.isAgg21
 z21 := Tryz.sizeOf21
 v21 := Tryz.zeroValue21
 t31 := Tryz.underlying33
 a31 := Tryz.isAgg33
 z31 := Tryz.sizeOf33
 v31 := Tryz.zeroValue33
 t46 := Tryz.underlying279
 a46 := Tryz.isAgg279
 z46 := Tryz.sizeOf279
 v46 := Tryz.zeroValue279
 t51 := Tryz.underlying198
 a51 := Tryz.isAgg198
 z51 := Tryz.sizeOf198
 v51 := Tryz.zeroValue198
 t105 := Tryz.underlying399
 a105 := Tryz.isAgg399
 z105 := Tryz.sizeOf399
 v105 := Tryz.zeroValue399
 t119 := Tryz.underlying428
 a119 := Tryz.isAgg428
 z119 := Tryz.sizeOf428
 t138 := Tryz.underlying430
 a138 := Tryz.isAgg430
 z138 := Tryz.sizeOf430
 v138 := Tryz.zeroValue430
 t139 := Tryz.underlying431
 a139 := Tryz.isAgg431
 z139 := Tryz.sizeOf431
 v139 := Tryz.zeroValue431
 t146 := Tryz.underlying359
 a146 := Tryz.isAgg359
 z146 := Tryz.sizeOf359
 v146 := Tryz.zeroValue359
 g1 := by kernel_rfl
 g3 := by kernel_rfl
 g4 := by kernel_rfl }
open Go.RowKit Go.Lib in
theorem Tryz.strings_Split (s sep : ByteArray) (m : Int) (w : World) (hs : s.size < 4294967281) (hm : w.cell? ⟨2, 0, none⟩ = some (.int .i64 m)) (h1 : 1 ≤ sep.size) :
  Calls Tryz.prog 282 #[.string s, .string sep] w fun e w' =>
   e = .returned (.slice (some ⟨w.heap.size, 0, none⟩) (Lib.countB s sep + 1) (Lib.countB s sep + 1)) ∧ w' = w.alloc (.cells ((Lib.splitB sep 0 (Lib.countB s sep) s).map Value.string).toArray 9) := Any.strings_Split Tryz.lays146 (by kernel_rfl) s sep m w hs hm h1
end Go.Proofs

namespace Go.Sx
open Go
set_option maxRecDepth 100000
set_option linter.unusedVariables false
set_option linter.unusedSimpArgs false
set_option maxHeartbeats 2000000
def cVols1 : Ctr := ⟨279, [.val true T_Vol (.all .b), .rp T_Vol (.all .b)], fun x => True, fun x => (sBool (decide ((x.1.1 : Str) = x.2.1.1)), [])⟩
theorem cVols1_ok : CtrOk Proofs.Tryz.prog cVols1 := by
 have hP := (Prg.none ttok mtok)
 refine ctr_of_body hP cVols1 (fn := Proofs.Tryz.f279) (rts := [.tmp 3]) Proofs.Tryz.func279 rfl (by kernel_rfl) rfl rfl ?_
 rintro ⟨⟨(a : Str), (b : List Ptr_)⟩, ⟨(c : Str), (e : List Ptr_)⟩, ⟨⟩⟩ _ hpre
 try dsimp only [Ty.den, Mode.den, mdens] at hpre
 refine ⟨rfl, ?_⟩
 refine sw_seq (xr hP 1 rfl (sw_seq (xr hP 2 rfl (sw_ret ⟨.inl rfl, _, rfl, ?_⟩))))
 simp [conj]
def cVols2 : Ctr := ⟨280, [.val true T_Ptr (.all .b), .rp TI pF], fun x => True, fun x => (sBool (!ptrV x.2.1 x.1), [])⟩
theorem cVols2_ok : CtrOk Proofs.Tryz.prog cVols2 := by
 have hP := ((Prg.none ttok mtok).and cPtrOk_ok)
 refine ctr_of_body hP cVols2 (fn := Proofs.Tryz.f280) (rts := [.tmp 3]) Proofs.Tryz.func280 rfl (by kernel_rfl) rfl rfl ?_
 rintro ⟨⟨(sz : Int), (sm : Int), (pl : List Plc)⟩, (d : Int), ⟨⟩⟩ _ hpre
 try dsimp only [Ty.den, Mode.den, mdens] at hpre
 refine ⟨rfl, ?_⟩
 refine sw_seq (xr hP 1 rfl (sw_seq (xg hP 2 [] rfl ?_ ?_)))
 ·simp [conj, maxL]
  try dsimp only [Ty.den, Ty.dflt]
  try simp only [rd_eta]
  repeat' apply And.intro
  all_goals first | rfl | assumption | omega | trivial
 refine sw_ret ⟨.inl rfl, _, rfl, ?_⟩
 simp [conj]
def cIdxV1 : Ctr := ⟨305, [.val false (.sl T_Vol) (.all .b), .clo 279 [(false, T_Vol, (.all .b))]], fun _ => True, fun x => (sInt .i64 (idxF (fun w : Vol_ => decide (w.1 = x.2.1.1.1)) x.1), [])⟩
theorem cIdxV1_ok : CtrOk Proofs.Tryz.prog cIdxV1 := by
 have hP := ((Prg.none ttok mtok).and cVols1_ok)
 refine ctr_of_body hP cIdxV1 (fn := Proofs.Tryz.f305) (rts := [.tmp 4]) Proofs.Tryz.func305 rfl (by kernel_rfl) rfl rfl ?_
 rintro ⟨(l : List Vol_), ⟨(y : Vol_), ⟨⟩⟩, ⟨⟩⟩ ⟨hdl, _⟩ hpre
 try dsimp only [Ty.den, Mode.den, mdens] at hpre
 refine ⟨rfl, ?_⟩
 have hml : l.length ≤ 140737488355328 := hdl.1
 refine sw_seq (xr hP 1 rfl (sw_seq (sw_seq (xr hP 2 rfl (sw_block (sw_loop (ι := Nat) (fun i => ⟨[.v false [.d (.sl T_Vol) (.all .b) l], .fn 279 [.rpt .b T_Vol (.all .b) y], .j, .j, .j, .j, .j, sInt .i64 (l.length : Int), sInt .i64 (i : Int), .j, .j, .j, .j, .j, .j, .j, .j, .j, .j], [], 2, []⟩) (fun i => l.length - i) (fun i => i ≤ l.length ∧ idxFGo (fun w : Vol_ => decide (w.1 = y.1)) (l.drop i) i = idxF (fun w : Vol_ => decide (w.1 = y.1)) l) 0 ⟨?_, ?_⟩ ?_))))))
 ·exact ⟨Nat.zero_le _, rfl⟩
 ·refine ent_ok rfl ?_
  first | trivial | (simp [conj]; done) | (simp [conj] at *; (try dsimp only [Ty.den, Ty.dflt] at *); omega)
 ·rintro i ⟨hi, hgo⟩
  refine sw_seq (xr hP 3 rfl (sw_seq (sw_cond rfl (fun c2 => ?_) (fun c2 => ?_))))
  ·have hlt : i < l.length := by simpa using c2
   refine sw_skip (sw_seq (sw_block (sw_seq (xr hP 4 rfl (sw_seq (xg hP 5 [] rfl ?_ ?_))))))
   ·simp [conj, maxL]
    try dsimp only [Ty.den, Ty.dflt]
    try simp only [rd_eta]
    repeat' apply And.intro
    all_goals first | assumption | omega | exact trivial
   refine sw_cond rfl (fun c4 => ?_) (fun c4 => ?_)
   ·replace c4 : (fun w : Vol_ => decide (w.1 = y.1)) l[i] = true := by simpa [gE hlt] using c4
    refine sw_seq (xr hP 6 rfl (sw_ret ⟨.inl rfl, _, rfl, ?_⟩))
    simp [conj, idxF_hit hlt hgo c4]
   ·replace c4 : (fun w : Vol_ => decide (w.1 = y.1)) l[i] = false := by simpa [gE hlt] using c4
    refine sw_skip (xr hP 6 rfl (⟨i + 1, ?_, ?_, ent_ok rfl ?_⟩))
    ·exact ⟨hlt, idxF_next hlt hgo c4⟩
    ·omega
    ·simp [conj, maxL]
     try dsimp only [Ty.den, Ty.dflt]
     try simp only [rd_eta]
     repeat' apply And.intro
     all_goals first | rfl | assumption | omega
  ·obtain rfl : i = l.length := by simp at c2; omega
   refine sw_exit (sw_seq (xr hP 4 rfl (sw_ret ⟨.inl rfl, _, rfl, ?_⟩)))
   simp [conj, idxF_end hgo]
def cContV1 : Ctr := ⟨278, [.val false (.sl T_Vol) (.all .b), .clo 279 [(false, T_Vol, (.all .b))]], fun _ => True, fun x => (sBool (List.any x.1 (fun w : Vol_ => decide (w.1 = x.2.1.1.1))), [])⟩
theorem cContV1_ok : CtrOk Proofs.Tryz.prog cContV1 := by
 have hP := ((Prg.none ttok mtok).and cIdxV1_ok)
 refine ctr_of_body hP cContV1 (fn := Proofs.Tryz.f278) (rts := [.tmp 4]) Proofs.Tryz.func278 rfl (by kernel_rfl) rfl rfl ?_
 rintro ⟨(l : List Vol_), ⟨(y : Vol_), ⟨⟩⟩, ⟨⟩⟩ _ hpre
 try dsimp only [Ty.den, Mode.den, mdens] at hpre
 refine ⟨rfl, ?_⟩
 refine sw_seq (xr hP 1 rfl (sw_seq (xr hP 2 rfl (sw_ret ⟨.inl rfl, _, rfl, ?_⟩))))
 simp [conj]
 exact idxF_any
def cIdxV2 : Ctr := ⟨286, [.val false (.sl T_Ptr) (.all .b), .clo 280 [(false, TI, pF)]], fun _ => True, fun x => (sInt .i64 (idxF (fun p : Ptr_ => !ptrV x.2.1.1 p) x.1), [])⟩
theorem cIdxV2_ok : CtrOk Proofs.Tryz.prog cIdxV2 := by
 have hP := ((Prg.none ttok mtok).and cVols2_ok)
 refine ctr_of_body hP cIdxV2 (fn := Proofs.Tryz.f286) (rts := [.tmp 4]) Proofs.Tryz.func286 rfl (by kernel_rfl) rfl rfl ?_
 rintro ⟨(l : List Ptr_), ⟨(y : Int), ⟨⟩⟩, ⟨⟩⟩ ⟨hdl, _⟩ hpre
 try dsimp only [Ty.den, Mode.den, mdens] at hpre
 refine ⟨rfl, ?_⟩
 have hml : l.length ≤ 140737488355328 := hdl.1
 refine sw_seq (xr hP 1 rfl (sw_seq (sw_seq (xr hP 2 rfl (sw_block (sw_loop (ι := Nat) (fun i => ⟨[.v false [.d (.sl T_Ptr) (.all .b) l], .fn 280 [.rpt .b TI pF y], .j, .j, .j, .j, .j, sInt .i64 (l.length : Int), sInt .i64 (i : Int), .j, .j, .j, .j, .j, .j, .j, .j, .j, .j], [], 2, []⟩) (fun i => l.length - i) (fun i => i ≤ l.length ∧ idxFGo (fun p : Ptr_ => !ptrV y p) (l.drop i) i = idxF (fun p : Ptr_ => !ptrV y p) l) 0 ⟨?_, ?_⟩ ?_))))))
 ·exact ⟨Nat.zero_le _, rfl⟩
 ·refine ent_ok rfl ?_
  first | trivial | (simp [conj]; done) | (simp [conj] at *; (try dsimp only [Ty.den, Ty.dflt] at *); omega)
 ·rintro i ⟨hi, hgo⟩
  refine sw_seq (xr hP 3 rfl (sw_seq (sw_cond rfl (fun c2 => ?_) (fun c2 => ?_))))
  ·have hlt : i < l.length := by simpa using c2
   refine sw_skip (sw_seq (sw_block (sw_seq (xr hP 4 rfl (sw_seq (xg hP 5 [] rfl ?_ ?_))))))
   ·simp [conj, maxL]
    try dsimp only [Ty.den, Ty.dflt]
    try simp only [rd_eta]
    repeat' apply And.intro
    all_goals first | assumption | omega | exact trivial
   refine sw_cond rfl (fun c4 => ?_) (fun c4 => ?_)
   ·replace c4 : (fun p : Ptr_ => !ptrV y p) l[i] = true := by simpa [gE hlt] using c4
    refine sw_seq (xr hP 6 rfl (sw_ret ⟨.inl rfl, _, rfl, ?_⟩))
    simp [conj, idxF_hit hlt hgo c4]
   ·replace c4 : (fun p : Ptr_ => !ptrV y p) l[i] = false := by simpa [gE hlt] using c4
    refine sw_skip (xr hP 6 rfl (⟨i + 1, ?_, ?_, ent_ok rfl ?_⟩))
    ·exact ⟨hlt, idxF_next hlt hgo c4⟩
    ·omega
    ·simp [conj, maxL]
     try dsimp only [Ty.den, Ty.dflt]
     try simp only [rd_eta]
     repeat' apply And.intro
     all_goals first | rfl | assumption | omega
  ·obtain rfl : i = l.length := by simp at c2; omega
   refine sw_exit (sw_seq (xr hP 4 rfl (sw_ret ⟨.inl rfl, _, rfl, ?_⟩)))
   simp [conj, idxF_end hgo]
def cContV2 : Ctr := ⟨202, [.val false (.sl T_Ptr) (.all .b), .clo 280 [(false, TI, pF)]], fun _ => True, fun x => (sBool (List.any x.1 (fun p : Ptr_ => !ptrV x.2.1.1 p)), [])⟩
theorem cContV2_ok : CtrOk Proofs.Tryz.prog cContV2 := by
 have hP := ((Prg.none ttok mtok).and cIdxV2_ok)
 refine ctr_of_body hP cContV2 (fn := Proofs.Tryz.f202) (rts := [.tmp 4]) Proofs.Tryz.func202 rfl (by kernel_rfl) rfl rfl ?_
 rintro ⟨(l : List Ptr_), ⟨(y : Int), ⟨⟩⟩, ⟨⟩⟩ _ hpre
 try dsimp only [Ty.den, Mode.den, mdens] at hpre
 refine ⟨rfl, ?_⟩
 refine sw_seq (xr hP 1 rfl (sw_seq (xr hP 2 rfl (sw_ret ⟨.inl rfl, _, rfl, ?_⟩))))
 simp [conj]
 exact idxF_any
def cVols : Ctr := ⟨195, [.val false TI pF, .val false (.sl T_Vol) (.all .b)], fun x => True, fun x => (sBool (volsV x.1 x.2.1), [])⟩
theorem cVols_ok : CtrOk Proofs.Tryz.prog cVols := by
 have hP := ((((Prg.none ttok mtok).and cVol_ok).and cContV1_ok).and cContV2_ok)
 refine ctr_of_body hP cVols (fn := Proofs.Tryz.f195) (rts := [.tmp 4]) Proofs.Tryz.func195 rfl (by kernel_rfl) rfl rfl ?_
 rintro ⟨(d : Int), (l : List Vol_), ⟨⟩⟩ ⟨_, hl0, _⟩ _
 try dsimp only [Ty.den, Mode.den, mdens] at _
 refine ⟨rfl, ?_⟩
 have hml : l.length ≤ 140737488355328 := hl0.1
 refine sw_seq (xr hP 1 rfl (sw_seq (sw_seq (xr hP 2 rfl (sw_block (sw_loop (ι := Nat) (fun i => ⟨[.j, .v false [.d (.sl T_Vol) (.all .b) l], .v false [.ptr ⟨1, 0, 0⟩ 0], .j, .j, .j, .j, .v false [.d (.sl T_Vol) (.all .b) l], sInt .i64 (l.length : Int), sInt .i64 (i : Int), .j, .j, .j, .j, .j, .j, .j, .j, .j, .j, .j, .j, .j, .j, .j, .j, .j, .j, .j, .j, .j, .j, .j, .j, .j, .j, .j, .j, .j], [(⟨1, 0, 0⟩, .var [.d TI pF d])], 2, []⟩) (fun i => l.length - i) (fun i => i ≤ l.length ∧ chkGo (volF d) (l.take i) (l.drop i) = chk (volF d) l) 0 ⟨?_, ?_⟩ ?_))))))
 ·exact ⟨Nat.zero_le _, rfl⟩
 ·refine ent_ok rfl ?_
  simp [conj]
 ·rintro i ⟨hi, hgo⟩
  refine sw_seq (xr hP 3 rfl (sw_seq (sw_cond rfl (fun c2 => ?_) (fun c2 => ?_))))
  ·have hlt : i < l.length := by simpa using c2
   have hml2 : l[i].2.length ≤ 140737488355328 := (hl0.2 _ (List.getElem_mem hlt)).2.1
   refine sw_skip (sw_seq (sw_block (sw_seq (xr hP 4 rfl (sw_seq (sw_seq ?_))))))
   refine sw_dec hP 5 [] 4 rfl (fun g4_4 => ?_) (fun g4_4 => ?_)
   ·replace g4_4 : nameV l[i].1 = false := by simpa [gE hlt] using g4_4
    have hf : volF d (l.take i) l[i] = false := by simp [volF, g4_4]
    refine xg hP 5 [(4, true)] rfl ?_ ?_
    ·simp [conj, gE hlt]
     repeat' apply And.intro
     all_goals first | trivial | assumption | omega
    refine sw_condT rfl (sw_seq (xr hP 6 rfl (sw_ret ⟨.inl rfl, _, rfl, ?_⟩)))
    have hv := chk_hit hlt hgo hf
    simp [conj, volsV, hv]
   ·replace g4_4 : nameV l[i].1 = true := by simpa [gE hlt] using g4_4
    refine sw_dec hP 5 [(4, false)] 10 rfl (fun g4_10 => ?_) (fun g4_10 => ?_)
    ·replace g4_10 : ¬ l[i].2.length = 3 := by
       have h := g4_10
       simp [gE hlt] at h
       omega
     have hf : volF d (l.take i) l[i] = false := by simp [volF, g4_10]
     refine xg hP 5 [(4, false), (10, true)] rfl ?_ ?_
     ·simp [conj, gE hlt]
      repeat' apply And.intro
      all_goals first | trivial | assumption | omega
     refine sw_condT rfl (sw_seq (xr hP 6 rfl (sw_ret ⟨.inl rfl, _, rfl, ?_⟩)))
     have hv := chk_hit hlt hgo hf
     simp [conj, volsV, hv]
    ·replace g4_10 : l[i].2.length = 3 := by
       have h := g4_10
       simp [gE hlt] at h
       omega
     refine xg hP 5 [(4, false), (10, false)] rfl ?_ ?_
     ·simp [conj, gE hlt]
      repeat' apply And.intro
      all_goals first | trivial | assumption | omega
     refine sw_cond rfl (fun c4 => ?_) (fun c4 => ?_)
     ·replace c4 : (l.take i).any (fun w => decide (w.1 = l[i].1)) = true := by simpa [gE hlt] using c4
      have hf : volF d (l.take i) l[i] = false := by unfold volF; rw [c4]; simp
      refine sw_seq (xr hP 6 rfl (sw_ret ⟨.inl rfl, _, rfl, ?_⟩))
      have hv := chk_hit hlt hgo hf
      simp [conj, volsV, hv]
     ·replace c4 : (l.take i).any (fun w => decide (w.1 = l[i].1)) = false := by simpa [gE hlt] using c4
      refine sw_skip (sw_seq (xg hP 6 [] rfl ?_ ?_))
      ·simp [conj, maxL]
       try dsimp only [Ty.den, Ty.dflt]
       try simp only [rd_eta]
       repeat' apply And.intro
       all_goals first | rfl | assumption | omega | trivial
      refine sw_cond rfl (fun c6 => ?_) (fun c6 => ?_)
      ·replace c6 : l[i].2.any (fun p => !ptrV d p) = true := by simpa [gE hlt] using c6
       have hf : volF d (l.take i) l[i] = false := by
         have h : l[i].2.all (ptrV d) = false := by rw [← not_any]; simp [c6]
         simp [volF, h]
       refine sw_seq (xr hP 7 rfl (sw_ret ⟨.inl rfl, _, rfl, ?_⟩))
       have hv := chk_hit hlt hgo hf
       simp [conj, volsV, hv]
      ·replace c6 : l[i].2.any (fun p => !ptrV d p) = false := by simpa [gE hlt] using c6
       have hf : volF d (l.take i) l[i] = true := by
         have h : l[i].2.all (ptrV d) = true := by rw [← not_any]; simp [c6]
         unfold volF; rw [g4_4, c4, h, g4_10]; rfl
       refine sw_skip (xr hP 7 rfl (⟨i + 1, ?_, ?_, ent_ok rfl ?_⟩))
       ·exact ⟨hlt, chk_next hlt hgo hf⟩
       ·omega
       ·simp [conj]
  ·obtain rfl : i = l.length := by simp at c2; omega
   refine sw_exit (sw_seq (xr hP 4 rfl (sw_ret ⟨.inl rfl, _, rfl, ?_⟩)))
   have hv := chk_end hgo
   simp [conj, volsV, hv]
   try omega
def cEqPl : Ctr := ⟨281, [.val false (.sl T_Place) (.all .b), .val false (.sl T_Place) (.all .b)], fun x => True, fun x => (sBool (decide ((x.1 : List Plc) = x.2.1)), [])⟩
theorem cEqPl_ok : CtrOk Proofs.Tryz.prog cEqPl := by
 have hP := (Prg.none ttok mtok)
 refine ctr_of_body hP cEqPl (fn := Proofs.Tryz.f281) (rts := [.tmp 4]) Proofs.Tryz.func281 rfl (by kernel_rfl) rfl rfl ?_
 rintro ⟨(a : List Plc), (b : List Plc), ⟨⟩⟩ ⟨hda, hdb, _⟩ _
 try dsimp only [Ty.den, Mode.den, mdens] at _
 refine ⟨rfl, ?_⟩
 have hml : a.length ≤ 140737488355328 := hda.1
 have hmb : b.length ≤ 140737488355328 := hdb.1
 refine sw_seq (xr hP 1 rfl (sw_seq (sw_seq (xr hP 2 rfl (sw_cond rfl (fun c1 => ?_) (fun c1 => ?_))))))
 ·replace c1 : ¬ a.length = b.length := by simp at c1; omega
  refine sw_seq (xr hP 3 rfl (sw_ret ⟨.inl rfl, _, rfl, ?_⟩))
  have hv := eqL_len c1
  simp [conj, hv]
 ·replace c1 : a.length = b.length := by simp at c1; omega
  refine sw_skip (sw_seq (sw_seq (xr hP 3 rfl (sw_block (sw_loop (ι := Nat) (fun i => ⟨[.v false [.d (.sl T_Place) (.all .b) a], .v false [.d (.sl T_Place) (.all .b) b], .j, .j, .j, .j, .j, .j, .j, .j, .j, .j, sInt .i64 (a.length : Int), sInt .i64 (i : Int), .j, .j, .j, .j, .j, .j, .j, .j, .j, .j, .j, .j], [], 3, []⟩) (fun i => a.length - i) (fun i => i ≤ a.length ∧ decide (a.drop i = b.drop i) = decide (a = b)) 0 ⟨?_, ?_⟩ ?_)))))
  ·exact ⟨Nat.zero_le _, rfl⟩
  ·refine ent_ok rfl ?_
   first | trivial | (simp [conj]; done) | (simp [conj] at *; (try dsimp only [Ty.den, Ty.dflt] at *); omega)
  ·rintro i ⟨hi, hgo⟩
   refine sw_seq (xr hP 4 rfl (sw_seq (sw_cond rfl (fun c4 => ?_) (fun c4 => ?_))))
   ·have hlt : i < a.length := by simpa using c4
    have hlt2 : i < b.length := by omega
    refine sw_skip (sw_seq (sw_block (sw_seq (xr hP 5 rfl (sw_seq (xg hP 6 [] rfl ?_ ?_))))))
    ·simp [conj, gE hlt, gE hlt2]
     try exact ⟨hlt, hlt2⟩
    refine sw_cond rfl (fun c6 => ?_) (fun c6 => ?_)
    ·replace c6 : ¬ a[i] = b[i] := by intro e; simp [gE hlt, gE hlt2, e] at c6
     refine sw_seq (xr hP 7 rfl (sw_ret ⟨.inl rfl, _, rfl, ?_⟩))
     have hv := eqL_hit hlt hlt2 hgo c6
     simp [conj, hv]
    ·replace c6 : a[i] = b[i] := by have h := c6; simp [gE hlt, gE hlt2] at h; exact Prod.ext h.1 h.2
     refine sw_skip (xr hP 7 rfl (⟨i + 1, ?_, ?_, ent_ok rfl ?_⟩))
     ·exact ⟨hlt, eqL_next hlt hlt2 hgo c6⟩
     ·omega
     ·simp [conj]
   ·obtain rfl : i = a.length := by simp at c4; omega
    refine sw_exit (sw_seq (xr hP 5 rfl (sw_ret ⟨.inl rfl, _, rfl, ?_⟩)))
    have hv := eqL_end c1 hgo
    simp [conj, hv]
def cSame : Ctr := ⟨197, [.val true T_Ptr (.all .b), .val true T_Ptr (.all .b)], fun x => True, fun x => (sBool (decide ((x.1 : Ptr_) = x.2.1)), [])⟩
theorem cSame_ok : CtrOk Proofs.Tryz.prog cSame := by
 have hP := ((Prg.none ttok mtok).and cEqPl_ok)
 refine ctr_of_body hP cSame (fn := Proofs.Tryz.f197) (rts := [.tmp 4]) Proofs.Tryz.func197 rfl (by kernel_rfl) rfl rfl ?_
 rintro ⟨⟨(sz : Int), (sm : Int), (pl : List Plc)⟩, ⟨(sz2 : Int), (sm2 : Int), (pl2 : List Plc)⟩, ⟨⟩⟩ _ _
 try dsimp only [Ty.den, Mode.den, mdens] at _
 refine ⟨rfl, ?_⟩
 refine sw_seq (xr hP 1 rfl (sw_seq ?_))
 refine sw_dec hP 2 [] 5 rfl (fun g1_5 => ?_) (fun g1_5 => ?_)
 ·replace g1_5 : sz = sz2 := of_decide_eq_true g1_5
  refine sw_dec hP 2 [(5, true)] 12 rfl (fun g1_12 => ?_) (fun g1_12 => ?_)
  ·replace g1_12 : sm = sm2 := of_decide_eq_true g1_12
   refine xg hP 2 [(5, true), (12, true)] rfl ?_ ?_
   ·simp only [cj, cl]
    try dsimp only [Ty.den, Ty.dflt]
    repeat' apply And.intro
    all_goals first | trivial | assumption | omega | exact decide_eq_true ‹_› | exact decide_eq_false ‹_› | (simp [*]; done)
   refine sw_ret ⟨.inl rfl, _, rfl, ?_⟩
   simp [conj, Prod.ext_iff, *]
  ·replace g1_12 : ¬ sm = sm2 := of_decide_eq_false g1_12
   refine xg hP 2 [(5, true), (12, false)] rfl ?_ ?_
   ·simp only [cj, cl]
    try dsimp only [Ty.den, Ty.dflt]
    repeat' apply And.intro
    all_goals first | trivial | assumption | omega | exact decide_eq_true ‹_› | exact decide_eq_false ‹_› | (simp [*]; done)
   refine sw_ret ⟨.inl rfl, _, rfl, ?_⟩
   simp [conj, Prod.ext_iff, *]
 ·replace g1_5 : ¬ sz = sz2 := of_decide_eq_false g1_5
  refine xg hP 2 [(5, false)] rfl ?_ ?_
  ·simp only [cj, cl]
   try dsimp only [Ty.den, Ty.dflt]
   repeat' apply And.intro
   all_goals first | trivial | assumption | omega | exact decide_eq_true ‹_› | exact decide_eq_false ‹_› | (simp [*]; done)
  refine sw_ret ⟨.inl rfl, _, rfl, ?_⟩
  simp [conj, Prod.ext_iff, *]
def cPtrs : Ctr := ⟨196, [.val true T_Root (.all .b)], fun x => SmallV x.1.2, fun x => (.v false [.own ⟨1, 0, 0⟩], [(⟨1, 0, 0⟩, .sl T_Ptr (.all .b) (blksOf x.1.2))])⟩
theorem cPtrs_ok : CtrOk Proofs.Tryz.prog cPtrs := by
 have hP := (Prg.none ttok mtok)
 refine ctr_of_body hP cPtrs (fn := Proofs.Tryz.f196) (rts := [.tmp 2]) Proofs.Tryz.func196 rfl (by kernel_rfl) rfl rfl ?_
 rintro ⟨⟨(tg : Int), (l : List Vol_)⟩, ⟨⟩⟩ _ hpre
 try dsimp only [Ty.den, Mode.den, mdens] at hpre
 refine ⟨rfl, ?_⟩
 replace hpre : SmallV l := hpre
 have hml : l.length ≤ 100 := hpre.1
 refine sw_seq (xr hP 1 rfl (sw_seq (xr hP 2 rfl (sw_seq (sw_seq (xr hP 3 rfl (sw_block (sw_loop (ι := Nat) (fun i => ⟨[.j, .v false [.ptr ⟨1, 0, 0⟩ 0], .j, .v false [.own ⟨0, 9, 0⟩], .j, .j, .j, .v false [.d (.sl T_Vol) (.all .b) l], sInt .i64 (l.length : Int), sInt .i64 (i : Int), .j, .j, .j, .j, .j, .j, .j, .j, .j], [(⟨0, 9, 0⟩, .sl T_Ptr (.all .b) (blksOf (l.take i)))], 3, []⟩) (fun i => l.length - i) (fun i => i ≤ l.length) 0 ⟨?_, ?_⟩ ?_))))))))
 ·exact Nat.zero_le _
 ·refine ent_ok rfl ?_
  simp [conj, blksOf]
 ·rintro i hi
  refine sw_seq (xr hP 4 rfl (sw_seq (sw_cond rfl (fun c3 => ?_) (fun c3 => ?_))))
  ·have hlt : i < l.length := by simpa using c3
   have hb1 := blks_len hpre (i := i)
   have hb2 := hpre.2 _ (List.getElem_mem hlt)
   refine sw_skip (sw_seq (sw_block (sw_seq (xr hP 5 rfl (xg hP 6 [] rfl ?_ ?_)))))
   ·simp [conj, maxL, gE hlt]
    omega
   refine xr hP 7 rfl (⟨i + 1, ?_, ?_, ent_ok rfl ?_⟩)
   ·exact hlt
   ·omega
   ·simp [conj, gE hlt]
    exact flat_next hlt
  ·obtain rfl : i = l.length := by simp at c3; omega
   refine sw_exit (sw_seq (xr hP 5 rfl (sw_ret ⟨.inl rfl, _, rfl, ?_⟩)))
   simp [conj]
def cRootOk : Ctr := ⟨116, [.val false TI pF, .val true T_Root (.all .b)], fun x => True, fun x => (sBool (rootV x.1 x.2.1), [])⟩
theorem cRootOk_ok : CtrOk Proofs.Tryz.prog cRootOk := by
 have hP := (((((Prg.none ttok mtok).and cPool_ok).and cVols_ok).and cPtrs_ok).and cSame_ok)
 refine ctr_of_body hP cRootOk (fn := Proofs.Tryz.f116) (rts := [.tmp 4]) Proofs.Tryz.func116 rfl (by kernel_rfl) rfl rfl ?_
 rintro ⟨(d : Int), ⟨(tg : Int), (l : List Vol_)⟩, ⟨⟩⟩ ⟨_, ⟨_, hl0⟩, _⟩ _
 try dsimp only [Ty.den, Mode.den, mdens] at _
 refine ⟨rfl, ?_⟩
 have hml : l.length ≤ 140737488355328 := hl0.1
 have hpl0 := blks_pl (l := l) (fun v hv p hp => ((hl0.2 v hv).2.2 p hp).2.2.1)
 refine sw_seq (xr hP 1 rfl (sw_seq (sw_seq ?_)))
 refine sw_dec hP 2 [] 3 rfl (fun g1_3 => ?_) (fun g1_3 => ?_)
 ·replace g1_3 : poolV d = false := by simpa using g1_3
  refine xg hP 2 [(3, true)] rfl ?_ ?_
  ·simp only [cj, cl]
   try dsimp only [Ty.den, Ty.dflt]
   repeat' apply And.intro
   all_goals first | trivial | assumption | omega | exact decide_eq_true ‹_› | exact decide_eq_false ‹_› | (simp [*]; done)
  refine sw_condT rfl (sw_seq (xr hP 3 rfl (sw_ret ⟨.inl rfl, _, rfl, ?_⟩)))
  simp [conj, rootV, inV, *]
  try omega
 ·replace g1_3 : poolV d = true := by simpa using g1_3
  refine sw_dec hP 2 [(3, false)] 8 rfl (fun g1_8 => ?_) (fun g1_8 => ?_)
  ·replace g1_8 : tg < 0 := of_decide_eq_true g1_8
   refine xg hP 2 [(3, false), (8, true)] rfl ?_ ?_
   ·simp only [cj, cl]
    try dsimp only [Ty.den, Ty.dflt]
    repeat' apply And.intro
    all_goals first | trivial | assumption | omega | exact decide_eq_true ‹_› | exact decide_eq_false ‹_› | (simp [*]; done)
   refine sw_condT rfl (sw_seq (xr hP 3 rfl (sw_ret ⟨.inl rfl, _, rfl, ?_⟩)))
   simp [conj, rootV, inV, *]
   try omega
  ·replace g1_8 : ¬ tg < 0 := of_decide_eq_false g1_8
   refine sw_dec hP 2 [(3, false), (8, false)] 13 rfl (fun g1_13 => ?_) (fun g1_13 => ?_)
   ·replace g1_13 : 100000 < tg := of_decide_eq_true g1_13
    refine xg hP 2 [(3, false), (8, false), (13, true)] rfl ?_ ?_
    ·simp only [cj, cl]
     try dsimp only [Ty.den, Ty.dflt]
     repeat' apply And.intro
     all_goals first | trivial | assumption | omega | exact decide_eq_true ‹_› | exact decide_eq_false ‹_› | (simp [*]; done)
    refine sw_condT rfl (sw_seq (xr hP 3 rfl (sw_ret ⟨.inl rfl, _, rfl, ?_⟩)))
    simp [conj, rootV, inV, *]
    try omega
   ·replace g1_13 : ¬ 100000 < tg := of_decide_eq_false g1_13
    refine xg hP 2 [(3, false), (8, false), (13, false)] rfl ?_ ?_
    ·simp only [cj, cl]
     try dsimp only [Ty.den, Ty.dflt]
     repeat' apply And.intro
     all_goals first | trivial | assumption | omega | exact decide_eq_true ‹_› | exact decide_eq_false ‹_› | (simp [*]; done)
    refine sw_cond rfl (fun c1 => ?_) (fun c1 => ?_)
    ·replace c1 : volsV d l = false := by simpa using c1
     refine sw_seq (xr hP 3 rfl (sw_ret ⟨.inl rfl, _, rfl, ?_⟩))
     simp [conj, rootV, inV, *]
     try omega
    ·replace c1 : volsV d l = true := by simpa using c1
     have hsv := volsV_small c1
     have hbl := blks_all hsv
     have hin : inV tg 0 100000 = true := by simp [inV]; omega
     refine sw_skip (sw_seq (xr hP 3 rfl (sw_seq (sw_seq (xg hP 4 [] rfl ?_ ?_)))))
     ·simp [conj, maxL]
      try dsimp only [Ty.den, Ty.dflt]
      try simp only [rd_eta]
      exact hsv
     refine sw_block (sw_loop (ι := Nat × List (Plc × Ptr_)) (fun ⟨i, m⟩ => ⟨[sInt .i64 d, .j, .j, .v false [.ptr ⟨1, 0, 0⟩ 0], .j, .v false [.own ⟨0, 9, 0⟩], .j, .j, .j, .j, .j, .j, .j, .j, .j, .j, .j, .j, .j, .j, .j, .j, .j, .j, .j, .j, .j, .j, .j, .j, .j, .j, .j, .j, .v false [.own ⟨0, 9, 1⟩], sInt .i64 ((blksOf l).length : Int), sInt .i64 (i : Int), .j, .j, .j, .j, .j, .j, .j, .j, .j, .j, .j, .j, .j, .j, .j, .j, .j, .j, .j, .j, .j, .j, .j, .j, .j, .j, .j, .j], [(⟨1, 0, 0⟩, .var [.d TI pF tg, .d (.sl T_Vol) (.all .b) l]), (⟨0, 9, 0⟩, .mp true true T_Place T_Ptr mapF m), (⟨0, 9, 1⟩, .sl T_Ptr (.all .b) (blksOf l))], 4, []⟩) (fun ⟨i, m⟩ => (blksOf l).length - i) (fun ⟨i, m⟩ => i ≤ (blksOf l).length ∧ ownGo m (pairsOf ((blksOf l).drop i)) = ownGo [] (pairsOf (blksOf l))) (0, []) ⟨?_, ?_⟩ ?_)
     ·exact ⟨Nat.zero_le _, rfl⟩
     ·refine ent_ok rfl ?_
      simp [conj]
     ·rintro ⟨i, m⟩ ⟨hi, hgo0⟩
      refine sw_seq (xr hP 5 rfl (sw_seq (sw_cond rfl (fun c5 => ?_) (fun c5 => ?_))))
      ·have hlt : i < (blksOf l).length := by simpa using c5
       have hpl1 := hpl0 _ (List.getElem_mem hlt)
       refine sw_skip (sw_seq (sw_block (sw_seq (xg hP 6 [] rfl ?_ ?_))))
       ·simp [conj, gE hlt]
        exact hlt
       refine sw_seq (xr hP 7 rfl (sw_block (sw_loop (ι := Nat × List (Plc × Ptr_)) (fun ⟨j, m⟩ => ⟨[sInt .i64 d, .j, .j, .v false [.ptr ⟨1, 0, 0⟩ 0], .j, .v false [.own ⟨0, 9, 0⟩], .j, .v false [.ptr ⟨0, 9, 2⟩ 0], .j, .j, .j, .j, .j, .j, .j, .j, .j, .j, .j, .j, .j, .j, .j, .j, .j, .j, .j, .j, .j, .j, .j, .j, .j, .j, .v false [.own ⟨0, 9, 1⟩], sInt .i64 ((blksOf l).length : Int), sInt .i64 (i : Int), .j, .j, .j, .j, .v false [.d (.sl T_Place) (.all .b) (blksOf l)[i].2.2], sInt .i64 ((blksOf l)[i].2.2.length : Int), sInt .i64 (j : Int), .j, .j, .j, .j, .j, .j, .j, .j, .j, .j, .j, .j, .j, .j, .j, .j, .j, .j, .j, .j, .j], [(⟨1, 0, 0⟩, .var [.d TI pF tg, .d (.sl T_Vol) (.all .b) l]), (⟨0, 9, 0⟩, .mp true true T_Place T_Ptr mapF m), (⟨0, 9, 1⟩, .sl T_Ptr (.all .b) (blksOf l)), (⟨0, 9, 2⟩, .var [.d TI pF (blksOf l)[i].1, .d TI pF (blksOf l)[i].2.1, .d (.sl T_Place) (.all .b) (blksOf l)[i].2.2])], 7, []⟩) (fun ⟨j, m⟩ => (blksOf l)[i].2.2.length - j) (fun ⟨j, m⟩ => j ≤ (blksOf l)[i].2.2.length ∧ ownGo m (((blksOf l)[i].2.2.drop j).map (fun a => (a, (blksOf l)[i])) ++ pairsOf ((blksOf l).drop (i + 1))) = ownGo [] (pairsOf (blksOf l))) (0, m) ⟨?_, ?_⟩ ?_)))
       ·exact ⟨Nat.zero_le _, own_in hlt hgo0⟩
       ·refine ent_ok rfl ?_
        simp [conj, gE hlt]
       ·rintro ⟨j, m⟩ ⟨hj, hgo⟩
        refine sw_seq (xr hP 8 rfl (sw_seq (sw_cond rfl (fun c8 => ?_) (fun c8 => ?_))))
        ·have hlj : j < (blksOf l)[i].2.2.length := by simpa using c8
         refine sw_skip (sw_seq (sw_block (sw_seq (xg hP 9 [] rfl ?_ ?_))))
         ·simp [conj, gE hlj]
          exact hlj
         refine sw_seq (sw_seq (xg hP 10 [] rfl ?_ ?_))
         ·simp [conj, gE hlj]
         refine sw_seq ?_
         refine sw_dec hP 11 [] 1 rfl (fun g11_1 => ?_) (fun g11_1 => ?_)
         ·have hg : (mget PK m (blksOf l)[i].2.2[j]).isSome = true := by simpa [gE hlt, gE hlj] using g11_1
          obtain ⟨q, hq⟩ := Option.isSome_iff_exists.1 hg
          refine xg hP 11 [(1, true)] rfl ?_ ?_
          ·simp only [cj, cl]
           try dsimp only [Ty.den, Ty.dflt]
           repeat' apply And.intro
           all_goals first | trivial | exact g11_1 | exact And.intro trivial g11_1
          refine sw_cond rfl (fun c11 => ?_) (fun c11 => ?_)
          ·replace c11 : ¬ (blksOf l)[i] = q := by
             have h := c11
             simp [gE hlt, gE hlj, hq] at h
             intro e
             rw [e] at h
             simp at h
           have hv := own_bad hlj hgo hq c11
           refine sw_seq (xr hP 12 rfl (sw_ret ⟨.inl rfl, _, rfl, ?_⟩))
           simp [conj, rootV, g1_3, hin, c1, hv]
          ·replace c11 : (blksOf l)[i] = q := by
             have h := c11
             simp [gE hlt, gE hlj, hq] at h
             exact Prod.ext h.1 (Prod.ext h.2.1 h.2.2)
           have hnx := own_some hlj hgo hq c11
           refine sw_skip (xg hP 12 [] rfl ?_ ?_)
           ·simp [conj, maxL]
            try dsimp only [Ty.den, Ty.dflt]
            try simp only [rd_eta]
            repeat' apply And.intro
            all_goals first | rfl | assumption | omega
           refine xr hP 13 rfl (⟨(j + 1, mset PK m (blksOf l)[i].2.2[j] (blksOf l)[i]), ?_, ?_, ent_ok rfl ?_⟩)
           ·exact ⟨hlj, hnx⟩
           ·show (blksOf l)[i].2.2.length - (j + 1) < (blksOf l)[i].2.2.length - j
            omega
           ·simp [conj, gE hlt, gE hlj]
         ·have hg : mget PK m (blksOf l)[i].2.2[j] = none := by simpa [gE hlt, gE hlj] using g11_1
          have hnx := own_none hlj hgo hg
          refine xg hP 11 [(1, false)] rfl ?_ ?_
          ·simp only [cj, cl]
           try dsimp only [Ty.den, Ty.dflt]
           repeat' apply And.intro
           all_goals first | trivial | exact g11_1 | exact And.intro trivial g11_1
          refine sw_condF rfl (sw_skip (xg hP 12 [] rfl ?_ ?_))
          ·simp [conj, maxL]
           try dsimp only [Ty.den, Ty.dflt]
           try simp only [rd_eta]
           repeat' apply And.intro
           all_goals first | rfl | assumption | omega
          refine xr hP 13 rfl (⟨(j + 1, mset PK m (blksOf l)[i].2.2[j] (blksOf l)[i]), ?_, ?_, ent_ok rfl ?_⟩)
          ·exact ⟨hlj, hnx⟩
          ·show (blksOf l)[i].2.2.length - (j + 1) < (blksOf l)[i].2.2.length - j
           omega
          ·simp [conj, gE hlt, gE hlj]
        ·obtain rfl : j = (blksOf l)[i].2.2.length := by simp at c8; omega
         refine sw_exit (xr hP 9 rfl (⟨(i + 1, m), ?_, ?_, ent_ok rfl ?_⟩))
         ·exact ⟨hlt, own_out hgo⟩
         ·show (blksOf l).length - (i + 1) < (blksOf l).length - i
          omega
         ·simp [conj]
      ·obtain rfl : i = (blksOf l).length := by simp at c5; omega
       refine sw_exit (sw_seq (xr hP 6 rfl (sw_ret ⟨.inl rfl, _, rfl, ?_⟩)))
       have hv := own_end hgo0
       simp [conj, rootV, g1_3, hin, c1, hv]
end Go.Sx

namespace Go.Sx
open Go Go.RowKit
def cItoa : Ctr := ⟨192, [.val false TI pF], fun _ => True, fun x => (sStr (itoaV x.1), [])⟩
theorem cItoa_ok : CtrOk Proofs.Tryz.prog cItoa := by
 refine ctr_of_below (fn := Proofs.Tryz.f192) Proofs.Tryz.func192 rfl rfl rfl ?_
 rintro G w args ⟨(n : Int), ⟨⟩⟩ _ ham ⟨v, vs, rfl, ⟨_, cs, rfl, _, ⟨rfl, hn⟩⟩, rfl⟩ _
 rw [inR_i64] at hn
 have htab : Lib.TabIs Proofs.Tryz.prog w "internal/strconv.uint64pow10" .u64 Lib.pow10Tab := by
  unfold Lib.TabIs World.var?
  cases hg : Proofs.Tryz.prog.globalNamed "internal/strconv.uint64pow10" with
  | none =>
   have h0 : (Proofs.Tryz.prog.globalNamed "internal/strconv.uint64pow10").isSome = true := by kernel_rfl
   rw [hg] at h0
   cases h0
  | some b =>
   obtain ⟨_, C, t, fz, h2, h3⟩ := ham.1 _ _ (List.mem_cons_self ..) b hg
   simp only [Option.bind_some, h2, Option.some.injEq]
   apply Array.ext'
   rw [h3]
   rfl
 refine (Proofs.Tryz.strconv_Itoa n hn.1 hn.2 w htab).mono ?_
 rintro e w' ⟨rfl, k, os, rfl⟩
 refine ⟨_, rfl, grown_below w k os, fun G' => ?_, rfl⟩
 refine .of1 rfl ⟨rfl, rfl, ?_⟩
 have := Lib.itoa_length_le n hn.1 hn.2
 show (Lib.itoa n).length ≤ maxL
 unfold maxL; omega
def cJoin : Ctr := ⟨277, [.val false (.sl .str) (.all .b), .val false .str pF], fun x => List.length (Lib.join x.1 x.2.1) ≤ 1000000, fun x => (sStr (Lib.join x.1 x.2.1), [])⟩
theorem join_mk (l : List Str) (s : Str) : (⟨(Lib.join ((l.map mkS).map (·.data.toList)) (mkS s).data.toList).toArray⟩ : ByteArray) = mkS (Lib.join l s) := by
 have h : (l.map mkS).map (·.data.toList) = l := by
  rw [List.map_map]
  exact (List.map_congr_left (fun x _ => rfl)).trans (List.map_id l)
 rw [h]
 rfl
theorem cJoin_ok : CtrOk Proofs.Tryz.prog cJoin := by
 refine ctr_of_below (fn := Proofs.Tryz.f277) Proofs.Tryz.func277 rfl rfl rfl ?_
 rintro G w args ⟨(l : List Str), (s : Str), ⟨⟩⟩ hbnd ham ⟨v, vs, rfl, ⟨_, cs, rfl, _, ⟨A, n, c, rfl, hn, hc, hm, _, hblk⟩⟩, v2, vs2, rfl, ⟨_, cs2, rfl, _, ⟨rfl, hl2⟩⟩, rfl⟩ hpre
 replace hpre : (Lib.join l s).length ≤ 1000000 := hpre
 replace hn : n = l.length := hn
 subst hn
 have fin : ∀ G' w', MtS G' w' (sStr (Lib.join l s)) (.string (mkS (Lib.join l s))) := fun G' w' => .of1 rfl ⟨rfl, rfl, by show (Lib.join l s).length ≤ maxL; unfold maxL; omega⟩
 rcases hblk with ⟨_, hz⟩ | ⟨b, off, C, t, fz, rfl, hlab, hh, hs, _, hj⟩
 ·have h0 : l = [] := List.eq_nil_of_length_eq_zero (by omega)
  subst h0
  refine (Proofs.Tryz.strings_Join_none A c (mkS s) w).mono ?_
  rintro e w' ⟨rfl, rfl⟩
  exact ⟨_, rfl, Below.refl _ _, fun G' => fin G' _, rfl⟩
 ·have hb : b < w.heap.size := hbnd b (by rcases hlab with h | h <;> (rw [h]; simp))
  have := Proofs.Tryz.strings_Join b off c (l.map mkS) (mkS s) w (fun j x hx => by
   rw [List.getElem?_map, Option.map_eq_some_iff] at hx
   obtain ⟨y, hy, rfl⟩ := hx
   have h1 := (hj j y hy).1
   have h2 : (cellsAt C (off + j * 1) 1)[0]? = some (.string (mkS y)) := by
    rw [show (Ty.str).size = 1 from rfl] at h1
    rw [h1]; rfl
   have h3 := cellsAt_get h2
   rw [cell_of_heap hh (o := off) j]
   rw [show off + j * 1 + 0 = off + j by omega] at h3
   exact h3) hb (by rw [List.length_map]; exact hm) (by rw [List.length_map]; exact hc) (by
   have h := congrArg (fun b : ByteArray => b.data.toList.length) (join_mk l s)
   simp only [mkS] at h
   refine Nat.le_trans (Nat.le_of_eq ?_) (Nat.le_trans hpre (by omega))
   simpa [mkS] using h)
  rw [List.length_map] at this
  refine this.mono ?_
  rintro e w' ⟨rfl, hB⟩
  exact ⟨_, rfl, hB, fun G' => by rw [join_mk]; exact fin G' _, rfl⟩
end Go.Sx

namespace Go.Sx
open Go
def jw (ws : List Str) : Str := Lib.join ws [32]
theorem prefix_word : ∀ {f w y : Str}, (∀ c ∈ f, c ≠ 32) → (∀ c ∈ w, c ≠ 32) → (f ++ [32]).isPrefixOf (w ++ 32 :: y) = decide (f = w) := by
 intro f
 induction f with
 | nil =>
  intro w y _ hw
  cases w with
  | nil => simp [List.isPrefixOf]
  | cons c w =>
   have := hw c List.mem_cons_self
   simp [List.isPrefixOf, Ne.symm this]
 | cons a f ih =>
  intro w y hf hw
  have ha := hf a List.mem_cons_self
  cases w with
  | nil => simp [List.isPrefixOf, ha]
  | cons c w =>
   have := ih (w := w) (y := y) (fun x hx => hf x (List.mem_cons_of_mem _ hx)) (fun x hx => hw x (List.mem_cons_of_mem _ hx))
   simp only [List.cons_append, List.isPrefixOf, this]
   by_cases hac : a = c
   ·subst hac; simp
   ·simp [hac]
theorem jw_tail (w : Str) (ws : List Str) : ∃ y, jw (w :: ws) ++ [32] = w ++ 32 :: y := by
 unfold jw
 rw [Lib.join_cons]
 cases ws with
 | nil => exact ⟨[], by simp [Lib.joinTail]⟩
 | cons x ws => exact ⟨x ++ Lib.joinTail [32] ws ++ [32], by simp [Lib.joinTail]⟩
theorem nextI_jw {f w : Str} {ws rest : List Str} {e : Nat} (hf : Cl f) (hw : Cl w) : nextI f (jw (w :: ws) :: rest, e) = decide (f = w) := by
 unfold nextI
 rw [if_neg (by simp)]
 show Lib.hasPrefix (jw (w :: ws) ++ [32]) (f ++ [32]) = _
 obtain ⟨y, hy⟩ := jw_tail w ws
 rw [hy]
 exact prefix_word (fun c hc => (hf c hc).1) (fun c hc => (hw c hc).1)
theorem wordsI_jw {f : Str} {ws rest : List Str} {e : Nat} (h : LOk (f :: ws)) : wordsI f (jw (f :: ws) :: rest, e) = (ws, (rest, e)) := by
 unfold wordsI
 rw [if_neg (by simp)]
 have e1 : cutV 32 (List.getD (jw (f :: ws) :: rest, e).1 0 []) = f :: ws := cut_line h
 rw [e1]
 simp
theorem numI_itoa {n : Int} {s : RdS} (h : 0 ≤ n) (h2 : n < 1000000000000) : numI (itoaV n) s = (n, s) := by
 unfold numI
 obtain ⟨a, b⟩ := atoN_itoa h h2
 rw [a, b]
 rfl
theorem wordV_cut {a : Plc} (h0 : 0 ≤ a.1) : Lib.cut (wordV a) [46] = (itoaV a.1, itoaV a.2, true) := by
 have hn : ∀ c ∈ itoaV a.1, c ≠ 46 := by
  intro c hc
  have := itoaV_dig _ h0 c hc
  rintro rfl; revert this; decide
 unfold wordV
 rw [List.append_assoc, List.singleton_append]
 exact cut_at hn
theorem plcsI_words : ∀ {pl : List Plc} {out : List Plc} {s : RdS}, (∀ a ∈ pl, placeV 4 a = true) → plcsI (pl.map wordV) out s = (out ++ pl, s) := by
 intro pl
 induction pl with
 | nil => intro out s _; simp [plcsI]
 | cons a pl ih =>
  intro out s h
  have ha := h a List.mem_cons_self
  simp only [placeV, Bool.and_eq_true, decide_eq_true_eq] at ha
  simp only [List.map_cons, plcsI]
  rw [wordV_cut ha.1]
  simp only
  rw [numI_itoa ha.1 (by omega), numI_itoa ha.2.2.1 (by omega), (atoN_itoa ha.1 (by omega)).1, (atoN_itoa ha.2.2.1 (by omega)).1, ih (fun x hx => h x (List.mem_cons_of_mem _ hx)), List.append_assoc]
  rfl
theorem onlyI_one (w : Str) (s : RdS) : onlyI [w] s = (w, s) := by unfold onlyI; simp
theorem cl_nN : Cl nN := cl_lit (by decide)
theorem cl_nV : Cl nV := cl_lit (by decide)
theorem cl_nR : Cl nR := cl_lit (by decide)
theorem cl_nS : Cl nS := cl_lit (by decide)
theorem cl_tP : Cl tPtr := cl_lit (by decide)
theorem ptrI_jw {d : Int} {p : Ptr_} {rest : List Str} (h : ptrV d p = true) : ptrI (jw (pW p) :: rest, 0) = (p, (rest, 0)) := by
 have hl := lok_W h
 by_cases hn : noneV p = true
 ·have e : pW p = [nN] := by unfold pW; rw [if_pos hn]
  rw [e] at hl ⊢
  unfold ptrI
  rw [nextI_jw cl_nN cl_nN, if_pos (by decide), wordsI_jw hl, none_eq hn]
 ·obtain ⟨h1, h2, h3⟩ := ptrV_wide2 h hn
  have e : pW p = tPtr :: itoaV p.1 :: itoaV p.2.1 :: p.2.2.map wordV := by unfold pW; rw [if_neg hn]; rfl
  rw [e] at hl ⊢
  unfold ptrI
  rw [nextI_jw cl_nN cl_tP, if_neg (by decide), wordsI_jw hl]
  simp only
  rw [if_neg (by simp)]
  show ((atoN (itoaV p.1), atoN (itoaV p.2.1), (plcsI (p.2.2.map wordV) [] (numI (itoaV p.2.1) (numI (itoaV p.1) (rest, 0)).2).2).1), (plcsI (p.2.2.map wordV) [] (numI (itoaV p.2.1) (numI (itoaV p.1) (rest, 0)).2).2).2) = _
  rw [numI_itoa h1.1 (by omega), numI_itoa h2.1 (by omega), plcsI_words h3, (atoN_itoa h1.1 (by omega)).1, (atoN_itoa h2.1 (by omega)).1]
  rfl
theorem blksI_jw {d : Int} : ∀ {bl out : List Ptr_} {rest : List Str}, (∀ p ∈ bl, ptrV d p = true) → blksI bl.length out (bl.map (fun p => jw (pW p)) ++ rest, 0) = (out ++ bl, (rest, 0)) := by
 intro bl
 induction bl with
 | nil => intro out rest _; simp [blksI]
 | cons p bl ih =>
  intro out rest h
  simp only [List.map_cons, List.cons_append, List.length_cons, blksI]
  rw [ptrI_jw (h p List.mem_cons_self)]
  simp only
  rw [ih (fun q hq => h q (List.mem_cons_of_mem _ hq)), List.append_assoc]
  rfl
theorem volsI_jw {d : Int} : ∀ {vs out : List Vol_} {rest : List Str} {n : Nat}, (∀ v ∈ vs, nameV v.1 = true ∧ v.2.length = 3 ∧ ∀ p ∈ v.2, ptrV d p = true) → nextI nV (rest, 0) = false → vs.length ≤ n → volsI n out ((vs.flatMap vW).map jw ++ rest, 0) = (out ++ vs, (rest, 0)) := by
 intro vs
 induction vs with
 | nil =>
  intro out rest n _ hr _
  rw [volsI_stop (by rintro ⟨_, h⟩; rw [show ((([] : List Vol_).flatMap vW).map jw ++ rest, 0) = (rest, 0) from rfl, hr] at h; cases h)]
  simp
 | cons v vs ih =>
  intro out rest n h hr hn
  obtain ⟨m, rfl⟩ : ∃ m, n = m + 1 := ⟨n - 1, by simp only [List.length_cons] at hn; omega⟩
  obtain ⟨a, b, c⟩ := h v List.mem_cons_self
  have hcl : Cl v.1 := by
   simp only [nameV, Bool.and_eq_true] at a
   exact cl_name a.2
  have e : ((v :: vs).flatMap vW).map jw ++ rest = jw (nV :: [v.1]) :: (v.2.map (fun p => jw (pW p)) ++ ((vs.flatMap vW).map jw ++ rest)) := by
   simp [List.flatMap_cons, vW, Function.comp_def]
  rw [e]
  simp only [volsI]
  rw [nextI_jw cl_nV cl_nV, if_pos ⟨trivial, by decide⟩, wordsI_jw (lok_two cl_nV hcl)]
  have eo : onlyI [v.1] (v.2.map (fun p => jw (pW p)) ++ ((vs.flatMap vW).map jw ++ rest), 0) = (v.1, (v.2.map (fun p => jw (pW p)) ++ ((vs.flatMap vW).map jw ++ rest), 0)) := by
   exact onlyI_one _ _
  simp only
  rw [eo]
  simp only
  have hb := blksI_jw (d := d) (bl := v.2) (out := []) (rest := (vs.flatMap vW).map jw ++ rest) c
  rw [b] at hb
  rw [hb]
  simp only [List.nil_append]
  rw [ih (fun w hw => h w (List.mem_cons_of_mem _ hw)) hr (by simp only [List.length_cons] at hn; omega), List.append_assoc]
  rfl
theorem cut_seal {d : Int} {r : Root_} (h : rootV d r = true) : cutV 10 (sealV (bodyV r)) = (rW r ++ [[nS, itoaV (weighV (bodyV r))]]).map jw ++ [[]] := by
 have hl := lok_root h
 have e : catGo lineW (rW r ++ [[nS, itoaV (weighV (bodyV r))]]) = catGo (fun l => l ++ [10]) ((rW r ++ [[nS, itoaV (weighV (bodyV r))]]).map jw) := by rw [cat_map]; rfl
 rw [seal_W, e]
 exact cut_lines fun l hl2 => by obtain ⟨ws, hws, rfl⟩ := List.mem_map.1 hl2; exact join_no10 (hl ws hws)
theorem rootI_seal {d : Int} {r : Root_} (h : rootV d r = true) : (rootI (cutV 10 (sealV (bodyV r)), 0)).1 = r ∧ (rootI (cutV 10 (sealV (bodyV r)), 0)).2.2 = 0 := by
 obtain ⟨h1, h2, h3⟩ := root_parts h
 have hw := weighGo_nn (bodyV r) 0
 have e : cutV 10 (sealV (bodyV r)) = jw (nR :: [itoaV r.1]) :: ((r.2.flatMap vW).map jw ++ [jw [nS, itoaV (weighV (bodyV r))], []]) := by
  rw [cut_seal h]
  unfold rW
  simp
 rw [e]
 have hv := volsI_jw (d := d) (vs := r.2) (out := []) (rest := [jw [nS, itoaV (weighV (bodyV r))], []]) (n := (jw (nR :: [itoaV r.1]) :: ((r.2.flatMap vW).map jw ++ [jw [nS, itoaV (weighV (bodyV r))], []])).length) h2
  (by rw [nextI_jw cl_nV cl_nS]; decide)
  (by
   have : r.2.length ≤ (r.2.flatMap vW).length := by
    generalize r.2 = l
    induction l with
    | nil => simp
    | cons v l ih => rw [List.flatMap_cons, List.length_append]; simp only [vW, List.length_cons]; omega
   simp only [List.length_cons, List.length_append, List.length_map]
   omega)
 have hr : rootI (jw (nR :: [itoaV r.1]) :: ((r.2.flatMap vW).map jw ++ [jw [nS, itoaV (weighV (bodyV r))], []]), 0) = ((r.1, r.2), ([jw [nS, itoaV (weighV (bodyV r))], []], 0)) := by
  unfold rootI
  simp only
  rw [wordsI_jw (lok_two cl_nR (cl_num h1.1))]
  have eo : ∀ s : RdS, onlyI [itoaV r.1] s = (itoaV r.1, s) := fun s => onlyI_one _ s
  simp only
  rw [eo]
  simp only
  rw [numI_itoa h1.1 (by omega), hv]
  rfl
 rw [hr]
 exact ⟨rfl, rfl⟩
theorem lineW_len : ∀ {ws : List Str}, ws ≠ [] → (lineW ws).length = (ws.map fun w => w.length + 1).sum := by
 intro ws
 cases ws with
 | nil => intro h; exact absurd rfl h
 | cons w ws =>
  intro _
  have ht : ∀ ws : List Str, (Lib.joinTail [32] ws).length = (ws.map fun w => w.length + 1).sum := by
   intro ws
   induction ws with
   | nil => rfl
   | cons x ws ih =>
    have e : Lib.joinTail [32] (x :: ws) = 32 :: (x ++ Lib.joinTail [32] ws) := by simp [Lib.joinTail]
    rw [e, List.length_cons, List.length_append, ih, List.map_cons, List.sum_cons]
    omega
  unfold lineW
  rw [Lib.join_cons, List.length_append, List.length_append, ht, List.map_cons, List.sum_cons]
  simp only [List.length_cons, List.length_nil]
  omega
theorem lineV_short {d : Int} {p : Ptr_} (h : ptrV d p = true) : (lineV p).length ≤ 37 := by
 rw [lineV_W]
 by_cases hn : noneV p = true
 ·have e : pW p = [nN] := by unfold pW; rw [if_pos hn]
  rw [e]; decide
 ·obtain ⟨h1, h2, h3⟩ := ptrV_wide2 h hn
  have e : pW p = tPtr :: itoaV p.1 :: itoaV p.2.1 :: p.2.2.map wordV := by unfold pW; rw [if_neg hn]; rfl
  have hl4 : p.2.2.length ≤ 4 := ptrV_len h
  rw [e, lineW_len (by simp)]
  have a1 := itoaV_lenk 0 p.1 h1.1 (by omega)
  have a2 := itoaV_lenk 9 p.2.1 h2.1 (by omega)
  have a3 : ∀ (l : List Plc), (∀ a ∈ l, placeV 4 a = true) → ((l.map wordV).map fun w => w.length + 1).sum ≤ 5 * l.length := by
   intro l
   induction l with
   | nil => intro _; exact Nat.le_refl _
   | cons a l ih =>
    intro hp
    have ha := hp a List.mem_cons_self
    simp only [placeV, Bool.and_eq_true, decide_eq_true_eq] at ha
    have b1 := itoaV_lenk 0 a.1 ha.1 (by omega)
    have b2 := itoaV_lenk 1 a.2 ha.2.2.1 (by omega)
    have := ih fun x hx => hp x (List.mem_cons_of_mem _ hx)
    simp only [List.map_cons, List.sum_cons, wordV, List.length_append, List.length_cons, List.length_nil] at this ⊢
    omega
  have a4 := a3 p.2.2 h3
  simp only [List.map_cons, List.sum_cons, tPtr, List.length_cons, List.length_nil] at a4 ⊢
  omega
theorem rootT_short {d : Int} {r : Root_} : (rootT d r).length ≤ 700 := by
 unfold rootT
 split
 ·rename_i h
  obtain ⟨h1, h2, h3⟩ := root_parts h
  have a1 := itoaV_lenk 5 r.1 h1.1 (by omega)
  have a2 : (catGo volT r.2).length ≤ r.2.length * 119 := cat_len fun v hv => by
   obtain ⟨b1, b2, b3⟩ := h2 v hv
   have c1 : (catGo lineV v.2).length ≤ v.2.length * 37 := cat_len fun p hp => lineV_short (b3 p hp)
   simp only [nameV, inV, Bool.and_eq_true, decide_eq_true_eq] at b1
   unfold volT
   simp only [List.length_append, tVol, List.length_cons, List.length_nil]
   omega
  have a3 : (bodyV r).length ≤ 488 := by
   unfold bodyV
   simp only [List.length_append, tRoot, List.length_cons, List.length_nil]
   omega
  have a4 := weighV_bd (s := bodyV r) (by omega)
  have a5 := itoaV_lenk 11 (weighV (bodyV r)) a4.1 (by omega)
  unfold sealV
  simp only [List.length_append, tSum, List.length_cons, List.length_nil]
  omega
 ·exact Nat.zero_le _
theorem readI_root {d : Int} {r : Root_} (h : rootV d r = true) : readI d (rootT d r) = (r, true) := by
 have hs := rootT_short (d := d) (r := r)
 have hT : rootT d r = sealV (bodyV r) := if_pos h
 obtain ⟨e1, e2⟩ := rootI_seal h
 have hne : ¬ rootT d r = [] := by rw [rootT_nil]; exact fun h2 => h2 h
 unfold readI
 rw [if_neg (fun hh => hh.elim (fun h => by omega) hne)]
 simp only
 rw [hT, e1, e2, if_neg (by rw [hT]; simp)]
end Go.Sx

namespace Go.Sx
open Go
def nwT (n : Int) (o : Root_ × Bool) (t : Str) : Root_ × Bool := if (readI n t).2 = true ∧ (o.2 = false ∨ o.1.1 < (readI n t).1.1) then ((readI n t).1, true) else o
def nwGo (n : Int) (o : Root_ × Bool) (l : List Dsk) : Root_ × Bool := l.foldl (fun o d => d.2.2.1.foldl (nwT n) o) o
def newestV (l : List Dsk) : Root_ × Bool := nwGo l.length ((0, []), false) l
theorem nwT_hit {n : Int} {o : Root_ × Bool} {t : Str} (h : (readI n t).2 = true) (h2 : o.2 = false ∨ o.1.1 < (readI n t).1.1) : nwT n o t = ((readI n t).1, true) := if_pos ⟨h, h2⟩
theorem nwT_bad {n : Int} {o : Root_ × Bool} {t : Str} (h : (readI n t).2 = false) : nwT n o t = o := if_neg fun x => by rw [h] at x; cases x.1
theorem nwT_old {n : Int} {o : Root_ × Bool} {t : Str} (h : o.2 = true) (h2 : ¬ o.1.1 < (readI n t).1.1) : nwT n o t = o := if_neg fun x => x.2.elim (fun e => by rw [h] at e; cases e) h2
theorem nw_in {n : Int} {o : Root_ × Bool} {l : List Dsk} {i : Nat} (h : i < l.length) : nwGo n o (l.drop i) = nwGo n ((l[i].2.2.1.drop 0).foldl (nwT n) o) (l.drop (i + 1)) := by rw [List.drop_eq_getElem_cons h]; rfl
theorem nw_next {n : Int} {o : Root_ × Bool} {r : List Str} {l : List Dsk} {j : Nat} (h : j < r.length) : nwGo n ((r.drop j).foldl (nwT n) o) l = nwGo n ((r.drop (j + 1)).foldl (nwT n) (nwT n o r[j])) l := by rw [List.drop_eq_getElem_cons h]; rfl
theorem nw_out {n : Int} {o : Root_ × Bool} {r : List Str} {l : List Dsk} : nwGo n ((r.drop r.length).foldl (nwT n) o) l = nwGo n o l := by rw [List.drop_length]; rfl
def wo (d : Dsk) : Dsk := (d.1, d.2.1, d.2.2.1, d.2.2.2.1, [])
def woV (l : List Dsk) : List Dsk := l.map wo
def woGo (l : List Dsk) (i : Nat) : List Dsk := (l.take i).map wo ++ l.drop i
theorem woGo_len {l : List Dsk} {i : Nat} : (woGo l i).length = l.length := by simp [woGo]; omega
theorem woGo_at {l : List Dsk} {i : Nat} (h : i < l.length) : (woGo l i)[i]? = some l[i] := by
 unfold woGo
 rw [List.getElem?_append_right (by simp; omega)]
 simp [List.getElem?_drop, Nat.min_eq_left (Nat.le_of_lt h), h]
theorem woGo_next {l : List Dsk} {i : Nat} (h : i < l.length) : (woGo l i).set i (wo l[i]) = woGo l (i + 1) := by
 unfold woGo
 have e : ((l.take i).map wo).length = i := by simp; omega
 rw [List.take_succ_eq_append_getElem h, List.drop_eq_getElem_cons h, List.set_append_right _ _ (Nat.le_of_eq e), e, Nat.sub_self, List.set_cons_zero, List.map_append, List.append_assoc]
 rfl
theorem woGo_end {l : List Dsk} : woGo l l.length = woV l := by simp [woGo, woV]
theorem newRd {n : Int} (h : poolV n = true) : readI n newT = ((0, []), true) := by
 have := readI_root (newV h)
 rwa [newR h] at this
theorem readI_nil {n : Int} : readI n [] = ((0, []), false) := by
 unfold readI
 simp
theorem new_newest {n : Int} (h : poolV n = true) : newestV (newPo n).1 = ((0, []), true) := by
 have hl := new_lt h
 have e : newPo n = (List.replicate n.toNat newDk, true, (0, []), (0, [])) := if_pos h
 rw [e]
 unfold newestV
 have hn : ((List.replicate n.toNat newDk).length : Int) = n := by simp; omega
 rw [show (((List.replicate n.toNat newDk, true, ((0 : Int), ([] : List Vol_)), ((0 : Int), ([] : List Vol_))) : Pol).1.length : Int) = n from hn]
 have key : ∀ (k : Nat) (o : Root_ × Bool), o = ((0, []), false) ∨ o = ((0, []), true) → (k = 0 → o = ((0, []), true)) → nwGo n o (List.replicate k newDk) = ((0, []), true) := by
  intro k
  induction k with
  | zero => intro o _ h2; exact h2 rfl
  | succ k ih =>
   intro o ho _
   show nwGo n (nwT n (nwT n o newT) []) (List.replicate k newDk) = _
   have e1 : nwT n o newT = ((0, []), true) := by
    rcases ho with rfl | rfl
    ·rw [nwT_hit (by rw [newRd h]) (.inl rfl), newRd h]
    ·rw [nwT_old rfl (by rw [newRd h]; decide)]
   rw [e1, nwT_bad (by rw [readI_nil])]
   exact ih _ (.inr rfl) (fun _ => rfl)
 exact key _ _ (.inl rfl) (fun h0 => by omega)
def NwOk (p : Pol) : Prop := stripeV p.1 = true ∧ newestV p.1 = ((0, []), true) ∧ (p.1.length ≤ 1000 ∧ ∀ d ∈ p.1, SmallD d) ∧ p.2 = (true, (0, []), (0, []))
theorem newPo_nw {n : Int} (h : poolV n = true) : NwOk (newPo n) := by
 have hl := new_lt h
 have e : newPo n = (List.replicate n.toNat newDk, true, (0, []), (0, [])) := if_pos h
 have hn : ((List.replicate n.toNat newDk).length : Int) = n := by simp; omega
 refine ⟨?_, new_newest h, ⟨?_, ?_⟩, ?_⟩
 ·rw [e]
  unfold stripeV
  rw [hn, h, Bool.true_and, Bool.not_eq_true', List.any_eq_false]
  intro d hd
  obtain ⟨_, rfl⟩ := List.mem_replicate.1 hd
  exact (show noD newDk = false by decide +kernel) ▸ (by simp)
 ·rw [e]; simp; omega
 ·rw [e]
  intro d hd
  obtain ⟨_, rfl⟩ := List.mem_replicate.1 hd
  exact ⟨by simp [newDk], by simp [newDk], by simp [newDk], by simp [newDk]⟩
 ·rw [e]
end Go.Sx

namespace Go.Sx
open Go
def nPN (code : List Int) : Int := pk (rd0 code) 4 + 2
theorem nPN_bd {code : List Int} (h : ∀ v ∈ code, inR .u8 v) : 0 ≤ pk (rd0 code) 4 ∧ pk (rd0 code) 4 < 4 := pk_bd (rd0_ok h) (by omega) (by omega)
end Go.Sx

namespace Go.Sx
open Go
set_option maxRecDepth 100000
set_option linter.unusedVariables false
set_option linter.unusedSimpArgs false
set_option maxHeartbeats 2000000
def cOpen : Ctr := ⟨59, [.val false TB pF], fun _ => True, fun x => (.v false [.ptr ⟨1, 0, 0⟩ 0], [(⟨1, 0, 0⟩, rdA (List.take 2000 x.1, 0))])⟩
theorem cOpen_ok : CtrOk Proofs.Tryz.prog cOpen := by
 have hP := (Prg.none ttok mtok)
 refine ctr_of_body hP cOpen (fn := Proofs.Tryz.f59) (rts := [.tmp 2]) Proofs.Tryz.func59 rfl (by kernel_rfl) rfl rfl ?_
 rintro ⟨(code : List Int), ⟨⟩⟩ hd hpre
 try dsimp only [Ty.den, Mode.den, mdens] at hpre
 refine ⟨rfl, ?_⟩
 refine sw_seq (xr hP 1 rfl (sw_seq (sw_seq (xr hP 2 rfl (sw_cond rfl (fun c1 => ?_) (fun c1 => ?_))))))
 ·refine xr hP 3 rfl (sw_seq (xr hP 4 rfl (sw_ret ⟨.inl rfl, _, rfl, ?_⟩)))
  simp [conj] at *
  try (rw [List.take_of_length_le (by omega)])
 ·refine sw_skip (sw_seq (xr hP 3 rfl (sw_ret ⟨.inl rfl, _, rfl, ?_⟩)))
  simp [conj] at *
  try (rw [List.take_of_length_le (by omega)])
def cPick : Ctr := ⟨65, [.ref T_l6Rd pF, .val false TI pF], fun x => ROk x.1 1, fun x => (sInt .i64 (pk x.1 x.2.1), [(⟨0, 0, 0⟩, rdA (nx x.1))])⟩
theorem cPick_ok : CtrOk Proofs.Tryz.prog cPick := by
 have hP := (Prg.none ttok mtok)
 refine ctr_of_body hP cPick (fn := Proofs.Tryz.f65) (rts := [.tmp 4]) Proofs.Tryz.func65 rfl (by kernel_rfl) rfl rfl ?_
 rintro ⟨⟨(b : List Int), (p : Int)⟩, (n : Int), ⟨⟩⟩ hd hpre
 try dsimp only [Ty.den, Mode.den, mdens] at hpre
 refine ⟨rfl, ?_⟩
 have h0 : 0 ≤ p := hpre.p0
 have h1 : p + 1 ≤ 1099511627776 := hpre.p1
 have hl : b.length ≤ 2000 := hpre.len
 have hb : BOk b := hpre.b
 refine sw_seq (xr hP 1 rfl (sw_seq (xr hP 2 rfl (sw_seq (sw_seq ?_)))))
 refine sw_dec hP 3 [] 2 rfl (fun g2_2 => ?_) (fun g2_2 => ?_)
 ·refine xd hP 3 [(2, true)] rfl (sw_condT rfl (sw_seq (xr hP 4 rfl (sw_ret ⟨.inl rfl, _, rfl, ?_⟩))))
  simp [conj, maxL] at *
  try dsimp only [Ty.den, Ty.dflt] at *
  try simp only [rd_eta] at *
  simp [pk, pickV, nx, pickX]
  first | omega | (intros; omega) | (intro _ hh; exact absurd c2 hh) | (rw [if_neg (by omega)]; first | (rw [if_neg c2, if_pos c5]; done) | (rw [if_neg c2, if_neg (by omega)]; done) | (intros; simp_all; done))
 ·refine xd hP 3 [(2, false)] rfl (sw_cond rfl (fun c2 => ?_) (fun c2 => ?_))
  ·refine sw_seq (xr hP 4 rfl (sw_ret ⟨.inl rfl, _, rfl, ?_⟩))
   simp [conj, maxL] at *
   try dsimp only [Ty.den, Ty.dflt] at *
   try simp only [rd_eta] at *
   simp [pk, pickV, nx, pickX]
   first | omega | (intros; omega) | (intro _ hh; exact absurd c2 hh) | (rw [if_neg (by omega)]; first | (rw [if_neg c2, if_pos c5]; done) | (rw [if_neg c2, if_neg (by omega)]; done) | (intros; simp_all; done))
  ·refine sw_skip (sw_seq (xr hP 4 rfl (sw_seq (sw_seq (xr hP 5 rfl (sw_cond rfl (fun c5 => ?_) (fun c5 => ?_)))))))
   ·refine sw_seq (xg hP 6 [] rfl ?_ ?_)
    ·simp [conj] at *
     dsimp only [Ty.den, Ty.dflt] at *
     have := getD_b' hb p.toNat
     omega
    refine sw_ret ⟨.inl rfl, _, rfl, ?_⟩
    simp [conj, maxL] at *
    try dsimp only [Ty.den, Ty.dflt] at *
    try simp only [rd_eta] at *
    simp [pk, pickV, nx, pickX]
    first | omega | (intros; omega) | (intro _ hh; exact absurd c2 hh) | (rw [if_neg (by omega)]; first | (rw [if_neg c2, if_pos c5]; done) | (rw [if_neg c2, if_neg (by omega)]; done) | (intros; simp_all; done))
   ·refine sw_skip (sw_seq (xg hP 6 [] rfl ?_ ?_))
    ·simp [conj] at *
     dsimp only [Ty.den, Ty.dflt] at *
     have hlp : 0 < b.length := List.length_pos_iff.2 c2
     have a1 := getD_b' hb (Int.tmod p b.length).toNat
     have a2 := getD_b' hb (Int.tmod (p * 7 + 3) b.length).toNat
     have a3 := tmod_ix (a := p) (n := b.length) h0 (by omega)
     have a4 := tmod_ix (a := p * 7 + 3) (n := b.length) (by omega) (by omega)
     have a5 : 0 ≤ Int.tdiv p b.length ∧ Int.tdiv p b.length ≤ p := ⟨Int.tdiv_nonneg h0 (by omega), Int.tdiv_le_self _ h0⟩
     repeat' apply And.intro
     all_goals first | assumption | omega
    refine sw_seq (xg hP 7 [] rfl ?_ ?_)
    ·have a5 := pickX_bd hpre (by omega)
     simp only [pickX, List.getD_eq_getElem?_getD] at a5
     have a6 : 0 ≤ (pickX b p).tdiv 64 ∧ (pickX b p).tdiv 64 ≤ pickX b p := ⟨Int.tdiv_nonneg a5.1 (by omega), Int.tdiv_le_self _ a5.1⟩
     simp only [pickX, List.getD_eq_getElem?_getD] at a6
     simp [conj] at *
     dsimp only [Ty.den, Ty.dflt] at *
     omega
    refine sw_seq (xr hP 8 rfl (sw_ret ⟨.inl rfl, _, rfl, ?_⟩))
    simp [conj, maxL] at *
    try dsimp only [Ty.den, Ty.dflt] at *
    try simp only [rd_eta] at *
    simp [pk, pickV, nx, pickX]
    first | omega | (intros; omega) | (intro _ hh; exact absurd c2 hh) | (rw [if_neg (by omega)]; first | (rw [if_neg c2, if_pos c5]; done) | (rw [if_neg c2, if_neg (by omega)]; done) | (intros; simp_all; done))
def cDrPN : Ctr := ⟨40, [.val false TB pF], fun x => True, fun x => (sInt .i64 (nPN x.1), [])⟩
theorem cDrPN_ok : CtrOk Proofs.Tryz.prog cDrPN := by
 have hP := (((Prg.none ttok mtok).and cOpen_ok).and cPick_ok)
 refine ctr_of_body hP cDrPN (fn := Proofs.Tryz.f40) (rts := [.tmp 2]) Proofs.Tryz.func40 rfl (by kernel_rfl) rfl rfl ?_
 rintro ⟨(code : List Int), ⟨⟩⟩ ⟨hdc, _⟩ _
 try dsimp only [Ty.den, Mode.den, mdens] at _
 refine ⟨rfl, ?_⟩
 have h0 : ROk (rd0 code) 3000 := rd0_ok hdc.2
 have hb := nPN_bd hdc.2
 simp only [rd0] at h0 hb
 refine sw_seq (xr hP 1 rfl (sw_seq (xg hP 2 [] rfl ?_ ?_)))
 ·simp [conj, maxL]
  try dsimp only [Ty.den, Ty.dflt]
  try simp only [rd_eta]
  repeat' apply And.intro
  all_goals first | trivial | exact h0.le (by omega) | omega
 refine sw_ret ⟨.inl rfl, _, rfl, ?_⟩
 simp [conj, nPN, rd0]
def cDrWN : Ctr := ⟨46, [.val false TB pF], fun x => True, fun x => (sInt .i64 (nPN x.1), [])⟩
theorem cDrWN_ok : CtrOk Proofs.Tryz.prog cDrWN := by
 have hP := ((Prg.none ttok mtok).and cDrPN_ok)
 refine ctr_of_body hP cDrWN (fn := Proofs.Tryz.f46) (rts := [.tmp 2]) Proofs.Tryz.func46 rfl (by kernel_rfl) rfl rfl ?_
 rintro ⟨(code : List Int), ⟨⟩⟩ _ _
 try dsimp only [Ty.den, Mode.den, mdens] at _
 refine ⟨rfl, ?_⟩
 refine sw_seq (xr hP 1 rfl (sw_seq (xg hP 2 [] rfl ?_ ?_)))
 ·simp [conj, maxL]
  try dsimp only [Ty.den, Ty.dflt]
  try simp only [rd_eta]
  try trivial
 refine sw_ret ⟨.inl rfl, _, rfl, ?_⟩
 simp [conj]
end Go.Sx

namespace Go.Sx
open Go
set_option maxRecDepth 100000
set_option linter.unusedVariables false
set_option linter.unusedSimpArgs false
abbrev drv (st : Int) (t : Drv) (a : At) : List At := [.d TI pF st, .d (.arr 12 .bool) pF t.2.2, .d (.arr 12 .str) pF t.1, .d (.arr 2 .str) pF t.2.1, a]
def cState : Ctr := ⟨84, [.val false TI pF], fun _ => True, fun x => (sBool (stV x.1), [])⟩
theorem cState_ok : CtrOk Proofs.Tryz.prog cState := by
 have hP := (Prg.none ttok mtok)
 refine ctr_of_body hP cState (fn := Proofs.Tryz.f84) (rts := [.tmp 2]) Proofs.Tryz.func84 rfl (by kernel_rfl) rfl rfl ?_
 rintro ⟨(n : Int), ⟨⟩⟩ _ hpre
 try dsimp only [Ty.den, Mode.den, mdens] at hpre
 refine ⟨rfl, ?_⟩
 refine sw_seq (xr hP 1 rfl (sw_seq ?_))
 refine sw_dec hP 2 [] 2 rfl (fun g1_2 => ?_) (fun g1_2 => ?_)
 ·refine xd hP 2 [(2, true)] rfl (sw_ret ⟨.inl rfl, _, rfl, ?_⟩)
  simp [conj, stV] at *
  try omega
 ·refine xd hP 2 [(2, false)] rfl (sw_ret ⟨.inl rfl, _, rfl, ?_⟩)
  simp [conj, stV] at *
  try omega
def cShaped : Ctr := ⟨264, [.val true T_Disk (.all .b)], fun _ => True, fun x => (sBool (shapedV x.1), [])⟩
theorem cShaped_ok : CtrOk Proofs.Tryz.prog cShaped := by
 have hP := ((Prg.none ttok mtok).and cState_ok)
 refine ctr_of_body hP cShaped (fn := Proofs.Tryz.f264) (rts := [.tmp 2]) Proofs.Tryz.func264 rfl (by kernel_rfl) rfl rfl ?_
 rintro ⟨⟨(st : Int), (sl : List Str), (rg : List Str), (sp : List Bool), (wt : List Put)⟩, ⟨⟩⟩ _ hpre
 try dsimp only [Ty.den, Mode.den, mdens] at hpre
 refine ⟨rfl, ?_⟩
 refine sw_seq (xr hP 1 rfl (sw_seq ?_))
 refine sw_dec hP 2 [] 3 rfl (fun g1_3 => ?_) (fun g1_3 => ?_)
 ·refine sw_dec hP 2 [(3, true)] 9 rfl (fun g1_9 => ?_) (fun g1_9 => ?_)
  ·replace g1_9 : sl.length = 12 := by have h : ((sl.length : Nat) : Int) = 12 := of_decide_eq_true g1_9; omega
   refine sw_dec hP 2 [(3, true), (9, true)] 15 rfl (fun g1_15 => ?_) (fun g1_15 => ?_)
   ·replace g1_15 : rg.length = 2 := by have h : ((rg.length : Nat) : Int) = 2 := of_decide_eq_true g1_15; omega
    refine sw_dec hP 2 [(3, true), (9, true), (15, true)] 21 rfl (fun g1_21 => ?_) (fun g1_21 => ?_)
    ·replace g1_21 : sp.length = 12 := by have h : ((sp.length : Nat) : Int) = 12 := of_decide_eq_true g1_21; omega
     refine xg hP 2 [(3, true), (9, true), (15, true), (21, true)] rfl ?_ ?_
     ·simp [conj, maxL]
      try dsimp only [Ty.den, Ty.dflt]
      try simp only [rd_eta]
      repeat' apply And.intro
      all_goals first | rfl | assumption | omega
     refine sw_ret ⟨.inl rfl, _, rfl, ?_⟩
     simp [conj, shapedV, *]
     try omega
    ·replace g1_21 : ¬ sp.length = 12 := by have h : ¬ ((sp.length : Nat) : Int) = 12 := of_decide_eq_false g1_21; omega
     refine xg hP 2 [(3, true), (9, true), (15, true), (21, false)] rfl ?_ ?_
     ·simp [conj, maxL]
      try dsimp only [Ty.den, Ty.dflt]
      try simp only [rd_eta]
      repeat' apply And.intro
      all_goals first | rfl | assumption | omega
     refine sw_ret ⟨.inl rfl, _, rfl, ?_⟩
     simp [conj, shapedV, *]
     try omega
   ·replace g1_15 : ¬ rg.length = 2 := by have h : ¬ ((rg.length : Nat) : Int) = 2 := of_decide_eq_false g1_15; omega
    refine xg hP 2 [(3, true), (9, true), (15, false)] rfl ?_ ?_
    ·simp [conj, maxL]
     try dsimp only [Ty.den, Ty.dflt]
     try simp only [rd_eta]
     repeat' apply And.intro
     all_goals first | rfl | assumption | omega
    refine sw_ret ⟨.inl rfl, _, rfl, ?_⟩
    simp [conj, shapedV, *]
    try omega
  ·replace g1_9 : ¬ sl.length = 12 := by have h : ¬ ((sl.length : Nat) : Int) = 12 := of_decide_eq_false g1_9; omega
   refine xg hP 2 [(3, true), (9, false)] rfl ?_ ?_
   ·simp [conj, maxL]
    try dsimp only [Ty.den, Ty.dflt]
    try simp only [rd_eta]
    repeat' apply And.intro
    all_goals first | rfl | assumption | omega
   refine sw_ret ⟨.inl rfl, _, rfl, ?_⟩
   simp [conj, shapedV, *]
   try omega
 ·refine xg hP 2 [(3, false)] rfl ?_ ?_
  ·simp [conj, maxL]
   try dsimp only [Ty.den, Ty.dflt]
   try simp only [rd_eta]
   repeat' apply And.intro
   all_goals first | rfl | assumption | omega
  refine sw_ret ⟨.inl rfl, _, rfl, ?_⟩
  simp [conj, shapedV, *]
  try omega
def cCol : Ctr := ⟨263, [.val false .str pF], fun _ => True, fun x => (sBool (decide (List.length x.1 = 3)), [])⟩
theorem cCol_ok : CtrOk Proofs.Tryz.prog cCol := by
 have hP := (Prg.none ttok mtok)
 refine ctr_of_body hP cCol (fn := Proofs.Tryz.f263) (rts := [.tmp 2]) Proofs.Tryz.func263 rfl (by kernel_rfl) rfl rfl ?_
 rintro ⟨(s : Str), ⟨⟩⟩ _ hpre
 try dsimp only [Ty.den, Mode.den, mdens] at hpre
 refine ⟨rfl, ?_⟩
 refine sw_seq (xr hP 1 rfl (sw_seq (xr hP 2 rfl (sw_ret ⟨.inl rfl, _, rfl, ?_⟩))))
 simp [conj]
 omega
def cPutOk : Ctr := ⟨238, [.val true T_Put pF], fun _ => True, fun x => (sBool (putV x.1), [])⟩
theorem cPutOk_ok : CtrOk Proofs.Tryz.prog cPutOk := by
 have hP := ((Prg.none ttok mtok).and cCol_ok)
 refine ctr_of_body hP cPutOk (fn := Proofs.Tryz.f238) (rts := [.tmp 2]) Proofs.Tryz.func238 rfl (by kernel_rfl) rfl rfl ?_
 rintro ⟨⟨(rn : Bool), (at_ : Int), (tx : Str)⟩, ⟨⟩⟩ _ hpre
 try dsimp only [Ty.den, Mode.den, mdens] at hpre
 refine ⟨rfl, ?_⟩
 refine sw_seq (xr hP 1 rfl (sw_seq (sw_seq (xr hP 2 rfl (sw_cond rfl (fun c1 => ?_) (fun c1 => ?_))))))
 ·refine sw_seq ?_
  refine sw_dec hP 3 [] 3 rfl (fun g2_3 => ?_) (fun g2_3 => ?_)
  ·refine sw_dec hP 3 [(3, true)] 8 rfl (fun g2_8 => ?_) (fun g2_8 => ?_)
   ·refine xd hP 3 [(3, true), (8, true)] rfl (sw_ret ⟨.inl rfl, _, rfl, ?_⟩)
    simp [conj, putV] at *
    try (simp [*]; try omega)
   ·refine xd hP 3 [(3, true), (8, false)] rfl (sw_ret ⟨.inl rfl, _, rfl, ?_⟩)
    simp [conj, putV] at *
    try (simp [*]; try omega)
  ·refine xd hP 3 [(3, false)] rfl (sw_ret ⟨.inl rfl, _, rfl, ?_⟩)
   simp [conj, putV] at *
   try (simp [*]; try omega)
 ·refine sw_skip (sw_seq ?_)
  refine sw_dec hP 3 [] 3 rfl (fun g3_3 => ?_) (fun g3_3 => ?_)
  ·refine sw_dec hP 3 [(3, true)] 8 rfl (fun g3_8 => ?_) (fun g3_8 => ?_)
   ·refine xd hP 3 [(3, true), (8, true)] rfl (sw_ret ⟨.inl rfl, _, rfl, ?_⟩)
    simp [conj, putV] at *
    try (simp [*]; try omega)
   ·refine xd hP 3 [(3, true), (8, false)] rfl (sw_ret ⟨.inl rfl, _, rfl, ?_⟩)
    simp [conj, putV] at *
    try (simp [*]; try omega)
  ·refine xd hP 3 [(3, false)] rfl (sw_ret ⟨.inl rfl, _, rfl, ?_⟩)
   simp [conj, putV] at *
   try (simp [*]; try omega)
def cRd1 : Ctr := ⟨266, [.val true T_Put pF], fun _ => True, fun x => (sBool (badP x.1), [])⟩
theorem cRd1_ok : CtrOk Proofs.Tryz.prog cRd1 := by
 have hP := ((Prg.none ttok mtok).and cPutOk_ok)
 refine ctr_of_body hP cRd1 (fn := Proofs.Tryz.f266) (rts := [.tmp 2]) Proofs.Tryz.func266 rfl (by kernel_rfl) rfl rfl ?_
 rintro ⟨⟨(rn : Bool), (at_ : Int), (tx : Str)⟩, ⟨⟩⟩ _ hpre
 try dsimp only [Ty.den, Mode.den, mdens] at hpre
 refine ⟨rfl, ?_⟩
 refine sw_seq (xr hP 1 rfl (sw_seq (xr hP 2 rfl (sw_ret ⟨.inl rfl, _, rfl, ?_⟩))))
 simp [conj, badP]
def cRd2 : Ctr := ⟨267, [.val false .str pF], fun _ => True, fun x => (sBool (longR x.1), [])⟩
theorem cRd2_ok : CtrOk Proofs.Tryz.prog cRd2 := by
 have hP := (Prg.none ttok mtok)
 refine ctr_of_body hP cRd2 (fn := Proofs.Tryz.f267) (rts := [.tmp 2]) Proofs.Tryz.func267 rfl (by kernel_rfl) rfl rfl ?_
 rintro ⟨(s : Str), ⟨⟩⟩ ⟨hds, _⟩ hpre
 try dsimp only [Ty.den, Mode.den, mdens] at hpre
 refine ⟨rfl, ?_⟩
 have hml : s.length ≤ 140737488355328 := hds
 refine sw_seq (xr hP 1 rfl (sw_seq (xr hP 2 rfl (sw_ret ⟨.inl rfl, _, rfl, ?_⟩))))
 simp [conj, longR]
 omega
def cIdxP : Ctr := ⟨323, [.val false (.sl T_Put) (.all .b), .clo 266 []], fun _ => True, fun x => (sInt .i64 (idxF badP x.1), [])⟩
theorem cIdxP_ok : CtrOk Proofs.Tryz.prog cIdxP := by
 have hP := ((Prg.none ttok mtok).and cRd1_ok)
 refine ctr_of_body hP cIdxP (fn := Proofs.Tryz.f323) (rts := [.tmp 4]) Proofs.Tryz.func323 rfl (by kernel_rfl) rfl rfl ?_
 rintro ⟨(l : List Put), ⟨⟩, ⟨⟩⟩ ⟨hdl, _⟩ hpre
 try dsimp only [Ty.den, Mode.den, mdens] at hpre
 refine ⟨rfl, ?_⟩
 have hml : l.length ≤ 140737488355328 := hdl.1
 refine sw_seq (xr hP 1 rfl (sw_seq (sw_seq (xr hP 2 rfl (sw_block (sw_loop (ι := Nat) (fun i => ⟨[.v false [.d (.sl T_Put) (.all .b) l], .fn 266 [], .j, .j, .j, .j, .j, sInt .i64 (l.length : Int), sInt .i64 (i : Int), .j, .j, .j, .j, .j, .j, .j, .j, .j, .j], [], 2, []⟩) (fun i => l.length - i) (fun i => i ≤ l.length ∧ idxFGo badP (l.drop i) i = idxF badP l) 0 ⟨?_, ?_⟩ ?_))))))
 ·exact ⟨Nat.zero_le _, rfl⟩
 ·refine ent_ok rfl ?_
  first | trivial | (simp [conj]; done) | (simp [conj] at *; (try dsimp only [Ty.den, Ty.dflt] at *); omega)
 ·rintro i ⟨hi, hgo⟩
  refine sw_seq (xr hP 3 rfl (sw_seq (sw_cond rfl (fun c2 => ?_) (fun c2 => ?_))))
  ·have hlt : i < l.length := by simpa using c2
   refine sw_skip (sw_seq (sw_block (sw_seq (xr hP 4 rfl (sw_seq (xg hP 5 [] rfl ?_ ?_))))))
   ·simp [conj, maxL]
    try dsimp only [Ty.den, Ty.dflt]
    try simp only [rd_eta]
    repeat' apply And.intro
    all_goals first | assumption | omega | exact trivial
   refine sw_cond rfl (fun c4 => ?_) (fun c4 => ?_)
   ·replace c4 : badP l[i] = true := by simpa [gE hlt] using c4
    refine sw_seq (xr hP 6 rfl (sw_ret ⟨.inl rfl, _, rfl, ?_⟩))
    simp [conj, idxF_hit hlt hgo c4]
   ·replace c4 : badP l[i] = false := by simpa [gE hlt] using c4
    refine sw_skip (xr hP 6 rfl (⟨i + 1, ?_, ?_, ent_ok rfl ?_⟩))
    ·exact ⟨hlt, idxF_next hlt hgo c4⟩
    ·omega
    ·simp [conj, maxL]
     try dsimp only [Ty.den, Ty.dflt]
     try simp only [rd_eta]
     repeat' apply And.intro
     all_goals first | rfl | assumption | omega
  ·obtain rfl : i = l.length := by simp at c2; omega
   refine sw_exit (sw_seq (xr hP 4 rfl (sw_ret ⟨.inl rfl, _, rfl, ?_⟩)))
   simp [conj, idxF_end hgo]
def cContP : Ctr := ⟨265, [.val false (.sl T_Put) (.all .b), .clo 266 []], fun _ => True, fun x => (sBool (List.any x.1 badP), [])⟩
theorem cContP_ok : CtrOk Proofs.Tryz.prog cContP := by
 have hP := ((Prg.none ttok mtok).and cIdxP_ok)
 refine ctr_of_body hP cContP (fn := Proofs.Tryz.f265) (rts := [.tmp 4]) Proofs.Tryz.func265 rfl (by kernel_rfl) rfl rfl ?_
 rintro ⟨(l : List Put), ⟨⟩, ⟨⟩⟩ _ hpre
 try dsimp only [Ty.den, Mode.den, mdens] at hpre
 refine ⟨rfl, ?_⟩
 refine sw_seq (xr hP 1 rfl (sw_seq (xr hP 2 rfl (sw_ret ⟨.inl rfl, _, rfl, ?_⟩))))
 simp [conj]
 exact idxF_any
def cIdxR : Ctr := ⟨292, [.val false (.sl .str) (.all .b), .clo 267 []], fun _ => True, fun x => (sInt .i64 (idxF longR x.1), [])⟩
theorem cIdxR_ok : CtrOk Proofs.Tryz.prog cIdxR := by
 have hP := ((Prg.none ttok mtok).and cRd2_ok)
 refine ctr_of_body hP cIdxR (fn := Proofs.Tryz.f292) (rts := [.tmp 4]) Proofs.Tryz.func292 rfl (by kernel_rfl) rfl rfl ?_
 rintro ⟨(l : List Str), ⟨⟩, ⟨⟩⟩ ⟨hdl, _⟩ hpre
 try dsimp only [Ty.den, Mode.den, mdens] at hpre
 refine ⟨rfl, ?_⟩
 have hml : l.length ≤ 140737488355328 := hdl.1
 refine sw_seq (xr hP 1 rfl (sw_seq (sw_seq (xr hP 2 rfl (sw_block (sw_loop (ι := Nat) (fun i => ⟨[.v false [.d (.sl .str) (.all .b) l], .fn 267 [], .j, .j, .j, .j, .j, sInt .i64 (l.length : Int), sInt .i64 (i : Int), .j, .j, .j, .j, .j, .j, .j, .j, .j, .j], [], 2, []⟩) (fun i => l.length - i) (fun i => i ≤ l.length ∧ idxFGo longR (l.drop i) i = idxF longR l) 0 ⟨?_, ?_⟩ ?_))))))
 ·exact ⟨Nat.zero_le _, rfl⟩
 ·refine ent_ok rfl ?_
  first | trivial | (simp [conj]; done) | (simp [conj] at *; (try dsimp only [Ty.den, Ty.dflt] at *); omega)
 ·rintro i ⟨hi, hgo⟩
  refine sw_seq (xr hP 3 rfl (sw_seq (sw_cond rfl (fun c2 => ?_) (fun c2 => ?_))))
  ·have hlt : i < l.length := by simpa using c2
   refine sw_skip (sw_seq (sw_block (sw_seq (xr hP 4 rfl (sw_seq (xg hP 5 [] rfl ?_ ?_))))))
   ·simp [conj, maxL]
    try dsimp only [Ty.den, Ty.dflt]
    try simp only [rd_eta]
    repeat' apply And.intro
    all_goals first | assumption | omega | exact trivial
   refine sw_cond rfl (fun c4 => ?_) (fun c4 => ?_)
   ·replace c4 : longR l[i] = true := by simpa [gE hlt] using c4
    refine sw_seq (xr hP 6 rfl (sw_ret ⟨.inl rfl, _, rfl, ?_⟩))
    simp [conj, idxF_hit hlt hgo c4]
   ·replace c4 : longR l[i] = false := by simpa [gE hlt] using c4
    refine sw_skip (xr hP 6 rfl (⟨i + 1, ?_, ?_, ent_ok rfl ?_⟩))
    ·exact ⟨hlt, idxF_next hlt hgo c4⟩
    ·omega
    ·simp [conj, maxL]
     try dsimp only [Ty.den, Ty.dflt]
     try simp only [rd_eta]
     repeat' apply And.intro
     all_goals first | rfl | assumption | omega
  ·obtain rfl : i = l.length := by simp at c2; omega
   refine sw_exit (sw_seq (xr hP 4 rfl (sw_ret ⟨.inl rfl, _, rfl, ?_⟩)))
   simp [conj, idxF_end hgo]
def cContR : Ctr := ⟨210, [.val false (.sl .str) (.all .b), .clo 267 []], fun _ => True, fun x => (sBool (List.any x.1 longR), [])⟩
theorem cContR_ok : CtrOk Proofs.Tryz.prog cContR := by
 have hP := ((Prg.none ttok mtok).and cIdxR_ok)
 refine ctr_of_body hP cContR (fn := Proofs.Tryz.f210) (rts := [.tmp 4]) Proofs.Tryz.func210 rfl (by kernel_rfl) rfl rfl ?_
 rintro ⟨(l : List Str), ⟨⟩, ⟨⟩⟩ _ hpre
 try dsimp only [Ty.den, Mode.den, mdens] at hpre
 refine ⟨rfl, ?_⟩
 refine sw_seq (xr hP 1 rfl (sw_seq (xr hP 2 rfl (sw_ret ⟨.inl rfl, _, rfl, ?_⟩))))
 simp [conj]
 exact idxF_any
end Go.Sx

namespace Go.Sx
open Go
set_option maxRecDepth 100000
set_option linter.unusedVariables false
set_option linter.unusedSimpArgs false
def cCloneO : Ctr := ⟨165, [.val false (.sl .str) (.all .b)], fun x => List.length x.1 ≤ 1099511627776, fun x => (.v false [.own ⟨1, 0, 0⟩], [(⟨1, 0, 0⟩, .sl .str (.all .w) x.1)])⟩
theorem cCloneO_ok : CtrOk Proofs.Tryz.prog cCloneO := by
 have hP := (Prg.none ttok mtok)
 refine ctr_of_body hP cCloneO (fn := Proofs.Tryz.f165) (rts := [.tmp 2]) Proofs.Tryz.func165 rfl (by kernel_rfl) rfl rfl ?_
 rintro ⟨(l : List Str), ⟨⟩⟩ ⟨hdl, _⟩ hpre
 try dsimp only [Ty.den, Mode.den, mdens] at hpre
 refine ⟨rfl, ?_⟩
 have hml : l.length ≤ 1099511627776 := hpre
 refine sw_seq (xr hP 1 rfl (sw_seq (sw_seq (xr hP 2 rfl (sw_condA rfl (fun c1 => ?_) ?_)))))
 ·obtain rfl : l = [] := List.eq_nil_of_length_eq_zero c1
  refine sw_seq (xr hP 3 rfl (sw_ret ⟨.inl rfl, _, rfl, ?_⟩))
  first | trivial | (simp [conj]; done) | (simp [conj] at *; (try dsimp only [Ty.den, Ty.dflt] at *); omega)
 ·refine sw_skip (sw_seq (xg hP 3 [] rfl ?_ ?_))
  ·simp [conj, maxL]
   try dsimp only [Ty.den, Ty.dflt]
   try simp only [rd_eta]
   omega
  refine sw_ret ⟨.inl rfl, _, rfl, ?_⟩
  first | trivial | (simp [conj]; done) | (simp [conj] at *; (try dsimp only [Ty.den, Ty.dflt] at *); omega)
def cCloneB : Ctr := ⟨168, [.val false (.sl .bool) (.all .b)], fun x => List.length x.1 ≤ 1099511627776, fun x => (.v false [.own ⟨1, 0, 0⟩], [(⟨1, 0, 0⟩, .sl .bool (.all .w) x.1)])⟩
theorem cCloneB_ok : CtrOk Proofs.Tryz.prog cCloneB := by
 have hP := (Prg.none ttok mtok)
 refine ctr_of_body hP cCloneB (fn := Proofs.Tryz.f168) (rts := [.tmp 2]) Proofs.Tryz.func168 rfl (by kernel_rfl) rfl rfl ?_
 rintro ⟨(l : List Bool), ⟨⟩⟩ ⟨hdl, _⟩ hpre
 try dsimp only [Ty.den, Mode.den, mdens] at hpre
 refine ⟨rfl, ?_⟩
 have hml : l.length ≤ 1099511627776 := hpre
 refine sw_seq (xr hP 1 rfl (sw_seq (sw_seq (xr hP 2 rfl (sw_condA rfl (fun c1 => ?_) ?_)))))
 ·obtain rfl : l = [] := List.eq_nil_of_length_eq_zero c1
  refine sw_seq (xr hP 3 rfl (sw_ret ⟨.inl rfl, _, rfl, ?_⟩))
  first | trivial | (simp [conj]; done) | (simp [conj] at *; (try dsimp only [Ty.den, Ty.dflt] at *); omega)
 ·refine sw_skip (sw_seq (xg hP 3 [] rfl ?_ ?_))
  ·simp [conj, maxL]
   try dsimp only [Ty.den, Ty.dflt]
   try simp only [rd_eta]
   omega
  refine sw_ret ⟨.inl rfl, _, rfl, ?_⟩
  first | trivial | (simp [conj]; done) | (simp [conj] at *; (try dsimp only [Ty.den, Ty.dflt] at *); omega)
end Go.Sx

namespace Go.Sx
open Go
set_option maxRecDepth 100000
set_option linter.unusedVariables false
set_option linter.unusedSimpArgs false
def cRead : Ctr := ⟨167, [.val true T_Disk (.all .b)], fun x => rdV x.1 = true, fun x => (.tup [(false, [.ptr ⟨1, 0, 0⟩ 0]), (false, [.kb true])], [(⟨1, 0, 0⟩, .var (drv x.1.1 (drvOf x.1) (.chp ⟨1, 1, 0⟩ 0))), (⟨1, 1, 0⟩, .ch true T_Put x.1.2.2.2.2)])⟩
theorem cRead_ok : CtrOk Proofs.Tryz.prog cRead := by
 have hP := (((((Prg.none ttok mtok).and cShaped_ok).and cContP_ok).and cCol_ok).and cContR_ok)
 refine ctr_of_body hP cRead (fn := Proofs.Tryz.f167) (rts := [.tmp 2, .tmp 3]) Proofs.Tryz.func167 rfl (by kernel_rfl) rfl rfl ?_
 rintro ⟨⟨(st : Int), (sl : List Str), (rg : List Str), (sp : List Bool), (wt : List Put)⟩, ⟨⟩⟩ _ hpre
 try dsimp only [Ty.den, Mode.den, mdens] at hpre
 refine ⟨rfl, ?_⟩
 replace hpre : rdV (st, sl, rg, sp, wt) = true := hpre
 obtain ⟨hsh, hwb, hsb, hrb, hgb⟩ := rd_parts hpre
 dsimp only at hwb hsb hrb
 obtain ⟨hst, h12, h2, h12b, h40⟩ := shaped_iff hsh
 dsimp only at hst h12 h2 h12b h40
 refine sw_seq (xr hP 1 rfl (sw_seq (sw_seq ?_)))
 refine sw_dec hP 2 [] 3 rfl (fun g1_3 => ?_) (fun g1_3 => ?_)
 ·have h : (!shapedV (st, sl, rg, sp, wt)) = true := g1_3
  rw [hsh] at h
  cases h
 ·refine xg hP 2 [(3, false)] rfl ?_ ?_
  ·simp [conj, maxL]
   try dsimp only [Ty.den, Ty.dflt]
   try simp only [rd_eta]
   repeat' apply And.intro
   all_goals first | rfl | assumption | omega | trivial
  refine sw_cond rfl (fun c1 => ?_) (fun c1 => ?_)
  ·have h : List.any wt badP = true := c1
   rw [hwb] at h
   cases h
  ·refine sw_skip (sw_seq (xg hP 3 [] rfl ?_ ?_))
   ·simp only [conj, List.nil_append, List.cons_append, List.append_nil, List.append_assoc, inR_i64, true_and, and_true, Int.toNat_natCast]
    try dsimp only [Ty.den, Ty.dflt]
    repeat' apply And.intro
    all_goals first | rfl | omega | assumption | trivial
   refine sw_seq (sw_seq (xr hP 4 rfl (sw_block (sw_loop (ι := Nat) (fun i => ⟨[.j, .v false [.ptr ⟨1, 0, 0⟩ 0], .j, .j, .v false [.ptr ⟨3, 16, 0⟩ 0], .j, .j, .j, .j, .j, .j, .j, .j, .j, .j, .j, .j, .j, .j, .j, .j, .j, .j, .j, .j, .j, .j, .j, .j, .j, .j, .j, .j, .j, .v false [.ptr ⟨3, 16, 0⟩ 0], .j, .v false [.d (.sl .str) (.all .b) sl], sInt .i64 (sl.length : Int), sInt .i64 (i : Int), .j, .j, .j, .j, .j, .j, .j, .j, .j, .j, .j, .j, .j, .j, .j, .j, .j, .j, .j, .j, .j, .j, .j, .j, .j, .j, .j, .j, .j, .j, .j, .j, .j, .j, .j, .j, .j, .j, .j, .j, .j, .j, .j, .j, .j, .j, .j, .j, .j, .j, .j, .j, .j, .j, .j, .j, .j, .j, .j, .j, .j, .j, .j, .j, .j, .j, .j, .j, .j, .j, .j, .j, .j], [(⟨1, 0, 0⟩, .var [.d TI pF st, .d (.sl .str) (.all .b) sl, .d (.sl .str) (.all .b) rg, .d (.sl .bool) (.all .b) sp, .d (.sl T_Put) (.all .b) wt]), (⟨3, 16, 0⟩, .var (drv st (sl, rg, sp) .nilp))], 4, []⟩) (fun i => sl.length - i) (fun i => i ≤ sl.length ∧ slotsB (sl.drop i) (sp.drop i) = slotsB sl sp) 0 ⟨?_, ?_⟩ ?_))))
   ·exact ⟨Nat.zero_le _, rfl⟩
   ·refine ent_ok rfl ?_
    simp [conj, List.take_of_length_le, h12, h2, h12b]
   ·rintro i ⟨hi, hgo⟩
    refine sw_seq (xr hP 5 rfl (sw_seq (sw_cond rfl (fun c5 => ?_) (fun c5 => ?_))))
    ·have hlt : i < sl.length := by simpa using c5
     have hlt2 : i < sp.length := by omega
     refine sw_skip (sw_seq (sw_block (sw_seq (xr hP 6 rfl (sw_seq ?_)))))
     refine sw_dec hP 7 [] 2 rfl (fun g7_2 => ?_) (fun g7_2 => ?_)
     ·replace g7_2 : sl[i] ≠ [] := by have h := g7_2; simp [gE hlt, gE hlt2] at h; exact h
      refine sw_dec hP 7 [(2, true)] 7 rfl (fun g7_7 => ?_) (fun g7_7 => ?_)
      ·replace g7_7 : ¬ sl[i].length = 3 := by have h := g7_7; simp [gE hlt, gE hlt2] at h; exact h
       have h := slots_hit hlt hlt2 hgo (slotB_col g7_2 g7_7)
       rw [hsb] at h
       cases h
      ·replace g7_7 : sl[i].length = 3 := by have h := g7_7; simp [gE hlt, gE hlt2] at h; exact h
       refine sw_dec hP 7 [(2, true), (7, false)] 10 rfl (fun g7_10 => ?_) (fun g7_10 => ?_)
       ·replace g7_10 : sl[i] = [] := by have h := g7_10; simp [gE hlt, gE hlt2] at h; exact h
        exact absurd g7_10 g7_2
       ·have hn : slotB sl[i] sp[i] = false := slotB_ok g7_2 g7_7
        refine xg hP 7 [(2, true), (7, false), (10, false)] rfl ?_ ?_
        ·simp [conj, gE hlt, gE hlt2]
         repeat' apply And.intro
         all_goals first | assumption | omega | trivial | (simp_all; done) | (simp_all; omega)
        refine sw_condF rfl (sw_skip (xr hP 8 rfl (⟨i + 1, ?_, ?_, ent_ok rfl ?_⟩)))
        ·exact ⟨hlt, slots_next hlt hlt2 hgo hn⟩
        ·omega
        ·simp [conj]
     ·replace g7_2 : sl[i] = [] := by have h := g7_2; simp [gE hlt, gE hlt2] at h; exact h
      refine sw_dec hP 7 [(2, false)] 10 rfl (fun g7_10 => ?_) (fun g7_10 => ?_)
      ·refine xg hP 7 [(2, false), (10, true)] rfl ?_ ?_
       ·simp [conj, gE hlt, gE hlt2]
        repeat' apply And.intro
        all_goals first | assumption | omega | trivial | (simp_all; done) | (simp_all; omega)
       refine sw_cond rfl (fun c7 => ?_) (fun c7 => ?_)
       ·replace c7 : sp[i] = true := by have h := c7; simp [gE hlt, gE hlt2] at h; exact h
        have h := slots_hit hlt hlt2 hgo (by rw [slotB_nil g7_2]; exact c7)
        rw [hsb] at h
        cases h
       ·replace c7 : sp[i] = false := by have h := c7; simp [gE hlt, gE hlt2] at h; exact h
        have hn : slotB sl[i] sp[i] = false := by rw [slotB_nil g7_2]; exact c7
        refine sw_skip (xr hP 8 rfl (⟨i + 1, ?_, ?_, ent_ok rfl ?_⟩))
        ·exact ⟨hlt, slots_next hlt hlt2 hgo hn⟩
        ·omega
        ·simp [conj]
      ·replace g7_10 : ¬ sl[i] = [] := by have h := g7_10; simp [gE hlt, gE hlt2] at h; exact h
       exact absurd g7_2 g7_10
    ·obtain rfl : i = sl.length := by simp at c5; omega
     refine sw_exit (sw_seq (sw_seq (xr hP 6 rfl (sw_cond rfl (fun c10 => ?_) (fun c10 => ?_)))))
     ·have h : List.any rg longR = true := c10
      rw [hrb] at h
      cases h
     ·refine sw_skip (sw_seq (sw_seq ?_))
      refine sw_dec hP 7 [] 3 rfl (fun g12_3 => ?_) (fun g12_3 => ?_)
      ·replace g12_3 : st = 1 := of_decide_eq_true g12_3
       refine sw_dec hP 7 [(3, true)] 10 rfl (fun g12_10 => ?_) (fun g12_10 => ?_)
       ·replace g12_10 : ¬ sl = List.replicate 12 [] := by have h := g12_10; simp [List.take_of_length_le, h12] at h; exact h
        exact absurd (gone_no hgb g12_3).1 g12_10
       ·replace g12_10 : sl = List.replicate 12 [] := by have h := g12_10; simp [List.take_of_length_le, h12] at h; exact h
        refine sw_dec hP 7 [(3, true), (10, false)] 18 rfl (fun g12_18 => ?_) (fun g12_18 => ?_)
        ·replace g12_18 : ¬ rg = List.replicate 2 [] := by have h := g12_18; simp [List.take_of_length_le, h2] at h; exact h
         exact absurd (gone_no hgb g12_3).2.1 g12_18
        ·replace g12_18 : rg = List.replicate 2 [] := by have h := g12_18; simp [List.take_of_length_le, h2] at h; exact h
         refine xg hP 7 [(3, true), (10, false), (18, false)] rfl ?_ ?_
         ·simp [conj, List.take_of_length_le, h12, h2]
          repeat' apply And.intro
          all_goals first | assumption | omega | trivial | (simp_all; done) | (simp_all; omega)
         refine sw_cond rfl (fun c12 => ?_) (fun c12 => ?_)
         ·replace c12 : ¬ wt.length = 0 := by have h : (0 : Int) < (wt.length : Nat) := of_decide_eq_true c12; omega
          exact absurd (gone_no hgb g12_3).2.2 c12
         ·refine sw_skip (sw_seq (xr hP 8 rfl (sw_seq (sw_seq (xr hP 9 rfl (sw_block (sw_loop (ι := Nat) (fun i => ⟨[.j, .v false [.ptr ⟨1, 0, 0⟩ 0], .j, .j, .v false [.ptr ⟨3, 16, 0⟩ 0], .j, .j, .v false [.lnk ⟨3, 16, 0⟩ 27 ⟨0, 9, 0⟩ i 3], .j, .j, .j, .j, .j, .j, .j, .j, .j, .j, .j, .j, .j, .j, .j, .j, .j, .j, .j, .j, .j, .j, .j, .j, .j, .j, .v false [.ptr ⟨3, 16, 0⟩ 0], .j, .j, .j, .j, .j, .j, .j, .j, .j, .j, .j, .j, .j, .j, .j, .j, .j, .j, .j, .j, .j, .j, .j, .j, .j, .j, .j, .j, .j, .j, .j, .j, .j, .j, .j, .j, .j, .j, .j, .j, .j, .j, .j, .j, .j, .j, .j, .j, .j, .j, .j, .j, .j, .j, .j, .j, .j, .j, .j, .v false [.d (.sl T_Put) (.all .b) wt], sInt .i64 (wt.length : Int), sInt .i64 (i : Int), .j, .j, .j, .j, .j, .j, .j, .j, .j, .j, .j, .j, .j, .j, .j], [(⟨3, 16, 0⟩, .var (drv st (sl, rg, sp) (.chp ⟨0, 9, 0⟩ 0))), (⟨0, 9, 0⟩, .ch true T_Put (wt.take i))], 9, []⟩) (fun i => wt.length - i) (fun i => i ≤ wt.length) 0 ⟨?_, ?_⟩ ?_)))))))
          ·exact Nat.zero_le _
          ·refine ent_ok rfl ?_
           simp [conj, List.take_of_length_le, h12, h2, h12b]
          ·rintro i hi
           refine sw_seq (xr hP 10 rfl (sw_seq (sw_cond rfl (fun c16 => ?_) (fun c16 => ?_))))
           ·have hlt : i < wt.length := by simpa using c16
            refine sw_skip (sw_seq (sw_block (sw_seq (xr hP 11 rfl (sw_seq (xg hP 12 [] rfl ?_ ?_))))))
            ·simp [conj]
             omega
            refine xg hP 13 [] rfl ?_ ?_
            ·simp [conj]
             omega
            refine xr hP 14 rfl (⟨i + 1, ?_, ?_, ent_ok rfl ?_⟩)
            ·exact hlt
            ·omega
            ·simp [conj]
             exact take_next hlt
           ·obtain rfl : i = wt.length := by simp at c16; omega
            refine sw_exit (sw_seq (xr hP 11 rfl (sw_ret ⟨.inl rfl, _, rfl, ?_⟩)))
            first | (simp [conj, drvOf]; done) | trivial
      ·replace g12_3 : ¬ st = 1 := of_decide_eq_false g12_3
       refine xg hP 7 [(3, false)] rfl ?_ ?_
       ·simp [conj, List.take_of_length_le, h12, h2]
        repeat' apply And.intro
        all_goals first | assumption | omega | trivial | (simp_all; done) | (simp_all; omega)
       refine sw_condF rfl (sw_skip (sw_seq (xr hP 8 rfl (sw_seq (sw_seq (xr hP 9 rfl (sw_block (sw_loop (ι := Nat) (fun i => ⟨[.j, .v false [.ptr ⟨1, 0, 0⟩ 0], .j, .j, .v false [.ptr ⟨3, 16, 0⟩ 0], .j, .j, .v false [.lnk ⟨3, 16, 0⟩ 27 ⟨0, 9, 0⟩ i 3], .j, .j, .j, .j, .j, .j, .j, .j, .j, .j, .j, .j, .j, .j, .j, .j, .j, .j, .j, .j, .j, .j, .j, .j, .j, .j, .v false [.ptr ⟨3, 16, 0⟩ 0], .j, .j, .j, .j, .j, .j, .j, .j, .j, .j, .j, .j, .j, .j, .j, .j, .j, .j, .j, .j, .j, .j, .j, .j, .j, .j, .j, .j, .j, .j, .j, .j, .j, .j, .j, .j, .j, .j, .j, .j, .j, .j, .j, .j, .j, .j, .j, .j, .j, .j, .j, .j, .j, .j, .j, .j, .j, .j, .j, .v false [.d (.sl T_Put) (.all .b) wt], sInt .i64 (wt.length : Int), sInt .i64 (i : Int), .j, .j, .j, .j, .j, .j, .j, .j, .j, .j, .j, .j, .j, .j, .j], [(⟨3, 16, 0⟩, .var (drv st (sl, rg, sp) (.chp ⟨0, 9, 0⟩ 0))), (⟨0, 9, 0⟩, .ch true T_Put (wt.take i))], 9, []⟩) (fun i => wt.length - i) (fun i => i ≤ wt.length) 0 ⟨?_, ?_⟩ ?_))))))))
       ·exact Nat.zero_le _
       ·refine ent_ok rfl ?_
        simp [conj, List.take_of_length_le, h12, h2, h12b]
       ·rintro i hi
        refine sw_seq (xr hP 10 rfl (sw_seq (sw_cond rfl (fun c16 => ?_) (fun c16 => ?_))))
        ·have hlt : i < wt.length := by simpa using c16
         refine sw_skip (sw_seq (sw_block (sw_seq (xr hP 11 rfl (sw_seq (xg hP 12 [] rfl ?_ ?_))))))
         ·simp [conj]
          omega
         refine xg hP 13 [] rfl ?_ ?_
         ·simp [conj]
          omega
         refine xr hP 14 rfl (⟨i + 1, ?_, ?_, ent_ok rfl ?_⟩)
         ·exact hlt
         ·omega
         ·simp [conj]
          exact take_next hlt
        ·obtain rfl : i = wt.length := by simp at c16; omega
         refine sw_exit (sw_seq (xr hP 11 rfl (sw_ret ⟨.inl rfl, _, rfl, ?_⟩)))
         first | (simp [conj, drvOf]; done) | trivial
def cReadB : Ctr := ⟨167, [.val true T_Disk (.all .b)], fun x => rdV x.1 = false, fun x => (.tup [(false, [.nilp]), (false, [.kb false])], [])⟩
theorem cReadB_ok : CtrOk Proofs.Tryz.prog cReadB := by
 have hP := (((((Prg.none ttok mtok).and cShaped_ok).and cContP_ok).and cCol_ok).and cContR_ok)
 refine ctr_of_body hP cReadB (fn := Proofs.Tryz.f167) (rts := [.tmp 2, .tmp 3]) Proofs.Tryz.func167 rfl (by kernel_rfl) rfl rfl ?_
 rintro ⟨⟨(st : Int), (sl : List Str), (rg : List Str), (sp : List Bool), (wt : List Put)⟩, ⟨⟩⟩ _ hpre
 try dsimp only [Ty.den, Mode.den, mdens] at hpre
 refine ⟨rfl, ?_⟩
 replace hpre : rdV (st, sl, rg, sp, wt) = false := hpre
 refine sw_seq (xr hP 1 rfl (sw_seq (sw_seq ?_)))
 refine sw_dec hP 2 [] 3 rfl (fun g1_3 => ?_) (fun g1_3 => ?_)
 ·have hns : shapedV (st, sl, rg, sp, wt) = false := by have h : (!shapedV (st, sl, rg, sp, wt)) = true := g1_3; simpa using h
  refine xg hP 2 [(3, true)] rfl ?_ ?_
  ·simp [conj, maxL]
   try dsimp only [Ty.den, Ty.dflt]
   try simp only [rd_eta]
   repeat' apply And.intro
   all_goals first | rfl | assumption | omega | trivial
  refine sw_condT rfl (sw_seq (xr hP 3 rfl (sw_ret ⟨.inl rfl, _, rfl, ?_⟩)))
  first | (simp [conj, drvOf]; done) | trivial
 ·have hsh : shapedV (st, sl, rg, sp, wt) = true := by simpa using g1_3
  obtain ⟨hst, h12, h2, h12b, h40⟩ := shaped_iff hsh
  dsimp only at hst h12 h2 h12b h40
  refine xg hP 2 [(3, false)] rfl ?_ ?_
  ·simp [conj, maxL]
   try dsimp only [Ty.den, Ty.dflt]
   try simp only [rd_eta]
   repeat' apply And.intro
   all_goals first | rfl | assumption | omega | trivial
  refine sw_cond rfl (fun c1 => ?_) (fun c1 => ?_)
  ·refine sw_seq (xr hP 3 rfl (sw_ret ⟨.inl rfl, _, rfl, ?_⟩))
   first | (simp [conj, drvOf]; done) | trivial
  ·have hwb : List.any wt badP = false := c1
   refine sw_skip (sw_seq (xg hP 3 [] rfl ?_ ?_))
   ·simp only [conj, List.nil_append, List.cons_append, List.append_nil, List.append_assoc, inR_i64, true_and, and_true, Int.toNat_natCast]
    try dsimp only [Ty.den, Ty.dflt]
    repeat' apply And.intro
    all_goals first | rfl | omega | assumption | trivial
   refine sw_seq (sw_seq (xr hP 4 rfl (sw_block (sw_loop (ι := Nat) (fun i => ⟨[.j, .v false [.ptr ⟨1, 0, 0⟩ 0], .j, .j, .v false [.ptr ⟨3, 16, 0⟩ 0], .j, .j, .j, .j, .j, .j, .j, .j, .j, .j, .j, .j, .j, .j, .j, .j, .j, .j, .j, .j, .j, .j, .j, .j, .j, .j, .j, .j, .j, .v false [.ptr ⟨3, 16, 0⟩ 0], .j, .v false [.d (.sl .str) (.all .b) sl], sInt .i64 (sl.length : Int), sInt .i64 (i : Int), .j, .j, .j, .j, .j, .j, .j, .j, .j, .j, .j, .j, .j, .j, .j, .j, .j, .j, .j, .j, .j, .j, .j, .j, .j, .j, .j, .j, .j, .j, .j, .j, .j, .j, .j, .j, .j, .j, .j, .j, .j, .j, .j, .j, .j, .j, .j, .j, .j, .j, .j, .j, .j, .j, .j, .j, .j, .j, .j, .j, .j, .j, .j, .j, .j, .j, .j, .j, .j, .j, .j, .j, .j], [(⟨1, 0, 0⟩, .var [.d TI pF st, .d (.sl .str) (.all .b) sl, .d (.sl .str) (.all .b) rg, .d (.sl .bool) (.all .b) sp, .d (.sl T_Put) (.all .b) wt]), (⟨3, 16, 0⟩, .var (drv st (sl, rg, sp) .nilp))], 4, []⟩) (fun i => sl.length - i) (fun i => i ≤ sl.length ∧ slotsB (sl.drop i) (sp.drop i) = slotsB sl sp) 0 ⟨?_, ?_⟩ ?_))))
   ·exact ⟨Nat.zero_le _, rfl⟩
   ·refine ent_ok rfl ?_
    simp [conj, List.take_of_length_le, h12, h2, h12b]
   ·rintro i ⟨hi, hgo⟩
    refine sw_seq (xr hP 5 rfl (sw_seq (sw_cond rfl (fun c5 => ?_) (fun c5 => ?_))))
    ·have hlt : i < sl.length := by simpa using c5
     have hlt2 : i < sp.length := by omega
     refine sw_skip (sw_seq (sw_block (sw_seq (xr hP 6 rfl (sw_seq ?_)))))
     refine sw_dec hP 7 [] 2 rfl (fun g7_2 => ?_) (fun g7_2 => ?_)
     ·replace g7_2 : sl[i] ≠ [] := by have h := g7_2; simp [gE hlt, gE hlt2] at h; exact h
      refine sw_dec hP 7 [(2, true)] 7 rfl (fun g7_7 => ?_) (fun g7_7 => ?_)
      ·replace g7_7 : ¬ sl[i].length = 3 := by have h := g7_7; simp [gE hlt, gE hlt2] at h; exact h
       refine xg hP 7 [(2, true), (7, true)] rfl ?_ ?_
       ·simp [conj, gE hlt, gE hlt2]
        repeat' apply And.intro
        all_goals first | assumption | omega | trivial | (simp_all; done) | (simp_all; omega)
       refine sw_condT rfl (sw_seq (xr hP 8 rfl (sw_ret ⟨.inl rfl, _, rfl, ?_⟩)))
       first | (simp [conj, drvOf]; done) | trivial
      ·replace g7_7 : sl[i].length = 3 := by have h := g7_7; simp [gE hlt, gE hlt2] at h; exact h
       refine sw_dec hP 7 [(2, true), (7, false)] 10 rfl (fun g7_10 => ?_) (fun g7_10 => ?_)
       ·replace g7_10 : sl[i] = [] := by have h := g7_10; simp [gE hlt, gE hlt2] at h; exact h
        exact absurd g7_10 g7_2
       ·have hn : slotB sl[i] sp[i] = false := slotB_ok g7_2 g7_7
        refine xg hP 7 [(2, true), (7, false), (10, false)] rfl ?_ ?_
        ·simp [conj, gE hlt, gE hlt2]
         repeat' apply And.intro
         all_goals first | assumption | omega | trivial | (simp_all; done) | (simp_all; omega)
        refine sw_condF rfl (sw_skip (xr hP 8 rfl (⟨i + 1, ?_, ?_, ent_ok rfl ?_⟩)))
        ·exact ⟨hlt, slots_next hlt hlt2 hgo hn⟩
        ·omega
        ·simp [conj]
     ·replace g7_2 : sl[i] = [] := by have h := g7_2; simp [gE hlt, gE hlt2] at h; exact h
      refine sw_dec hP 7 [(2, false)] 10 rfl (fun g7_10 => ?_) (fun g7_10 => ?_)
      ·refine xg hP 7 [(2, false), (10, true)] rfl ?_ ?_
       ·simp [conj, gE hlt, gE hlt2]
        repeat' apply And.intro
        all_goals first | assumption | omega | trivial | (simp_all; done) | (simp_all; omega)
       refine sw_cond rfl (fun c7 => ?_) (fun c7 => ?_)
       ·refine sw_seq (xr hP 8 rfl (sw_ret ⟨.inl rfl, _, rfl, ?_⟩))
        first | (simp [conj, drvOf]; done) | trivial
       ·replace c7 : sp[i] = false := by have h := c7; simp [gE hlt, gE hlt2] at h; exact h
        have hn : slotB sl[i] sp[i] = false := by rw [slotB_nil g7_2]; exact c7
        refine sw_skip (xr hP 8 rfl (⟨i + 1, ?_, ?_, ent_ok rfl ?_⟩))
        ·exact ⟨hlt, slots_next hlt hlt2 hgo hn⟩
        ·omega
        ·simp [conj]
      ·replace g7_10 : ¬ sl[i] = [] := by have h := g7_10; simp [gE hlt, gE hlt2] at h; exact h
       exact absurd g7_2 g7_10
    ·obtain rfl : i = sl.length := by simp at c5; omega
     have hsb : slotsB sl sp = false := slots_end hgo
     refine sw_exit (sw_seq (sw_seq (xr hP 6 rfl (sw_cond rfl (fun c10 => ?_) (fun c10 => ?_)))))
     ·refine sw_seq (xr hP 7 rfl (sw_ret ⟨.inl rfl, _, rfl, ?_⟩))
      first | (simp [conj, drvOf]; done) | trivial
     ·have hrb : List.any rg longR = false := c10
      refine sw_skip (sw_seq (sw_seq ?_))
      refine sw_dec hP 7 [] 3 rfl (fun g12_3 => ?_) (fun g12_3 => ?_)
      ·replace g12_3 : st = 1 := of_decide_eq_true g12_3
       refine sw_dec hP 7 [(3, true)] 10 rfl (fun g12_10 => ?_) (fun g12_10 => ?_)
       ·refine xg hP 7 [(3, true), (10, true)] rfl ?_ ?_
        ·simp [conj, List.take_of_length_le, h12, h2]
         repeat' apply And.intro
         all_goals first | assumption | omega | trivial | (simp_all; done) | (simp_all; omega)
        refine sw_condT rfl (sw_seq (xr hP 8 rfl (sw_ret ⟨.inl rfl, _, rfl, ?_⟩)))
        first | (simp [conj, drvOf]; done) | trivial
       ·replace g12_10 : sl = List.replicate 12 [] := by have h := g12_10; simp [List.take_of_length_le, h12] at h; exact h
        refine sw_dec hP 7 [(3, true), (10, false)] 18 rfl (fun g12_18 => ?_) (fun g12_18 => ?_)
        ·refine xg hP 7 [(3, true), (10, false), (18, true)] rfl ?_ ?_
         ·simp [conj, List.take_of_length_le, h12, h2]
          repeat' apply And.intro
          all_goals first | assumption | omega | trivial | (simp_all; done) | (simp_all; omega)
         refine sw_condT rfl (sw_seq (xr hP 8 rfl (sw_ret ⟨.inl rfl, _, rfl, ?_⟩)))
         first | (simp [conj, drvOf]; done) | trivial
        ·replace g12_18 : rg = List.replicate 2 [] := by have h := g12_18; simp [List.take_of_length_le, h2] at h; exact h
         refine xg hP 7 [(3, true), (10, false), (18, false)] rfl ?_ ?_
         ·simp [conj, List.take_of_length_le, h12, h2]
          repeat' apply And.intro
          all_goals first | assumption | omega | trivial | (simp_all; done) | (simp_all; omega)
         refine sw_cond rfl (fun c12 => ?_) (fun c12 => ?_)
         ·refine sw_seq (xr hP 8 rfl (sw_ret ⟨.inl rfl, _, rfl, ?_⟩))
          first | (simp [conj, drvOf]; done) | trivial
         ·replace c12 : ¬ 0 < wt.length := by have h : ¬ (0 : Int) < (wt.length : Nat) := of_decide_eq_false c12; omega
          have h : rdV (st, sl, rg, sp, wt) = true := rd_mk hsh hwb hsb hrb (gone_yes g12_10 g12_18 (by show wt.length = 0; omega))
          rw [hpre] at h
          cases h
      ·replace g12_3 : ¬ st = 1 := of_decide_eq_false g12_3
       have h : rdV (st, sl, rg, sp, wt) = true := rd_mk hsh hwb hsb hrb (gone_live g12_3)
       rw [hpre] at h
       cases h
end Go.Sx

namespace Go.Sx
open Go
set_option maxRecDepth 100000
set_option linter.unusedVariables false
set_option linter.unusedSimpArgs false
end Go.Sx

namespace Go.Sx
open Go
set_option maxRecDepth 100000
set_option linter.unusedVariables false
set_option linter.unusedSimpArgs false
end Go.Sx

namespace Go.Sx
open Go
set_option maxRecDepth 100000
set_option linter.unusedVariables false
set_option linter.unusedSimpArgs false
set_option maxHeartbeats 2000000
end Go.Sx

namespace Go.Sx
open Go
set_option maxRecDepth 100000
set_option linter.unusedVariables false
set_option linter.unusedSimpArgs false
set_option maxHeartbeats 2000000
def cComeS : Ctr := ⟨111, [.own true T_Disk (.all .w), .val true T_Put pF], fun x => putV x.2.1 = true ∧ (drvOf x.1).ok, fun x => (.v true [.d TI pF (comeD x.1 x.2.1).1, .own ⟨1, 0, 0⟩, .own ⟨1, 1, 0⟩, .own ⟨1, 2, 0⟩, .own ⟨1, 3, 0⟩], [(⟨1, 0, 0⟩, .sl .str (.all .w) (comeD x.1 x.2.1).2.1), (⟨1, 1, 0⟩, .sl .str (.all .w) (comeD x.1 x.2.1).2.2.1), (⟨1, 2, 0⟩, .sl .bool (.all .w) (comeD x.1 x.2.1).2.2.2.1), (⟨1, 3, 0⟩, .sl T_Put (.all .w) (comeD x.1 x.2.1).2.2.2.2)])⟩
theorem cComeS_ok : CtrOk Proofs.Tryz.prog cComeS := by
 have hP := (Prg.none ttok mtok)
 refine ctr_of_body hP cComeS (fn := Proofs.Tryz.f111) (rts := [.cell 4 37]) Proofs.Tryz.func111 rfl (by kernel_rfl) rfl rfl ?_
 rintro ⟨⟨(st : Int), (sl : List Str), (rg : List Str), (sp : List Bool), (wt : List Put)⟩, ⟨(rn : Bool), (at_ : Int), (tx : Str)⟩, ⟨⟩⟩ _ ⟨hp, ho1, ho2, ho3⟩
 try dsimp only [Ty.den, Mode.den, mdens] at hp
 try dsimp only [Ty.den, Mode.den, mdens] at ho1
 try dsimp only [Ty.den, Mode.den, mdens] at ho2
 try dsimp only [Ty.den, Mode.den, mdens] at ho3
 refine ⟨rfl, ?_⟩
 dsimp only [drvOf] at ho1 ho2 ho3
 refine sw_seq (xr hP 1 rfl (sw_seq (sw_seq (xr hP 2 rfl (sw_cond rfl (fun c1 => ?_) (fun c1 => ?_))))))
 ·replace c1 : rn = true := c1
  obtain ⟨h0, h1, h2⟩ := putV_ring hp c1
  dsimp only at h0 h1 h2
  have hv := come_ring (p := (rn, at_, tx)) (t := (sl, rg, sp)) c1
  refine sw_seq (xg hP 3 [] rfl ?_ ?_)
  ·simp only [conj, List.nil_append, List.cons_append, List.append_nil, List.append_assoc, inR_i64, true_and, and_true, Int.toNat_natCast]
   try dsimp only [Ty.den, Ty.dflt]
   repeat' apply And.intro
   all_goals first | rfl | omega | assumption | trivial
  refine sw_seq (xr hP 4 rfl (sw_ret ⟨.inl rfl, _, rfl, ?_⟩))
  simp [conj, comeD, dskOf, drvOf, hv]
 ·replace c1 : rn = false := c1
  obtain ⟨h0, h1, h2⟩ := putV_slot hp c1
  dsimp only at h0 h1 h2
  have hv := come_slot (p := (rn, at_, tx)) (t := (sl, rg, sp)) c1
  refine sw_skip (sw_seq (xg hP 3 [] rfl ?_ ?_))
  ·simp only [conj, List.nil_append, List.cons_append, List.append_nil, List.append_assoc, inR_i64, true_and, and_true, Int.toNat_natCast]
   try dsimp only [Ty.den, Ty.dflt]
   repeat' apply And.intro
   all_goals first | rfl | omega | assumption | trivial
  refine sw_seq (xg hP 4 [] rfl ?_ ?_)
  ·simp only [conj, List.nil_append, List.cons_append, List.append_nil, List.append_assoc, inR_i64, true_and, and_true, Int.toNat_natCast]
   try dsimp only [Ty.den, Ty.dflt]
   repeat' apply And.intro
   all_goals first | rfl | omega | assumption | trivial
  refine sw_seq (xr hP 5 rfl (sw_ret ⟨.inl rfl, _, rfl, ?_⟩))
  simp [conj, comeD, dskOf, drvOf, hv]
end Go.Sx

namespace Go.Sx
open Go
set_option maxRecDepth 100000
set_option linter.unusedVariables false
set_option linter.unusedSimpArgs false
set_option maxHeartbeats 2000000
end Go.Sx

namespace Go.Sx
open Go
set_option maxRecDepth 100000
set_option linter.unusedVariables false
set_option linter.unusedSimpArgs false
set_option maxHeartbeats 2000000
def cIn : Ctr := ⟨191, [.val false TI pF, .val false TI pF, .val false TI pF], fun x => True, fun x => (sBool (inV x.1 x.2.1 x.2.2.1), [])⟩
theorem cIn_ok : CtrOk Proofs.Tryz.prog cIn := by
 have hP := (Prg.none ttok mtok)
 refine ctr_of_body hP cIn (fn := Proofs.Tryz.f191) (rts := [.tmp 6]) Proofs.Tryz.func191 rfl (by kernel_rfl) rfl rfl ?_
 rintro ⟨(n : Int), (lo : Int), (hi : Int), ⟨⟩⟩ _ _
 try dsimp only [Ty.den, Mode.den, mdens] at _
 refine ⟨rfl, ?_⟩
 refine sw_seq (xr hP 1 rfl (sw_seq ?_))
 refine sw_dec hP 2 [] 3 rfl (fun g1_3 => ?_) (fun g1_3 => ?_)
 ·refine xd hP 2 [(3, true)] rfl (sw_ret ⟨.inl rfl, _, rfl, ?_⟩)
  simp [conj] at *
  simp [inV, *]
  try omega
 ·refine xd hP 2 [(3, false)] rfl (sw_ret ⟨.inl rfl, _, rfl, ?_⟩)
  simp [conj] at *
  simp [inV, *]
  try omega
def cDisks : Ctr := ⟨109, [.val false TI pF], fun x => True, fun x => (sBool (poolV x.1), [])⟩
theorem cDisks_ok : CtrOk Proofs.Tryz.prog cDisks := by
 have hP := ((Prg.none ttok mtok).and cIn_ok)
 refine ctr_of_body hP cDisks (fn := Proofs.Tryz.f109) (rts := [.tmp 2]) Proofs.Tryz.func109 rfl (by kernel_rfl) rfl rfl ?_
 rintro ⟨(n : Int), ⟨⟩⟩ _ _
 try dsimp only [Ty.den, Mode.den, mdens] at _
 refine ⟨rfl, ?_⟩
 refine sw_seq (xr hP 1 rfl (sw_seq (xg hP 2 [] rfl ?_ ?_)))
 ·simp only [cj, cl]
  try dsimp only [Ty.den, Ty.dflt]
  repeat' apply And.intro
  all_goals first | trivial | assumption | omega | exact decide_eq_true ‹_› | exact decide_eq_false ‹_› | (simp [*]; done)
 refine sw_ret ⟨.inl rfl, _, rfl, ?_⟩
 simp [conj, poolV]
def cName : Ctr := ⟨298, [.val false .str pF], fun x => True, fun x => (sBool (nameV x.1), [])⟩
theorem cName_ok : CtrOk Proofs.Tryz.prog cName := by
 have hP := ((Prg.none ttok mtok).and cIn_ok)
 refine ctr_of_body hP cName (fn := Proofs.Tryz.f298) (rts := [.tmp 2]) Proofs.Tryz.func298 rfl (by kernel_rfl) rfl rfl ?_
 rintro ⟨(s : Str), ⟨⟩⟩ ⟨hds, _⟩ hpre
 try dsimp only [Ty.den, Mode.den, mdens] at hpre
 refine ⟨rfl, ?_⟩
 have hml : s.length ≤ 140737488355328 := hds
 refine sw_seq (xr hP 1 rfl (sw_seq (sw_seq (xg hP 2 [] rfl ?_ ?_))))
 ·exact trivial
 refine sw_cond rfl (fun c1 => ?_) (fun c1 => ?_)
 ·refine sw_seq (xr hP 3 rfl (sw_ret ⟨.inl rfl, _, rfl, ?_⟩))
  first | (simp at c1; simp [conj, nameV, c1]; done) | (simp [gE hlt] at g6_4; simp only [conj, nameV, hin, all_hit hlt hgo (lower_l g6_4)]; rfl) | (simp [gE hlt] at c6; simp only [conj, nameV, hin, all_hit hlt hgo (lower_h c6)]; rfl) | (simp only [conj, nameV, hin, all_end hgo]; rfl)
 ·refine sw_skip (sw_seq (sw_seq (xr hP 3 rfl (sw_block (sw_loop (ι := Nat) (fun i => ⟨[.v false [.d .str pF s], .j, .j, sInt .i64 (i : Int), .j, .j, .j, .j, .j, .j, .j, .j, .j, .j, .j, .j, .j, .j, .j, .j, .j, .j, .j, .j], [], 3, []⟩) (fun i => s.length - i) (fun i => i ≤ s.length ∧ (inV s.length 1 3 = true) ∧ (s.drop i).all lower = s.all lower) 0 ⟨?_, ?_⟩ ?_)))))
  ·refine ⟨Nat.zero_le _, ?_, rfl⟩
   simpa using c1
  ·refine ent_ok rfl ?_
   first | trivial | (simp [conj]; done) | (simp [conj] at *; (try dsimp only [Ty.den, Ty.dflt] at *); omega)
  ·rintro i ⟨hi, hin, hgo⟩
   refine sw_seq (sw_seq (xr hP 4 rfl (sw_cond rfl (fun c4 => ?_) (fun c4 => ?_))))
   ·have hlt : i < s.length := by simpa using c4
    refine sw_skip (sw_seq (sw_block (sw_seq ?_)))
    refine sw_dec hP 5 [] 4 rfl (fun g6_4 => ?_) (fun g6_4 => ?_)
    ·refine xd hP 5 [(4, true)] rfl (sw_condT rfl (sw_seq (xr hP 6 rfl (sw_ret ⟨.inl rfl, _, rfl, ?_⟩))))
     first | (simp at c1; simp [conj, nameV, c1]; done) | (simp [gE hlt] at g6_4; simp only [conj, nameV, hin, all_hit hlt hgo (lower_l g6_4)]; rfl) | (simp [gE hlt] at c6; simp only [conj, nameV, hin, all_hit hlt hgo (lower_h c6)]; rfl) | (simp only [conj, nameV, hin, all_end hgo]; rfl)
    ·refine xd hP 5 [(4, false)] rfl (sw_cond rfl (fun c6 => ?_) (fun c6 => ?_))
     ·refine sw_seq (xr hP 6 rfl (sw_ret ⟨.inl rfl, _, rfl, ?_⟩))
      first | (simp at c1; simp [conj, nameV, c1]; done) | (simp [gE hlt] at g6_4; simp only [conj, nameV, hin, all_hit hlt hgo (lower_l g6_4)]; rfl) | (simp [gE hlt] at c6; simp only [conj, nameV, hin, all_hit hlt hgo (lower_h c6)]; rfl) | (simp only [conj, nameV, hin, all_end hgo]; rfl)
     ·refine sw_skip (xr hP 6 rfl (⟨i + 1, ?_, ?_, ent_ok rfl ?_⟩))
      ·simp [gE hlt] at g6_4 c6
       exact ⟨hlt, hin, all_next hlt hgo (lower_t g6_4 c6)⟩
      ·omega
      ·simp [conj]
   ·obtain rfl : i = s.length := by simp at c4; omega
    refine sw_exit (sw_seq (xr hP 5 rfl (sw_ret ⟨.inl rfl, _, rfl, ?_⟩)))
    first | (simp at c1; simp [conj, nameV, c1]; done) | (simp [gE hlt] at g6_4; simp only [conj, nameV, hin, all_hit hlt hgo (lower_l g6_4)]; rfl) | (simp [gE hlt] at c6; simp only [conj, nameV, hin, all_hit hlt hgo (lower_h c6)]; rfl) | (simp only [conj, nameV, hin, all_end hgo]; rfl)
def cColsS : Ctr := ⟨64, [.val false TI pF], fun x => 0 ≤ x.1 ∧ x.1 ≤ 1000000, fun x => (sInt .i64 (colsV x.1), [])⟩
theorem cColsS_ok : CtrOk Proofs.Tryz.prog cColsS := by
 have hP := (Prg.none ttok mtok)
 refine ctr_of_body hP cColsS (fn := Proofs.Tryz.f64) (rts := [.tmp 2]) Proofs.Tryz.func64 rfl (by kernel_rfl) rfl rfl ?_
 rintro ⟨(n : Int), ⟨⟩⟩ _ ⟨h0, h1⟩
 try dsimp only [Ty.den, Mode.den, mdens] at h0
 try dsimp only [Ty.den, Mode.den, mdens] at h1
 refine ⟨rfl, ?_⟩
 have hq := colsV_bd h0 h1
 unfold colsV at hq
 refine sw_seq (xr hP 1 rfl (sw_seq (xg hP 2 [] rfl ?_ ?_)))
 ·simp only [cj, cl]
  try dsimp only [Ty.den, Ty.dflt]
  repeat' apply And.intro
  all_goals first | rfl | omega | assumption | trivial
 refine sw_ret ⟨.inl rfl, _, rfl, ?_⟩
 simp [conj, colsV]
def cPtrS : Ctr := ⟨149, [.val false TI pF, .val true T_Ptr (.all .b)], fun x => poolV x.1 = true, fun x => (sBool (ptrW x.1 x.2.1), [])⟩
theorem cPtrS_ok : CtrOk Proofs.Tryz.prog cPtrS := by
 have hP := (((Prg.none ttok mtok).and cIn_ok).and cColsS_ok)
 refine ctr_of_body hP cPtrS (fn := Proofs.Tryz.f149) (rts := [.tmp 4]) Proofs.Tryz.func149 rfl (by kernel_rfl) rfl rfl ?_
 rintro ⟨(d : Int), ⟨(sz : Int), (sm : Int), (pl : List Plc)⟩, ⟨⟩⟩ ⟨_, ⟨_, _, hpl0⟩, _⟩ hpre
 try dsimp only [Ty.den, Mode.den, mdens] at hpre
 refine ⟨rfl, ?_⟩
 replace hpre : poolV d = true := hpre
 have hml : pl.length ≤ 140737488355328 := hpl0.1
 have hb : 3 ≤ d ∧ d ≤ 4 := by simpa [poolV, inV] using hpre
 have hmm := sMin_bd d hb
 have hmv : mostV d = 3 * (d - 1) := by unfold mostV; rw [hmm]
 refine sw_seq (xr hP 1 rfl (sw_seq (sw_seq (xr hP 2 rfl (sw_cond rfl (fun c1 => ?_) (fun c1 => ?_))))))
 ·replace c1 : sz = 0 := of_decide_eq_true c1
  refine sw_seq ?_
  refine sw_dec hP 3 [] 3 rfl (fun g2_3 => ?_) (fun g2_3 => ?_)
  ·replace g2_3 : sm = 0 := of_decide_eq_true g2_3
   refine xg hP 3 [(3, true)] rfl ?_ ?_
   ·simp only [cj, cl]
    try dsimp only [Ty.den, Ty.dflt]
    repeat' apply And.intro
    all_goals first | trivial | assumption | omega | exact decide_eq_true ‹_› | exact decide_eq_false ‹_› | (simp [*]; done)
   refine sw_ret ⟨.inl rfl, _, rfl, ?_⟩
   simp [conj, ptrW, c1, *]
   try omega
  ·replace g2_3 : ¬ sm = 0 := of_decide_eq_false g2_3
   refine xg hP 3 [(3, false)] rfl ?_ ?_
   ·simp only [cj, cl]
    try dsimp only [Ty.den, Ty.dflt]
    repeat' apply And.intro
    all_goals first | trivial | assumption | omega | exact decide_eq_true ‹_› | exact decide_eq_false ‹_› | (simp [*]; done)
   refine sw_ret ⟨.inl rfl, _, rfl, ?_⟩
   simp [conj, ptrW, c1, *]
   try omega
 ·replace c1 : ¬ sz = 0 := of_decide_eq_false c1
  refine sw_skip (sw_seq (sw_seq ?_))
  refine sw_dec hP 3 [] 8 rfl (fun g3_8 => ?_) (fun g3_8 => ?_)
  ·have k8 : inV sz 1 (mostV d) = false := by have h : (!inV sz 1 (mostV d)) = true := g3_8; simpa using h
   have hsz : sizeV d ((sz, sm, pl) : Ptr_) = false := by simp [sizeV, k8]
   refine xg hP 3 [(8, true)] rfl ?_ ?_
   ·simp only [cj, cl]
    try dsimp only [Ty.den, Ty.dflt]
    repeat' apply And.intro
    all_goals first | trivial | assumption | omega | (show 0 ≤ sz; omega) | (show sz ≤ 1000000; omega) | (show _ ≤ mostV d; omega) | (show mostV d ≤ _; omega) | exact g3_8 | exact g3_14
   refine sw_condT rfl (sw_seq (xr hP 4 rfl (sw_ret ⟨.inl rfl, _, rfl, ?_⟩)))
   simp [conj, ptrW, c1, hsz]
  ·have k8 : inV sz 1 (mostV d) = true := by have h : (!inV sz 1 (mostV d)) = false := g3_8; simpa using h
   have hs1 : 1 ≤ sz ∧ sz ≤ mostV d := by simpa [inV] using k8
   have hcb := colsV_bd (n := sz) (by omega) (by omega)
   refine sw_dec hP 3 [(8, false)] 14 rfl (fun g3_14 => ?_) (fun g3_14 => ?_)
   ·have k14 : inV sm 0 1000000000 = false := by have h : (!inV sm 0 1000000000) = true := g3_14; simpa using h
    have hsz : sizeV d ((sz, sm, pl) : Ptr_) = false := by simp [sizeV, k14]
    refine xg hP 3 [(8, false), (14, true)] rfl ?_ ?_
    ·simp only [cj, cl]
     try dsimp only [Ty.den, Ty.dflt]
     repeat' apply And.intro
     all_goals first | trivial | assumption | omega | (show 0 ≤ sz; omega) | (show sz ≤ 1000000; omega) | (show _ ≤ mostV d; omega) | (show mostV d ≤ _; omega) | exact g3_8 | exact g3_14
    refine sw_condT rfl (sw_seq (xr hP 4 rfl (sw_ret ⟨.inl rfl, _, rfl, ?_⟩)))
    simp [conj, ptrW, c1, hsz]
   ·have k14 : inV sm 0 1000000000 = true := by have h : (!inV sm 0 1000000000) = false := g3_14; simpa using h
    refine xg hP 3 [(8, false), (14, false)] rfl ?_ ?_
    ·simp only [cj, cl]
     try dsimp only [Ty.den, Ty.dflt]
     repeat' apply And.intro
     all_goals first | trivial | assumption | omega | (show 0 ≤ sz; omega) | (show sz ≤ 1000000; omega) | (show _ ≤ mostV d; omega) | (show mostV d ≤ _; omega) | exact g3_8 | exact g3_14
    refine sw_cond rfl (fun c3 => ?_) (fun c3 => ?_)
    ·have hsz : sizeV d ((sz, sm, pl) : Ptr_) = false := by
       have h : (!decide ((pl.length : Int) = colsV sz + 1)) = true := c3
       simp [sizeV] at h ⊢; intros; omega
     refine sw_seq (xr hP 4 rfl (sw_ret ⟨.inl rfl, _, rfl, ?_⟩))
     simp [conj, ptrW, c1, hsz]
    ·have hsz : sizeV d ((sz, sm, pl) : Ptr_) = true := by
       have h : (!decide ((pl.length : Int) = colsV sz + 1)) = false := c3
       simp [sizeV, k8, k14] at h ⊢; omega
     refine sw_skip (sw_seq (sw_seq (xr hP 4 rfl (sw_block (sw_loop (ι := Nat) (fun i => ⟨[sInt .i64 d, .j, .j, .v false [.ptr ⟨1, 0, 0⟩ 0], .j, sInt .i64 (i : Int), .j, .j, .j, .j, .j, .j, .j, .j, .j, .j, .j, .j, .j, .j, .j, .j, .j, .j, .j, .j, .j, .j, .j, .j, .j, .j, .j, .j, .j, .j, .j, .j, .j, .j, .j, .j, .j, .j, .j, .j, .j, .j, .j, .j, .j, .j, .j, .j, .j, .j, .j, .j, .j, .j, .j, .j, .j, .j, .j, .j, .j, .j, .j, .j, .j, .j, .j, .j, .j, .j, .j, .j, .j, .j, .j, .j, .j, .j, .j, .j, .j, .j], [(⟨1, 0, 0⟩, .var [.d TI pF sz, .d TI pF sm, .d (.sl T_Place) (.all .b) pl])], 4, []⟩) (fun i => pl.length - i) (fun i => i ≤ pl.length ∧ chkGo (placeF d) (pl.take i) (pl.drop i) = chk (placeF d) pl) 0 ⟨?_, ?_⟩ ?_)))))
     ·exact ⟨Nat.zero_le _, rfl⟩
     ·refine ent_ok rfl ?_
      simp [conj]
     ·rintro i ⟨hi, hgo⟩
      refine sw_seq (sw_seq (xr hP 5 rfl (sw_cond rfl (fun c6 => ?_) (fun c6 => ?_))))
      ·have hlt : i < pl.length := by simpa using c6
       refine sw_skip (sw_seq (sw_block (sw_seq (sw_seq ?_))))
       refine sw_dec hP 6 [] 10 rfl (fun g8_10 => ?_) (fun g8_10 => ?_)
       ·replace g8_10 : inV pl[i].1 0 (d - 1) = false := by simpa [gE hlt] using g8_10
        have hf : placeF d (pl.take i) pl[i] = false := by simp [placeF, placeV_no1 g8_10]
        refine xg hP 6 [(10, true)] rfl ?_ ?_
        ·simp [conj, gE hlt]
         repeat' apply And.intro
         all_goals first | omega | assumption | (simp [*]; done) | trivial
        refine sw_condT rfl (sw_seq (xr hP 7 rfl (sw_ret ⟨.inl rfl, _, rfl, ?_⟩)))
        have hv := chk_hit hlt hgo hf
        simp [conj, ptrW, c1, hsz, hv]
       ·replace g8_10 : inV pl[i].1 0 (d - 1) = true := by simpa [gE hlt] using g8_10
        refine xg hP 6 [(10, false)] rfl ?_ ?_
        ·simp [conj, gE hlt]
         repeat' apply And.intro
         all_goals first | omega | assumption | (simp [*]; done) | trivial
        refine sw_cond rfl (fun c8 => ?_) (fun c8 => ?_)
        ·replace c8 : inV pl[i].2 0 11 = false := by simpa [gE hlt] using c8
         have hf : placeF d (pl.take i) pl[i] = false := by simp [placeF, placeV_no2 c8]
         refine sw_seq (xr hP 7 rfl (sw_ret ⟨.inl rfl, _, rfl, ?_⟩))
         have hv := chk_hit hlt hgo hf
         simp [conj, ptrW, c1, hsz, hv]
        ·replace c8 : inV pl[i].2 0 11 = true := by simpa [gE hlt] using c8
         have hpv : placeV d pl[i] = true := placeV_yes g8_10 c8
         refine sw_skip (sw_seq (xr hP 7 rfl (sw_block (sw_loop (ι := Nat) (fun k => ⟨[sInt .i64 d, .j, .j, .v false [.ptr ⟨1, 0, 0⟩ 0], .j, sInt .i64 (i : Int), sInt .i64 (k : Int), .j, .j, .j, .j, .j, .j, .j, .j, .j, .j, .j, .j, .j, .j, .j, .j, .j, .j, .j, .j, .j, .j, .j, .j, .j, .j, .j, .j, .j, .j, .j, .j, .j, .j, .j, .j, .j, .j, .j, .j, .j, .j, .j, .j, .j, .j, .j, .j, .j, .j, .j, .j, .j, .j, .j, .j, .j, .j, .j, .j, .j, .j, .j, .j, .j, .j, .j, .j, .j, .j, .j, .j, .j, .j, .j, .j, .j, .j, .j, .j, .j], [(⟨1, 0, 0⟩, .var [.d TI pF sz, .d TI pF sm, .d (.sl T_Place) (.all .b) pl])], 7, []⟩) (fun k => i - k) (fun k => k ≤ i ∧ (pl.take k).any (fun q : Plc => decide (q.1 = pl[i].1)) = false) 0 ⟨?_, ?_⟩ ?_))))
         ·exact ⟨Nat.zero_le _, rfl⟩
         ·refine ent_ok rfl ?_
          simp [conj]
         ·rintro k ⟨hk, hgk⟩
          refine sw_seq (sw_seq (xr hP 8 rfl (sw_cond rfl (fun c11 => ?_) (fun c11 => ?_))))
          ·have hki : k < i := by simpa using c11
           have hlk : k < pl.length := by omega
           refine sw_skip (sw_seq (sw_block (sw_seq (xg hP 9 [] rfl ?_ ?_))))
           ·simp [conj, gE hlt, gE hlk]
            repeat' apply And.intro
            all_goals first | omega | trivial
           refine sw_cond rfl (fun c13 => ?_) (fun c13 => ?_)
           ·replace c13 : (fun q : Plc => decide (q.1 = pl[i].1)) pl[k] = true := by simpa [gE hlt, gE hlk] using c13
            have hf : placeF d (pl.take i) pl[i] = false := by unfold placeF; rw [any_hit hki hlk c13]; simp
            refine sw_seq (xr hP 10 rfl (sw_ret ⟨.inl rfl, _, rfl, ?_⟩))
            have hv := chk_hit hlt hgo hf
            simp [conj, ptrW, c1, hsz, hv]
           ·replace c13 : (fun q : Plc => decide (q.1 = pl[i].1)) pl[k] = false := by simpa [gE hlt, gE hlk] using c13
            refine sw_skip (xr hP 10 rfl (⟨k + 1, ?_, ?_, ent_ok rfl ?_⟩))
            ·exact ⟨hki, any_next hlk hgk c13⟩
            ·omega
            ·simp [conj]
          ·obtain rfl : k = i := by simp at c11; omega
           have hf : placeF d (pl.take k) pl[k] = true := by unfold placeF; rw [hpv, hgk]; rfl
           refine sw_exit (xr hP 9 rfl (⟨k + 1, ?_, ?_, ent_ok rfl ?_⟩))
           ·exact ⟨hlt, chk_next hlt hgo hf⟩
           ·omega
           ·simp [conj]
      ·obtain rfl : i = pl.length := by simp at c6; omega
       refine sw_exit (sw_seq (xr hP 6 rfl (sw_ret ⟨.inl rfl, _, rfl, ?_⟩)))
       have hv := chk_end hgo
       simp [conj, ptrW, c1, hsz, hv]
def cMeet : Ctr := ⟨299, [.val true T_Ptr (.all .b), .val true T_Ptr (.all .b)], fun x => True, fun x => (sBool (meetV x.1 x.2.1), [])⟩
theorem cMeet_ok : CtrOk Proofs.Tryz.prog cMeet := by
 have hP := (Prg.none ttok mtok)
 refine ctr_of_body hP cMeet (fn := Proofs.Tryz.f299) (rts := [.tmp 4]) Proofs.Tryz.func299 rfl (by kernel_rfl) rfl rfl ?_
 rintro ⟨⟨(sz : Int), (sm : Int), (pl : List Plc)⟩, ⟨(sz2 : Int), (sm2 : Int), (pl2 : List Plc)⟩, ⟨⟩⟩ ⟨⟨_, _, h1⟩, ⟨_, _, h2⟩, _⟩ _
 try dsimp only [Ty.den, Mode.den, mdens] at _
 refine ⟨rfl, ?_⟩
 have hm1 : pl.length ≤ 140737488355328 := h1.1
 have hm2 : pl2.length ≤ 140737488355328 := h2.1
 refine sw_seq (xr hP 1 rfl (sw_seq (sw_seq (xr hP 2 rfl (sw_block (sw_loop (ι := Nat) (fun i => ⟨[.j, .j, .v false [.ptr ⟨1, 0, 0⟩ 0], .v false [.ptr ⟨1, 1, 0⟩ 0], .j, sInt .i64 (i : Int), .j, .j, .j, .j, .j, .j, .j, .j, .j, .j, .j, .j, .j, .j, .j, .j, .j, .j, .j, .j, .j, .j, .j, .j, .j, .j], [(⟨1, 0, 0⟩, .var [.d TI pF sz, .d TI pF sm, .d (.sl T_Place) (.all .b) pl]), (⟨1, 1, 0⟩, .var [.d TI pF sz2, .d TI pF sm2, .d (.sl T_Place) (.all .b) pl2])], 2, []⟩) (fun i => pl.length - i) (fun i => i ≤ pl.length ∧ (pl.take i).any (fun a : Plc => pl2.any fun b => decide (a = b)) = false) 0 ⟨?_, ?_⟩ ?_))))))
 ·exact ⟨Nat.zero_le _, rfl⟩
 ·refine ent_ok rfl ?_
  simp [conj]
 ·rintro i ⟨hi, hgo⟩
  refine sw_seq (sw_seq (xr hP 3 rfl (sw_cond rfl (fun c2 => ?_) (fun c2 => ?_))))
  ·have hlt : i < pl.length := by simpa using c2
   refine sw_skip (sw_seq (sw_block (sw_seq (xr hP 4 rfl (sw_block (sw_loop (ι := Nat) (fun k => ⟨[.j, .j, .v false [.ptr ⟨1, 0, 0⟩ 0], .v false [.ptr ⟨1, 1, 0⟩ 0], .j, sInt .i64 (i : Int), sInt .i64 (k : Int), .j, .j, .j, .j, .j, .j, .j, .j, .j, .j, .j, .j, .j, .j, .j, .j, .j, .j, .j, .j, .j, .j, .j, .j, .j], [(⟨1, 0, 0⟩, .var [.d TI pF sz, .d TI pF sm, .d (.sl T_Place) (.all .b) pl]), (⟨1, 1, 0⟩, .var [.d TI pF sz2, .d TI pF sm2, .d (.sl T_Place) (.all .b) pl2])], 4, []⟩) (fun k => pl2.length - k) (fun k => k ≤ pl2.length ∧ (pl2.take k).any (fun b : Plc => decide (pl[i] = b)) = false) 0 ⟨?_, ?_⟩ ?_))))))
   ·exact ⟨Nat.zero_le _, rfl⟩
   ·refine ent_ok rfl ?_
    simp [conj]
   ·rintro k ⟨hk, hgk⟩
    refine sw_seq (sw_seq (xr hP 5 rfl (sw_cond rfl (fun c5 => ?_) (fun c5 => ?_))))
    ·have hlk : k < pl2.length := by simpa using c5
     refine sw_skip (sw_seq (sw_block (sw_seq (xg hP 6 [] rfl ?_ ?_))))
     ·simp [conj, gE hlt, gE hlk]
      repeat' apply And.intro
      all_goals first | omega | trivial
     refine sw_cond rfl (fun c7 => ?_) (fun c7 => ?_)
     ·have he : (fun b : Plc => decide (pl[i] = b)) pl2[k] = true := by
        have h := c7
        simp [gE hlt, gE hlk] at h
        simp only [decide_eq_true_eq]
        exact Prod.ext h.1 h.2
      have hv : meetV ((sz, sm, pl) : Ptr_) (sz2, sm2, pl2) = true := any_hit' (p := (fun a : Plc => pl2.any fun b => decide (a = b))) hlt (any_hit' (p := (fun b : Plc => decide (pl[i] = b))) hlk he)
      refine sw_seq (xr hP 7 rfl (sw_ret ⟨.inl rfl, _, rfl, ?_⟩))
      simp [conj, hv]
     ·have he : (fun b : Plc => decide (pl[i] = b)) pl2[k] = false := by
        simp only [decide_eq_false_iff_not]
        intro e
        simp [gE hlt, gE hlk, e] at c7
      refine sw_skip (xr hP 7 rfl (⟨k + 1, ?_, ?_, ent_ok rfl ?_⟩))
      ·exact ⟨hlk, any_next hlk hgk he⟩
      ·omega
      ·simp [conj]
    ·obtain rfl : k = pl2.length := by simp at c5; omega
     have hf := any_end hgk
     refine sw_exit (xr hP 6 rfl (⟨i + 1, ?_, ?_, ent_ok rfl ?_⟩))
     ·exact ⟨hlt, any_next hlt hgo hf⟩
     ·omega
     ·simp [conj]
  ·obtain rfl : i = pl.length := by simp at c2; omega
   refine sw_exit (sw_seq (xr hP 4 rfl (sw_ret ⟨.inl rfl, _, rfl, ?_⟩)))
   have hv : meetV ((sz, sm, pl) : Ptr_) (sz2, sm2, pl2) = false := any_end hgo
   simp [conj, hv]
def cSameS : Ctr := ⟨300, [.val true T_Ptr (.all .b), .val true T_Ptr (.all .b)], fun x => True, fun x => (sBool (decide ((x.1 : Ptr_) = x.2.1)), [])⟩
theorem cSameS_ok : CtrOk Proofs.Tryz.prog cSameS := by
 have hP := (Prg.none ttok mtok)
 refine ctr_of_body hP cSameS (fn := Proofs.Tryz.f300) (rts := [.tmp 4]) Proofs.Tryz.func300 rfl (by kernel_rfl) rfl rfl ?_
 rintro ⟨⟨(sz : Int), (sm : Int), (pl : List Plc)⟩, ⟨(sz2 : Int), (sm2 : Int), (pl2 : List Plc)⟩, ⟨⟩⟩ ⟨⟨_, _, h1⟩, ⟨_, _, h2⟩, _⟩ _
 try dsimp only [Ty.den, Mode.den, mdens] at _
 refine ⟨rfl, ?_⟩
 have hm1 : pl.length ≤ 140737488355328 := h1.1
 have hm2 : pl2.length ≤ 140737488355328 := h2.1
 refine sw_seq (xr hP 1 rfl (sw_seq (sw_seq ?_)))
 refine sw_dec hP 2 [] 5 rfl (fun g1_5 => ?_) (fun g1_5 => ?_)
 ·have k5 : ¬ sz = sz2 := by simpa using g1_5
  refine xg hP 2 [(5, true)] rfl ?_ ?_
  ·simp only [cj, cl]
   try dsimp only [Ty.den, Ty.dflt]
   repeat' apply And.intro
   all_goals first | trivial | exact g1_5 | exact g1_12 | assumption
  refine sw_condT rfl (sw_seq (xr hP 3 rfl (sw_ret ⟨.inl rfl, _, rfl, ?_⟩)))
  simp [conj, Prod.ext_iff, k5]
 ·have k5 : sz = sz2 := by simpa using g1_5
  refine sw_dec hP 2 [(5, false)] 12 rfl (fun g1_12 => ?_) (fun g1_12 => ?_)
  ·have k12 : ¬ sm = sm2 := by simpa using g1_12
   refine xg hP 2 [(5, false), (12, true)] rfl ?_ ?_
   ·simp only [cj, cl]
    try dsimp only [Ty.den, Ty.dflt]
    repeat' apply And.intro
    all_goals first | trivial | exact g1_5 | exact g1_12 | assumption
   refine sw_condT rfl (sw_seq (xr hP 3 rfl (sw_ret ⟨.inl rfl, _, rfl, ?_⟩)))
   simp [conj, Prod.ext_iff, k12]
  ·have k12 : sm = sm2 := by simpa using g1_12
   refine xg hP 2 [(5, false), (12, false)] rfl ?_ ?_
   ·simp only [cj, cl]
    try dsimp only [Ty.den, Ty.dflt]
    repeat' apply And.intro
    all_goals first | trivial | exact g1_5 | exact g1_12 | assumption
   refine sw_cond rfl (fun c1 => ?_) (fun c1 => ?_)
   ·replace c1 : ¬ pl.length = pl2.length := by simp at c1; omega
    refine sw_seq (xr hP 3 rfl (sw_ret ⟨.inl rfl, _, rfl, ?_⟩))
    have hv := eqL_len c1
    replace hv : ¬ pl = pl2 := of_decide_eq_false hv
    simp [conj, Prod.ext_iff, hv]
   ·replace c1 : pl.length = pl2.length := by simp at c1; omega
    refine sw_skip (sw_seq (sw_seq (xr hP 3 rfl (sw_block (sw_loop (ι := Nat) (fun i => ⟨[.j, .j, .v false [.ptr ⟨1, 0, 0⟩ 0], .v false [.ptr ⟨1, 1, 0⟩ 0], .j, sInt .i64 (i : Int), .j, .j, .j, .j, .j, .j, .j, .j, .j, .j, .j, .j, .j, .j, .j, .j, .j, .j, .j, .j, .j, .j, .j, .j, .j, .j, .j, .j, .j, .j, .j, .j, .j, .j, .j, .j, .j, .j, .j], [(⟨1, 0, 0⟩, .var [.d TI pF sz, .d TI pF sm, .d (.sl T_Place) (.all .b) pl]), (⟨1, 1, 0⟩, .var [.d TI pF sz2, .d TI pF sm2, .d (.sl T_Place) (.all .b) pl2])], 3, []⟩) (fun i => pl.length - i) (fun i => i ≤ pl.length ∧ decide (pl.drop i = pl2.drop i) = decide (pl = pl2)) 0 ⟨?_, ?_⟩ ?_)))))
    ·exact ⟨Nat.zero_le _, rfl⟩
    ·refine ent_ok rfl ?_
     simp [conj]
    ·rintro i ⟨hi, hgo⟩
     refine sw_seq (sw_seq (xr hP 4 rfl (sw_cond rfl (fun c4 => ?_) (fun c4 => ?_))))
     ·have hlt : i < pl.length := by simpa using c4
      have hlt2 : i < pl2.length := by omega
      refine sw_skip (sw_seq (sw_block (sw_seq (xg hP 5 [] rfl ?_ ?_))))
      ·simp [conj, gE hlt, gE hlt2]
       repeat' apply And.intro
       all_goals first | omega | trivial
      refine sw_cond rfl (fun c6 => ?_) (fun c6 => ?_)
      ·replace c6 : ¬ pl[i] = pl2[i] := by intro e; simp [gE hlt, gE hlt2, e] at c6
       refine sw_seq (xr hP 6 rfl (sw_ret ⟨.inl rfl, _, rfl, ?_⟩))
       have hv := eqL_hit hlt hlt2 hgo c6
       replace hv : ¬ pl = pl2 := of_decide_eq_false hv
       simp [conj, Prod.ext_iff, hv]
      ·replace c6 : pl[i] = pl2[i] := by have h := c6; simp [gE hlt, gE hlt2] at h; exact Prod.ext h.1 h.2
       refine sw_skip (xr hP 6 rfl (⟨i + 1, ?_, ?_, ent_ok rfl ?_⟩))
       ·exact ⟨hlt, eqL_next hlt hlt2 hgo c6⟩
       ·omega
       ·simp [conj]
     ·obtain rfl : i = pl.length := by simp at c4; omega
      refine sw_exit (sw_seq (xr hP 5 rfl (sw_ret ⟨.inl rfl, _, rfl, ?_⟩)))
      have hv := eqL_end c1 hgo
      replace hv : pl = pl2 := of_decide_eq_true hv
      simp [conj, k5, k12, hv]
def cAll : Ctr := ⟨220, [.val true T_Root (.all .b)], fun x => SmallV x.1.2, fun x => (.v false [.own ⟨1, 0, 0⟩], [(⟨1, 0, 0⟩, .sl T_Ptr (.all .b) (blksOf x.1.2))])⟩
theorem cAll_ok : CtrOk Proofs.Tryz.prog cAll := by
 have hP := (Prg.none ttok mtok)
 refine ctr_of_body hP cAll (fn := Proofs.Tryz.f220) (rts := [.tmp 2]) Proofs.Tryz.func220 rfl (by kernel_rfl) rfl rfl ?_
 rintro ⟨⟨(tg : Int), (l : List Vol_)⟩, ⟨⟩⟩ _ hpre
 try dsimp only [Ty.den, Mode.den, mdens] at hpre
 refine ⟨rfl, ?_⟩
 replace hpre : SmallV l := hpre
 have hml : l.length ≤ 100 := hpre.1
 refine sw_seq (xr hP 1 rfl (sw_seq (xr hP 2 rfl (sw_seq (sw_seq (xr hP 3 rfl (sw_block (sw_loop (ι := Nat) (fun i => ⟨[.j, .v false [.ptr ⟨1, 0, 0⟩ 0], .j, .v false [.own ⟨0, 9, 0⟩], sInt .i64 (i : Int), .j, .j, .j, .j, .j, .j, .j, .j, .j, .j, .j, .j, .j, .j, .j, .j, .j], [(⟨1, 0, 0⟩, .var [.d TI pF tg, .d (.sl T_Vol) (.all .b) l]), (⟨0, 9, 0⟩, .sl T_Ptr (.all .b) (blksOf (l.take i)))], 3, []⟩) (fun i => l.length - i) (fun i => i ≤ l.length) 0 ⟨?_, ?_⟩ ?_))))))))
 ·exact Nat.zero_le _
 ·refine ent_ok rfl ?_
  simp [conj, blksOf]
 ·rintro i hi
  refine sw_seq (sw_seq (xr hP 4 rfl (sw_cond rfl (fun c3 => ?_) (fun c3 => ?_))))
  ·have hlt : i < l.length := by simpa using c3
   have hb1 := blks_len hpre (i := i)
   have hb2 := hpre.2 _ (List.getElem_mem hlt)
   refine sw_skip (sw_seq (sw_block (xg hP 5 [] rfl ?_ ?_)))
   ·simp [conj, maxL, gE hlt]
    omega
   refine xr hP 6 rfl (⟨i + 1, ?_, ?_, ent_ok rfl ?_⟩)
   ·exact hlt
   ·omega
   ·simp [conj, gE hlt]
    exact flat_next hlt
  ·obtain rfl : i = l.length := by simp at c3; omega
   refine sw_exit (sw_seq (xr hP 5 rfl (sw_ret ⟨.inl rfl, _, rfl, ?_⟩)))
   simp [conj]
end Go.Sx

namespace Go.Sx
open Go
set_option maxRecDepth 100000
set_option linter.unusedVariables false
set_option linter.unusedSimpArgs false
set_option maxHeartbeats 2000000
def cDOk : Ctr := ⟨83, [.val true T_Disk (.all .b)], fun _ => True, fun x => (sBool (rdV x.1), [])⟩
theorem cDOk_ok : CtrOk Proofs.Tryz.prog cDOk := by
 have hP := (Prg.none ttok mtok)
 refine ctr_of_body hP cDOk (fn := Proofs.Tryz.f83) (rts := [.tmp 2]) Proofs.Tryz.func83 rfl (by kernel_rfl) rfl rfl ?_
 rintro ⟨⟨(st : Int), (sl : List Str), (rg : List Str), (sp : List Bool), (wt : List Put)⟩, ⟨⟩⟩ _ _
 try dsimp only [Ty.den, Mode.den, mdens] at _
 refine ⟨rfl, ?_⟩
 by_cases h1 : rdV ((st, sl, rg, sp, wt) : Dsk) = true
 ·have hP := ((Prg.none ttok mtok).and cRead_ok)
  refine sw_seq (xr hP 1 rfl (sw_seq (xg hP 2 [] rfl ?_ ?_)))
  ·simp [conj, maxL]
   try dsimp only [Ty.den, Ty.dflt]
   try simp only [rd_eta]
   exact h1
  refine sw_seq (xr hP 3 rfl (sw_ret ⟨.inl rfl, _, rfl, ?_⟩))
  simp [conj, h1]
 ·have hP := ((Prg.none ttok mtok).and cReadB_ok)
  have h1b : rdV ((st, sl, rg, sp, wt) : Dsk) = false := by simpa using h1
  refine sw_seq (xr hP 1 rfl (sw_seq (xg hP 2 [] rfl ?_ ?_)))
  ·simp [conj, maxL]
   try dsimp only [Ty.den, Ty.dflt]
   try simp only [rd_eta]
   exact h1b
  refine sw_seq (xr hP 3 rfl (sw_ret ⟨.inl rfl, _, rfl, ?_⟩))
  simp [conj, h1b]
def cStr1 : Ctr := ⟨82, [.val true T_Disk (.all .b)], fun x => True, fun x => (sBool (noD x.1), [])⟩
theorem cStr1_ok : CtrOk Proofs.Tryz.prog cStr1 := by
 have hP := ((Prg.none ttok mtok).and cDOk_ok)
 refine ctr_of_body hP cStr1 (fn := Proofs.Tryz.f82) (rts := [.tmp 2]) Proofs.Tryz.func82 rfl (by kernel_rfl) rfl rfl ?_
 rintro ⟨⟨(st : Int), (sl : List Str), (rg : List Str), (sp : List Bool), (wt : List Put)⟩, ⟨⟩⟩ _ _
 try dsimp only [Ty.den, Mode.den, mdens] at _
 refine ⟨rfl, ?_⟩
 refine sw_seq (xr hP 1 rfl (sw_seq (xg hP 2 [] rfl ?_ ?_)))
 ·simp [conj, maxL]
  try dsimp only [Ty.den, Ty.dflt]
  try simp only [rd_eta]
  try trivial
 refine sw_ret ⟨.inl rfl, _, rfl, ?_⟩
 simp [conj, noD]
def cIdxD : Ctr := ⟨166, [.val false (.sl T_Disk) (.all .b), .clo 82 []], fun _ => True, fun x => (sInt .i64 (idxF noD x.1), [])⟩
theorem cIdxD_ok : CtrOk Proofs.Tryz.prog cIdxD := by
 have hP := ((Prg.none ttok mtok).and cStr1_ok)
 refine ctr_of_body hP cIdxD (fn := Proofs.Tryz.f166) (rts := [.tmp 4]) Proofs.Tryz.func166 rfl (by kernel_rfl) rfl rfl ?_
 rintro ⟨(l : List Dsk), ⟨⟩, ⟨⟩⟩ ⟨hdl, _⟩ hpre
 try dsimp only [Ty.den, Mode.den, mdens] at hpre
 refine ⟨rfl, ?_⟩
 have hml : l.length ≤ 140737488355328 := hdl.1
 refine sw_seq (xr hP 1 rfl (sw_seq (sw_seq (xr hP 2 rfl (sw_block (sw_loop (ι := Nat) (fun i => ⟨[.v false [.d (.sl T_Disk) (.all .b) l], .fn 82 [], .j, .j, .j, .j, .j, sInt .i64 (l.length : Int), sInt .i64 (i : Int), .j, .j, .j, .j, .j, .j, .j, .j, .j, .j], [], 2, []⟩) (fun i => l.length - i) (fun i => i ≤ l.length ∧ idxFGo noD (l.drop i) i = idxF noD l) 0 ⟨?_, ?_⟩ ?_))))))
 ·exact ⟨Nat.zero_le _, rfl⟩
 ·refine ent_ok rfl ?_
  first | trivial | (simp [conj]; done) | (simp [conj] at *; (try dsimp only [Ty.den, Ty.dflt] at *); omega)
 ·rintro i ⟨hi, hgo⟩
  refine sw_seq (xr hP 3 rfl (sw_seq (sw_cond rfl (fun c2 => ?_) (fun c2 => ?_))))
  ·have hlt : i < l.length := by simpa using c2
   refine sw_skip (sw_seq (sw_block (sw_seq (xr hP 4 rfl (sw_seq (xg hP 5 [] rfl ?_ ?_))))))
   ·simp [conj, maxL]
    try dsimp only [Ty.den, Ty.dflt]
    try simp only [rd_eta]
    repeat' apply And.intro
    all_goals first | assumption | omega | exact trivial
   refine sw_cond rfl (fun c4 => ?_) (fun c4 => ?_)
   ·replace c4 : noD l[i] = true := by simpa [gE hlt] using c4
    refine sw_seq (xr hP 6 rfl (sw_ret ⟨.inl rfl, _, rfl, ?_⟩))
    simp [conj, idxF_hit hlt hgo c4]
   ·replace c4 : noD l[i] = false := by simpa [gE hlt] using c4
    refine sw_skip (xr hP 6 rfl (⟨i + 1, ?_, ?_, ent_ok rfl ?_⟩))
    ·exact ⟨hlt, idxF_next hlt hgo c4⟩
    ·omega
    ·simp [conj, maxL]
     try dsimp only [Ty.den, Ty.dflt]
     try simp only [rd_eta]
     repeat' apply And.intro
     all_goals first | rfl | assumption | omega
  ·obtain rfl : i = l.length := by simp at c2; omega
   refine sw_exit (sw_seq (xr hP 4 rfl (sw_ret ⟨.inl rfl, _, rfl, ?_⟩)))
   simp [conj, idxF_end hgo]
def cContD : Ctr := ⟨81, [.val false (.sl T_Disk) (.all .b), .clo 82 []], fun _ => True, fun x => (sBool (List.any x.1 noD), [])⟩
theorem cContD_ok : CtrOk Proofs.Tryz.prog cContD := by
 have hP := ((Prg.none ttok mtok).and cIdxD_ok)
 refine ctr_of_body hP cContD (fn := Proofs.Tryz.f81) (rts := [.tmp 4]) Proofs.Tryz.func81 rfl (by kernel_rfl) rfl rfl ?_
 rintro ⟨(l : List Dsk), ⟨⟩, ⟨⟩⟩ _ hpre
 try dsimp only [Ty.den, Mode.den, mdens] at hpre
 refine ⟨rfl, ?_⟩
 refine sw_seq (xr hP 1 rfl (sw_seq (xr hP 2 rfl (sw_ret ⟨.inl rfl, _, rfl, ?_⟩))))
 simp [conj]
 exact idxF_any
def cStripeOk : Ctr := ⟨21, [.val false (.sl T_Disk) (.all .b)], fun x => True, fun x => (sBool (stripeV x.1), [])⟩
theorem cStripeOk_ok : CtrOk Proofs.Tryz.prog cStripeOk := by
 have hP := (((Prg.none ttok mtok).and cPool_ok).and cContD_ok)
 refine ctr_of_body hP cStripeOk (fn := Proofs.Tryz.f21) (rts := [.tmp 2]) Proofs.Tryz.func21 rfl (by kernel_rfl) rfl rfl ?_
 rintro ⟨(ds : List Dsk), ⟨⟩⟩ _ _
 try dsimp only [Ty.den, Mode.den, mdens] at _
 refine ⟨rfl, ?_⟩
 refine sw_seq (xr hP 1 rfl (sw_seq ?_))
 refine sw_dec hP 2 [] 3 rfl (fun g1_3 => ?_) (fun g1_3 => ?_)
 ·refine xg hP 2 [(3, true)] rfl ?_ ?_
  ·simp [conj, maxL]
   try dsimp only [Ty.den, Ty.dflt]
   try simp only [rd_eta]
   repeat' apply And.intro
   all_goals first | trivial | assumption
  refine sw_ret ⟨.inl rfl, _, rfl, ?_⟩
  simp [conj, stripeV, *]
 ·refine xg hP 2 [(3, false)] rfl ?_ ?_
  ·simp [conj, maxL]
   try dsimp only [Ty.den, Ty.dflt]
   try simp only [rd_eta]
   repeat' apply And.intro
   all_goals first | trivial | assumption
  refine sw_ret ⟨.inl rfl, _, rfl, ?_⟩
  simp [conj, stripeV, *]
end Go.Sx
