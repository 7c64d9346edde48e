/- Several texts, one behind the other. -/
import Derived.Shelf.Strings.Builder1
import Derived.Shelf.Strings.Builder2
import Derived.Shelf.Strings.OnBuilder
import Derived.Shelf.Strconv.Itoa0
import Derived.Shelf.Strconv.Itoa1
import Derived.Shelf.LaysM
import Derived.Shelf.Strconv.Itoa2
import Derived.Shelf.Strconv.Itoa3
import Derived.Test.YtkbgdpdldoopmaaDoorProg
import Derived.Test.YtkbgdpdldoopmaaDoorMOpentoMWei
set_option linter.all false
/-
  DERIVED: THE SHELF's CONTRACTS AT THIS DUMP, IN PLAIN WORDS (tools/lay-plain.mjs out of 'TrydShelf.lean', which tools/lay-shelf.mjs wrote): THE SAME DECLARATIONS UNDER THE SAME NAMES: 'import', 'namespace', 'open', 'def', 'theorem' AND NOTHING ELSE: no command of the shelf's: FOR A HAND-IN. Each laying: the table of numbers ('.._ren') and one theorem, a field a fact of the dump's own or the kernel's comparison; each contract: ONE APPLICATION.
-/
namespace Go.Proofs
open Go.Shelf
def Tryd.lays169_ren : Go.Shelf.Ren := ⟨fun | 169 => 85 | n => n, fun | 70 => 108 | 9 => 9 | 0 => 0 | 72 => 110 | 37 => 22 | 127 => 127 | 3 => 3 | 5 => 5 | n => n, fun | n => n⟩
theorem Tryd.lays169 : Go.Proofs.Lays.n169 Tryd.prog Tryd.lays169_ren := {
  mixed := by kernel_rfl
  f169 := Tryd.func85.trans (congrArg some (by kernel_rfl))
  t0 := Tryd.underlying0
  a0 := Tryd.isAgg0
  z0 := Tryd.sizeOf0
  v0 := Tryd.zeroValue0
  t3 := Tryd.underlying3
  a3 := Tryd.isAgg3
  z3 := Tryd.sizeOf3
  v3 := Tryd.zeroValue3
  t9 := Tryd.underlying9
  a9 := Tryd.isAgg9
  z9 := Tryd.sizeOf9
  v9 := Tryd.zeroValue9
  t37 := Tryd.underlying22
  a37 := Tryd.isAgg22
  z37 := Tryd.sizeOf22
  v37 := Tryd.zeroValue22
  t70 := Tryd.underlying108
  a70 := Tryd.isAgg108
  z70 := Tryd.sizeOf108
  v70 := Tryd.zeroValue108
  t72 := Tryd.underlying110
  a72 := Tryd.isAgg110
  z72 := Tryd.sizeOf110
  v72 := Tryd.zeroValue110
  t127 := Tryd.underlying127
  a127 := Tryd.isAgg127
  z127 := Tryd.sizeOf127
  v127 := Tryd.zeroValue127 }
theorem Tryd.Builder_Extra_169 : Builder.Extra Tryd.prog Tryd.lays169_ren := {
  sizeBuilder := by kernel_rfl
  liesBuilder := by kernel_rfl
  t5 := Tryd.underlying5
  a5 := Tryd.isAgg5
  z5 := Tryd.sizeOf5
  v5 := Tryd.zeroValue5
  infoByte := by kernel_rfl
  cellsByte := by kernel_rfl
  sizeByte := by kernel_rfl
  neB5 := by decide }
open Go.RowKit in
/-- (*strings.Builder).String: "String returns the accumulated string.": OF A BUILDER THAT HOLDS AT LEAST ONE BYTE. ✋ THE MODEL FREEZES THOSE BYTES IN THE BUFFER (unsafe.String): a later write INTO them ends the model's run without an answer; a later append BEHIND them goes on. The statement's order of evaluation is drawn: one draw. (LAID: no walk: one application.) -/
theorem Tryd.Builder_String (B b : Nat) (l : List UInt8) (w : World) (h : Lib.IsBuilder 110 5 B b (Lib.byteCells l) w) (h0 : l ≠ []) :
    Calls Tryd.prog 85 #[.pointer (some ⟨b, 0, none⟩)] w fun e w' => e = .returned (.string ⟨l.toArray⟩) ∧ Below B w w' := Any.Builder_String Tryd.lays169 Tryd.Builder_Extra_169 B b l w h h0
open Go.RowKit in
/-- (*strings.Builder).String OF A BUILDER THAT HOLDS NO BYTE: the empty string. (Its buffer is nil, or a row of which it has taken nothing yet; where that row has NO capacity the model lays one new block for unsafe.SliceData's 'some address'.) One draw. (LAID: no walk: one application.) -/
theorem Tryd.Builder_String_empty (B b : Nat) (w : World) (h : Lib.IsBuilder 110 5 B b [] w) (hBw : B ≤ w.heap.size) :
    Calls Tryd.prog 85 #[.pointer (some ⟨b, 0, none⟩)] w fun e w' => e = .returned (.string ⟨#[]⟩) ∧ Below B w w' := Any.Builder_String_empty Tryd.lays169 Tryd.Builder_Extra_169 B b w h hBw
open Go.RowKit in
/-- (*strings.Builder).String: "String returns the accumulated string.": WHATEVER THE BUILDER HOLDS. (LAID: no walk: one application.) -/
theorem Tryd.Builder_String_any (B b : Nat) (l : List UInt8) (w : World) (h : Lib.IsBuilder 110 5 B b (Lib.byteCells l) w) (hBw : B ≤ w.heap.size) :
    Calls Tryd.prog 85 #[.pointer (some ⟨b, 0, none⟩)] w fun e w' => e = .returned (.string ⟨l.toArray⟩) ∧ Below B w w' := Any.Builder_String_any Tryd.lays169 Tryd.Builder_Extra_169 B b l w h hBw
def Tryd.lays241_ren : Go.Shelf.Ren := ⟨fun | 241 => 94 | 277 => 104 | n => n, fun | 70 => 108 | 3 => 3 | 0 => 0 | 72 => 110 | 37 => 22 | 5 => 5 | n => n, fun | n => n⟩
theorem Tryd.lays241 : Go.Proofs.Lays.n241 Tryd.prog Tryd.lays241_ren := {
  mixed := by kernel_rfl
  f241 := Tryd.func94.trans (congrArg some (by kernel_rfl))
  f277 := Tryd.func104.trans (congrArg some (by kernel_rfl))
  t0 := Tryd.underlying0
  a0 := Tryd.isAgg0
  z0 := Tryd.sizeOf0
  v0 := Tryd.zeroValue0
  t3 := Tryd.underlying3
  a3 := Tryd.isAgg3
  z3 := Tryd.sizeOf3
  v3 := Tryd.zeroValue3
  t37 := Tryd.underlying22
  a37 := Tryd.isAgg22
  z37 := Tryd.sizeOf22
  v37 := Tryd.zeroValue22
  t70 := Tryd.underlying108
  a70 := Tryd.isAgg108
  z70 := Tryd.sizeOf108
  v70 := Tryd.zeroValue108
  t72 := Tryd.underlying110
  a72 := Tryd.isAgg110
  z72 := Tryd.sizeOf110
  v72 := Tryd.zeroValue110 }
theorem Tryd.Builder_Extra_241 : Builder.Extra Tryd.prog Tryd.lays241_ren := {
  sizeBuilder := by kernel_rfl
  liesBuilder := by kernel_rfl
  t5 := Tryd.underlying5
  a5 := Tryd.isAgg5
  z5 := Tryd.sizeOf5
  v5 := Tryd.zeroValue5
  infoByte := by kernel_rfl
  cellsByte := by kernel_rfl
  sizeByte := by kernel_rfl
  neB5 := by decide }
open Go.RowKit in
/-- (*strings.Builder).grow (no doc but "grow copies the buffer to a new, larger buffer so that there are at least n bytes of capacity beyond len(b.buf)."): AT A BUILDER WITHOUT A BUFFER: a new row of whatever bytes for its buffer, none of them its own yet. Three draws. (LAID: no walk: one application.) -/
theorem Tryd.Builder_grow_fresh (B b n : Nat) (w : World) (hB : B ≤ b) (hbk : w.heap[b]? = some (.cells #[.pointer (some ⟨b, 0, none⟩), .slice none 0 0] 110 (0, 0))) (hBw : B ≤ w.heap.size) (hn : n ≤ 281474976710656) :
    Calls Tryd.prog 94 #[.pointer (some ⟨b, 0, none⟩), .int .i64 n] w fun e w' => e = .returned (.tuple #[]) ∧ (Lib.BuilderAt 110 5 B b (.pointer (some ⟨b, 0, none⟩)) [] w' ∧ Below B w w') := Any.Builder_grow_fresh Tryd.lays241 Tryd.Builder_Extra_241 B b n w hB hbk hBw hn
def Tryd.lays165_ren : Go.Shelf.Ren := ⟨fun | 165 => 83 | 240 => 93 | 241 => 94 | 276 => 103 | 277 => 104 | n => n, fun | 70 => 108 | 3 => 3 | 0 => 0 | 4 => 4 | 9 => 9 | 20 => 20 | 72 => 110 | 37 => 22 | 164 => 136 | 5 => 5 | n => n, fun | n => n⟩
theorem Tryd.lays165 : Go.Proofs.Lays.n165 Tryd.prog Tryd.lays165_ren := {
  mixed := by kernel_rfl
  f165 := Tryd.func83.trans (congrArg some (by kernel_rfl))
  f240 := Tryd.func93.trans (congrArg some (by kernel_rfl))
  f241 := Tryd.func94.trans (congrArg some (by kernel_rfl))
  f276 := Tryd.func103.trans (congrArg some (by kernel_rfl))
  f277 := Tryd.func104.trans (congrArg some (by kernel_rfl))
  t0 := Tryd.underlying0
  a0 := Tryd.isAgg0
  z0 := Tryd.sizeOf0
  v0 := Tryd.zeroValue0
  t3 := Tryd.underlying3
  a3 := Tryd.isAgg3
  z3 := Tryd.sizeOf3
  v3 := Tryd.zeroValue3
  t4 := Tryd.underlying4
  a4 := Tryd.isAgg4
  z4 := Tryd.sizeOf4
  v4 := Tryd.zeroValue4
  t9 := Tryd.underlying9
  a9 := Tryd.isAgg9
  z9 := Tryd.sizeOf9
  v9 := Tryd.zeroValue9
  t20 := Tryd.underlying20
  a20 := Tryd.isAgg20
  z20 := Tryd.sizeOf20
  v20 := Tryd.zeroValue20
  t37 := Tryd.underlying22
  a37 := Tryd.isAgg22
  z37 := Tryd.sizeOf22
  v37 := Tryd.zeroValue22
  t70 := Tryd.underlying108
  a70 := Tryd.isAgg108
  z70 := Tryd.sizeOf108
  v70 := Tryd.zeroValue108
  t72 := Tryd.underlying110
  a72 := Tryd.isAgg110
  z72 := Tryd.sizeOf110
  v72 := Tryd.zeroValue110
  t164 := Tryd.underlying136
  a164 := Tryd.isAgg136
  z164 := Tryd.sizeOf136
  v164 := Tryd.zeroValue136 }
theorem Tryd.Builder_Extra_165 : Builder.Extra Tryd.prog Tryd.lays165_ren := {
  sizeBuilder := by kernel_rfl
  liesBuilder := by kernel_rfl
  t5 := Tryd.underlying5
  a5 := Tryd.isAgg5
  z5 := Tryd.sizeOf5
  v5 := Tryd.zeroValue5
  infoByte := by kernel_rfl
  cellsByte := by kernel_rfl
  sizeByte := by kernel_rfl
  neB5 := by decide }
open Go.RowKit in
/-- (*strings.Builder).Grow AT A BUILDER THAT HAS NOT BEEN WRITTEN ('var b strings.Builder; b.Grow(n)'): "Grow grows b's capacity, if necessary, to guarantee space for another n bytes.": it holds no byte behind it as before it. (LAID: no walk: one application.) -/
theorem Tryd.Builder_Grow_fresh (B b n : Nat) (w : World) (hB : B ≤ b) (hbk : w.heap[b]? = some (.cells #[.pointer none, .slice none 0 0] 110 (0, 0))) (hBw : B ≤ w.heap.size) (hn : n ≤ 281474976710656) :
    Calls Tryd.prog 83 #[.pointer (some ⟨b, 0, none⟩), .int .i64 n] w fun e w' => e = .returned (.tuple #[]) ∧ (Lib.BuilderAt 110 5 B b (.pointer (some ⟨b, 0, none⟩)) [] w' ∧ Below B w w') := Any.Builder_Grow_fresh Tryd.lays165 Tryd.Builder_Extra_165 B b n w hB hbk hBw hn
def Tryd.lays156_ren : Go.Shelf.Ren := ⟨fun | 156 => 76 | 165 => 83 | 166 => 84 | 169 => 85 | 240 => 93 | 241 => 94 | 276 => 103 | 277 => 104 | n => n, fun | 31 => 92 | 9 => 9 | 3 => 3 | 4 => 4 | 0 => 0 | 20 => 20 | 72 => 110 | 76 => 114 | 70 => 108 | 37 => 22 | 75 => 113 | 127 => 127 | 164 => 136 | 5 => 5 | 80 => 65 | n => n, fun | n => n⟩
theorem Tryd.lays156 : Go.Proofs.Lays.n156 Tryd.prog Tryd.lays156_ren := {
  mixed := by kernel_rfl
  f156 := Tryd.func76.trans (congrArg some (by kernel_rfl))
  f165 := Tryd.func83.trans (congrArg some (by kernel_rfl))
  f166 := Tryd.func84.trans (congrArg some (by kernel_rfl))
  f169 := Tryd.func85.trans (congrArg some (by kernel_rfl))
  f240 := Tryd.func93.trans (congrArg some (by kernel_rfl))
  f241 := Tryd.func94.trans (congrArg some (by kernel_rfl))
  f276 := Tryd.func103.trans (congrArg some (by kernel_rfl))
  f277 := Tryd.func104.trans (congrArg some (by kernel_rfl))
  t0 := Tryd.underlying0
  a0 := Tryd.isAgg0
  z0 := Tryd.sizeOf0
  v0 := Tryd.zeroValue0
  t3 := Tryd.underlying3
  a3 := Tryd.isAgg3
  z3 := Tryd.sizeOf3
  v3 := Tryd.zeroValue3
  t4 := Tryd.underlying4
  a4 := Tryd.isAgg4
  z4 := Tryd.sizeOf4
  v4 := Tryd.zeroValue4
  t9 := Tryd.underlying9
  a9 := Tryd.isAgg9
  z9 := Tryd.sizeOf9
  v9 := Tryd.zeroValue9
  t20 := Tryd.underlying20
  a20 := Tryd.isAgg20
  z20 := Tryd.sizeOf20
  v20 := Tryd.zeroValue20
  t31 := Tryd.underlying92
  a31 := Tryd.isAgg92
  z31 := Tryd.sizeOf92
  v31 := Tryd.zeroValue92
  t37 := Tryd.underlying22
  a37 := Tryd.isAgg22
  z37 := Tryd.sizeOf22
  v37 := Tryd.zeroValue22
  t70 := Tryd.underlying108
  a70 := Tryd.isAgg108
  z70 := Tryd.sizeOf108
  v70 := Tryd.zeroValue108
  t72 := Tryd.underlying110
  a72 := Tryd.isAgg110
  z72 := Tryd.sizeOf110
  v72 := Tryd.zeroValue110
  t75 := Tryd.underlying113
  a75 := Tryd.isAgg113
  z75 := Tryd.sizeOf113
  v75 := Tryd.zeroValue113
  t76 := Tryd.underlying114
  a76 := Tryd.isAgg114
  z76 := Tryd.sizeOf114
  v76 := Tryd.zeroValue114
  t127 := Tryd.underlying127
  a127 := Tryd.isAgg127
  z127 := Tryd.sizeOf127
  v127 := Tryd.zeroValue127
  t164 := Tryd.underlying136
  a164 := Tryd.isAgg136
  z164 := Tryd.sizeOf136
  v164 := Tryd.zeroValue136 }
theorem Tryd.Builder_Extra_156 : Builder.Extra Tryd.prog Tryd.lays156_ren := {
  sizeBuilder := by kernel_rfl
  liesBuilder := by kernel_rfl
  t5 := Tryd.underlying5
  a5 := Tryd.isAgg5
  z5 := Tryd.sizeOf5
  v5 := Tryd.zeroValue5
  infoByte := by kernel_rfl
  cellsByte := by kernel_rfl
  sizeByte := by kernel_rfl
  neB5 := by decide }
open Go.RowKit in
/-- No element: the empty string; the world is as it was. (Whatever the slice's address and capacity: a nil slice too.) (LAID: no walk: one application.) -/
theorem Tryd.strings_Join_none (a : Option Addr) (c : Nat) (sep : ByteArray) (w : World) :
    Calls Tryd.prog 76 #[.slice a 0 c, .string sep] w fun e w' => e = .returned (.string ⟨#[]⟩) ∧ w' = w := Any.strings_Join_none Tryd.lays156 Tryd.Builder_Extra_156 a c sep w
open Go.RowKit in
/-- strings.Join: "Join concatenates the elements of its first argument to create a single string. The separator string sep is placed between elements in the resulting string.": HOWEVER MANY ELEMENTS. Below the heap's end the world is as it was. (LAID: no walk: one application.) -/
theorem Tryd.strings_Join (bk o c : Nat) (xs : List ByteArray) (sep : ByteArray) (w : World) (hcells : ∀ (j : Nat) x, xs[j]? = some x → w.cell? ⟨bk, o + j, none⟩ = some (.string x)) (hbk : bk < w.heap.size) (hN : xs.length ≤ 140737488355328) (hcap : xs.length ≤ c) (hlen : (Lib.join (xs.map (·.data.toList)) sep.data.toList).length ≤ 140737488355328) :
    Calls Tryd.prog 76 #[.slice (some ⟨bk, o, none⟩) xs.length c, .string sep] w fun e w' => e = .returned (.string ⟨(Lib.join (xs.map (·.data.toList)) sep.data.toList).toArray⟩) ∧ Below w.heap.size w w' := Any.strings_Join Tryd.lays156 Tryd.Builder_Extra_156 bk o c xs sep w hcells hbk hN hcap hlen
def Tryd.lays129_ren : Go.Shelf.Ren := ⟨fun | 129 => 99 | n => n, fun | 53 => 122 | 3 => 3 | 4 => 4 | 46 => 134 | 5 => 5 | 9 => 9 | n => n, fun | n => n⟩
theorem Tryd.lays129 : Go.Proofs.Lays.n129 Tryd.prog Tryd.lays129_ren := {
  mixed := by kernel_rfl
  f129 := Tryd.func99.trans (congrArg some (by kernel_rfl))
  t3 := Tryd.underlying3
  a3 := Tryd.isAgg3
  z3 := Tryd.sizeOf3
  v3 := Tryd.zeroValue3
  t4 := Tryd.underlying4
  a4 := Tryd.isAgg4
  z4 := Tryd.sizeOf4
  v4 := Tryd.zeroValue4
  t5 := Tryd.underlying5
  a5 := Tryd.isAgg5
  z5 := Tryd.sizeOf5
  v5 := Tryd.zeroValue5
  t9 := Tryd.underlying9
  a9 := Tryd.isAgg9
  z9 := Tryd.sizeOf9
  v9 := Tryd.zeroValue9
  t46 := Tryd.underlying134
  a46 := Tryd.isAgg134
  z46 := Tryd.sizeOf134
  v46 := Tryd.zeroValue134
  t53 := Tryd.underlying122
  a53 := Tryd.isAgg122
  z53 := Tryd.sizeOf122
  v53 := Tryd.zeroValue122 }
/-- bits.Len64: "Len64 returns the minimum number of bits required to represent x; the result is 0 for x == 0.": IT RETURNS 'Lib.bitLen x'; the world is as it was. ('h0', 'h1': x is a uint64.) (LAID: no walk: one application.) -/
theorem Tryd.bits_Len64 (x : Int) (w : World) (h0 : 0 ≤ x) (h1 : x ≤ 18446744073709551615) :
    Calls Tryd.prog 99 #[.int .u64 x] w fun e w' => e = .returned (.int .i64 (Lib.bitLen x.toNat)) ∧ w' = w := Any.bits_Len64 Tryd.lays129 x w h0 h1
def Tryd.lays317_ren : Go.Shelf.Ren := ⟨fun | 317 => 98 | n => n, fun | 3 => 3 | 46 => 134 | n => n, fun | n => n⟩
theorem Tryd.lays317 : Go.Proofs.Lays.n317 Tryd.prog Tryd.lays317_ren := {
  mixed := by kernel_rfl
  f317 := Tryd.func98.trans (congrArg some (by kernel_rfl))
  t3 := Tryd.underlying3
  a3 := Tryd.isAgg3
  z3 := Tryd.sizeOf3
  v3 := Tryd.zeroValue3
  t46 := Tryd.underlying134
  a46 := Tryd.isAgg134
  z46 := Tryd.sizeOf134
  v46 := Tryd.zeroValue134 }
open Go.Lib in
/-- internal/strconv.log10Pow2: "log10Pow2(x) returns ⌊log₁₀ 2**x⌋ = ⌊x * log₁₀ 2⌋.": '(x * 78913) >> 18', at an x up to 64 (a length in bits). The world is as it was. (LAID: no walk: one application.) -/
theorem Tryd.internal_strconv_log10Pow2 (x : Nat) (h : x ≤ 64) (w : World) :
    Calls Tryd.prog 98 #[.int .i64 x] w fun e w' => e = .returned (.int .i64 (Lib.l10 x)) ∧ w' = w := Any.internal_strconv_log10Pow2 Tryd.lays317 x h w
def Tryd.lays318_ren : Go.Shelf.Ren := ⟨fun | 318 => 100 | n => n, fun | 3 => 3 | 4 => 4 | n => n, fun | n => n⟩
theorem Tryd.lays318 : Go.Proofs.Lays.n318 Tryd.prog Tryd.lays318_ren := {
  mixed := by kernel_rfl
  f318 := Tryd.func100.trans (congrArg some (by kernel_rfl))
  t3 := Tryd.underlying3
  a3 := Tryd.isAgg3
  z3 := Tryd.sizeOf3
  v3 := Tryd.zeroValue3
  t4 := Tryd.underlying4
  a4 := Tryd.isAgg4
  z4 := Tryd.sizeOf4
  v4 := Tryd.zeroValue4 }
open Go.Lib in
/-- internal/strconv.bool2: "bool2 converts b to an integer: 1 for true, 0 for false." The world is as it was. (LAID: no walk: one application.) -/
theorem Tryd.internal_strconv_bool2_int (b : Bool) (w : World) :
    Calls Tryd.prog 100 #[.bool b] w fun e w' => e = .returned (.int .i64 (if b then 1 else 0)) ∧ w' = w := Any.internal_strconv_bool2_int Tryd.lays318 b w
def Tryd.lays283_ren : Go.Shelf.Ren := ⟨fun | 283 => 89 | n => n, fun | 3 => 3 | 9 => 9 | 4 => 4 | n => n, fun | n => n⟩
theorem Tryd.lays283 : Go.Proofs.Lays.n283 Tryd.prog Tryd.lays283_ren := {
  mixed := by kernel_rfl
  f283 := Tryd.func89.trans (congrArg some (by kernel_rfl))
  t3 := Tryd.underlying3
  a3 := Tryd.isAgg3
  z3 := Tryd.sizeOf3
  v3 := Tryd.zeroValue3
  t4 := Tryd.underlying4
  a4 := Tryd.isAgg4
  z4 := Tryd.sizeOf4
  v4 := Tryd.zeroValue4
  t9 := Tryd.underlying9
  a9 := Tryd.isAgg9
  z9 := Tryd.sizeOf9
  v9 := Tryd.zeroValue9 }
open Go.Lib in
/-- internal/strconv.small: "small returns the string for an i with 0 <= i < nSmalls.": i's decimal numeral. The world is as it was. (LAID: no walk: one application.) -/
theorem Tryd.internal_strconv_small (i : Nat) (h : i < 100) (w : World) :
    Calls Tryd.prog 89 #[.int .i64 i] w fun e w' => e = .returned (.string ⟨(Lib.decDigits i).toArray⟩) ∧ w' = w := Any.internal_strconv_small Tryd.lays283 i h w
def Tryd.laysM284_ren : Go.Shelf.Ren := ⟨fun | 284 => 90 | 129 => 99 | 317 => 98 | 318 => 100 | n => n, fun | 53 => 122 | 3 => 3 | 212 => 131 | 0 => 0 | 4 => 4 | 46 => 134 | 5 => 5 | 9 => 9 | n => n, fun | 17 => 0 | n => n⟩
theorem Tryd.laysM284 : Go.Proofs.LaysM.n284 Tryd.prog Tryd.laysM284_ren := {
  mixed := by kernel_rfl
  f129 := Tryd.func99.trans (congrArg some (by kernel_rfl))
  f284 := Tryd.func90.trans (congrArg some (by kernel_rfl))
  f317 := Tryd.func98.trans (congrArg some (by kernel_rfl))
  f318 := Tryd.func100.trans (congrArg some (by kernel_rfl))
  t0 := Tryd.underlying0
  a0 := Tryd.isAgg0
  z0 := Tryd.sizeOf0
  v0 := Tryd.zeroValue0
  t3 := Tryd.underlying3
  a3 := Tryd.isAgg3
  z3 := Tryd.sizeOf3
  v3 := Tryd.zeroValue3
  t4 := Tryd.underlying4
  a4 := Tryd.isAgg4
  z4 := Tryd.sizeOf4
  v4 := Tryd.zeroValue4
  t5 := Tryd.underlying5
  a5 := Tryd.isAgg5
  z5 := Tryd.sizeOf5
  v5 := Tryd.zeroValue5
  t9 := Tryd.underlying9
  a9 := Tryd.isAgg9
  z9 := Tryd.sizeOf9
  v9 := Tryd.zeroValue9
  t46 := Tryd.underlying134
  a46 := Tryd.isAgg134
  z46 := Tryd.sizeOf134
  v46 := Tryd.zeroValue134
  t53 := Tryd.underlying122
  a53 := Tryd.isAgg122
  z53 := Tryd.sizeOf122
  v53 := Tryd.zeroValue122
  t212 := Tryd.underlying131
  a212 := Tryd.isAgg131
  z212 := Tryd.sizeOf131
  v212 := Tryd.zeroValue131
  g17 := by kernel_rfl
  i0 := by kernel_rfl
  i3 := by kernel_rfl
  i4 := by kernel_rfl
  i5 := by kernel_rfl
  i9 := by kernel_rfl
  i46 := by kernel_rfl
  i53 := by kernel_rfl
  i212 := by kernel_rfl
  m17 := by kernel_rfl }
open Go.Lib in
/-- internal/strconv.numDigits, at a d that is not 0: THE NUMBER OF d's DECIMAL DIGITS. The world is as it was. (LAID: no walk: one application.) -/
theorem Tryd.internal_strconv_numDigits (u : Nat) (h1 : 1 ≤ u) (h2 : u < 18446744073709551616) (w : World) (htab : Lib.TabIs Tryd.prog w "internal/strconv.uint64pow10" .u64 Lib.pow10Tab) :
    Calls Tryd.prog 90 #[.int .u64 u] w fun e w' => e = .returned (.int .i64 (Lib.nDigits u)) ∧ w' = w := Any.internal_strconv_numDigits Tryd.laysM284 u h1 h2 w htab
def Tryd.lays285_ren : Go.Shelf.Ren := ⟨fun | 285 => 91 | n => n, fun | 37 => 22 | 53 => 122 | 3 => 3 | 4 => 4 | 51 => 132 | 9 => 9 | 5 => 5 | 0 => 0 | n => n, fun | n => n⟩
theorem Tryd.lays285 : Go.Proofs.Lays.n285 Tryd.prog Tryd.lays285_ren := {
  mixed := by kernel_rfl
  f285 := Tryd.func91.trans (congrArg some (by kernel_rfl))
  t0 := Tryd.underlying0
  a0 := Tryd.isAgg0
  z0 := Tryd.sizeOf0
  v0 := Tryd.zeroValue0
  t3 := Tryd.underlying3
  a3 := Tryd.isAgg3
  z3 := Tryd.sizeOf3
  v3 := Tryd.zeroValue3
  t4 := Tryd.underlying4
  a4 := Tryd.isAgg4
  z4 := Tryd.sizeOf4
  v4 := Tryd.zeroValue4
  t5 := Tryd.underlying5
  a5 := Tryd.isAgg5
  z5 := Tryd.sizeOf5
  v5 := Tryd.zeroValue5
  t9 := Tryd.underlying9
  a9 := Tryd.isAgg9
  z9 := Tryd.sizeOf9
  v9 := Tryd.zeroValue9
  t37 := Tryd.underlying22
  a37 := Tryd.isAgg22
  z37 := Tryd.sizeOf22
  v37 := Tryd.zeroValue22
  t51 := Tryd.underlying132
  a51 := Tryd.isAgg132
  z51 := Tryd.sizeOf132
  v51 := Tryd.zeroValue132
  t53 := Tryd.underlying122
  a53 := Tryd.isAgg122
  z53 := Tryd.sizeOf122
  v53 := Tryd.zeroValue122 }
open Go.RowKit Go.Sort Go.Lib in
/-- internal/strconv.formatBase10: "formatBase10 formats the decimal representation of u into a. The caller is responsible for ensuring that a is big enough to hold u. If a is too big, leading zeros will be filled in as needed.": THE ROW HOLDS u's DIGITS ('FmtInv .. 0 ..': every place t holds 'dg u (len - 1 - t)'); all else is as it was but for the count of draws. (LAID: no walk: one application.) -/
theorem Tryd.internal_strconv_formatBase10 (blk off cap : Nat) (u : Nat) (d : Array UInt8) (w : World) (hH : Holds (fun (b : UInt8) => Value.int .u8 (b.toNat : Int)) w blk off d) (hu : u < 10 ^ d.size) (hu64 : u < 18446744073709551616) (hsz : d.size < 4611686018427387904) :
    Calls Tryd.prog 91 #[.slice (some ⟨blk, off, none⟩) d.size cap, .int .u64 u] w fun e w' =>
      e = .returned (.tuple #[]) ∧ ∃ (n v' : Nat) (dk : Array UInt8), w' = (putRow (fun (b : UInt8) => Value.int .u8 (b.toNat : Int)) w blk off dk).drewN n ∧ FmtInv d.size u 0 v' dk := Any.internal_strconv_formatBase10 Tryd.lays285 blk off cap u d w hH hu hu64 hsz
def Tryd.laysM246_ren : Go.Shelf.Ren := ⟨fun | 246 => 82 | 283 => 89 | 284 => 90 | 285 => 91 | 286 => 92 | 129 => 99 | 317 => 98 | 318 => 100 | 319 => 101 | 320 => 102 | 337 => 107 | 338 => 108 | n => n, fun | 2 => 2 | 3 => 3 | 9 => 9 | 4 => 4 | 171 => 121 | 0 => 0 | 53 => 122 | 37 => 22 | 5 => 5 | 173 => 125 | 212 => 131 | 51 => 132 | 20 => 20 | 213 => 133 | 46 => 134 | 232 => 143 | 233 => 144 | n => n, fun | 17 => 0 | 18 => 2 | 19 => 3 | n => n⟩
theorem Tryd.laysM246 : Go.Proofs.LaysM.n246 Tryd.prog Tryd.laysM246_ren := {
  mixed := by kernel_rfl
  f129 := Tryd.func99.trans (congrArg some (by kernel_rfl))
  f246 := Tryd.func82.trans (congrArg some (by kernel_rfl))
  f283 := Tryd.func89.trans (congrArg some (by kernel_rfl))
  f284 := Tryd.func90.trans (congrArg some (by kernel_rfl))
  f285 := Tryd.func91.trans (congrArg some (by kernel_rfl))
  f286 := Tryd.func92.trans (congrArg some (by kernel_rfl))
  f317 := Tryd.func98.trans (congrArg some (by kernel_rfl))
  f318 := Tryd.func100.trans (congrArg some (by kernel_rfl))
  f319 := Tryd.func101.trans (congrArg some (by kernel_rfl))
  f320 := Tryd.func102.trans (congrArg some (by kernel_rfl))
  f337 := Tryd.func107.trans (congrArg some (by kernel_rfl))
  f338 := Tryd.func108.trans (congrArg some (by kernel_rfl))
  t0 := Tryd.underlying0
  a0 := Tryd.isAgg0
  z0 := Tryd.sizeOf0
  v0 := Tryd.zeroValue0
  t2 := Tryd.underlying2
  a2 := Tryd.isAgg2
  z2 := Tryd.sizeOf2
  v2 := Tryd.zeroValue2
  t3 := Tryd.underlying3
  a3 := Tryd.isAgg3
  z3 := Tryd.sizeOf3
  v3 := Tryd.zeroValue3
  t4 := Tryd.underlying4
  a4 := Tryd.isAgg4
  z4 := Tryd.sizeOf4
  v4 := Tryd.zeroValue4
  t5 := Tryd.underlying5
  a5 := Tryd.isAgg5
  z5 := Tryd.sizeOf5
  v5 := Tryd.zeroValue5
  t9 := Tryd.underlying9
  a9 := Tryd.isAgg9
  z9 := Tryd.sizeOf9
  v9 := Tryd.zeroValue9
  t20 := Tryd.underlying20
  a20 := Tryd.isAgg20
  z20 := Tryd.sizeOf20
  v20 := Tryd.zeroValue20
  t37 := Tryd.underlying22
  a37 := Tryd.isAgg22
  z37 := Tryd.sizeOf22
  v37 := Tryd.zeroValue22
  t46 := Tryd.underlying134
  a46 := Tryd.isAgg134
  z46 := Tryd.sizeOf134
  v46 := Tryd.zeroValue134
  t51 := Tryd.underlying132
  a51 := Tryd.isAgg132
  z51 := Tryd.sizeOf132
  v51 := Tryd.zeroValue132
  t53 := Tryd.underlying122
  a53 := Tryd.isAgg122
  z53 := Tryd.sizeOf122
  v53 := Tryd.zeroValue122
  t171 := Tryd.underlying121
  a171 := Tryd.isAgg121
  z171 := Tryd.sizeOf121
  v171 := Tryd.zeroValue121
  t173 := Tryd.underlying125
  a173 := Tryd.isAgg125
  z173 := Tryd.sizeOf125
  v173 := Tryd.zeroValue125
  t212 := Tryd.underlying131
  a212 := Tryd.isAgg131
  z212 := Tryd.sizeOf131
  v212 := Tryd.zeroValue131
  t213 := Tryd.underlying133
  a213 := Tryd.isAgg133
  z213 := Tryd.sizeOf133
  t232 := Tryd.underlying143
  a232 := Tryd.isAgg143
  z232 := Tryd.sizeOf143
  v232 := Tryd.zeroValue143
  t233 := Tryd.underlying144
  a233 := Tryd.isAgg144
  z233 := Tryd.sizeOf144
  v233 := Tryd.zeroValue144
  g17 := by kernel_rfl
  g18 := by kernel_rfl
  g19 := by kernel_rfl
  i0 := by kernel_rfl
  i2 := by kernel_rfl
  i3 := by kernel_rfl
  i4 := by kernel_rfl
  i5 := by kernel_rfl
  i9 := by kernel_rfl
  i20 := by kernel_rfl
  i37 := by kernel_rfl
  i46 := by kernel_rfl
  i51 := by kernel_rfl
  i53 := by kernel_rfl
  i171 := by kernel_rfl
  i173 := by kernel_rfl
  i212 := by kernel_rfl
  i232 := by kernel_rfl
  i233 := by kernel_rfl
  m17 := by kernel_rfl
  m18 := by kernel_rfl
  m19 := by kernel_rfl }
open Go.RowKit Go.Sort Go.Lib in
/-- internal/strconv.FormatInt: "FormatInt returns the string representation of i in the given base": AT BASE 10: i's decimal numeral, for every int64. The world behind the call: the world before it, new blocks behind the heap, draws. (LAID: no walk: one application.) -/
theorem Tryd.internal_strconv_FormatInt_10 (n : Int) (h0 : -9223372036854775808 ≤ n) (h1 : n ≤ 9223372036854775807) (w : World) (htab : Lib.TabIs Tryd.prog w "internal/strconv.uint64pow10" .u64 Lib.pow10Tab) :
    Calls Tryd.prog 82 #[.int .i64 n, .int .i64 10] w fun e w' => e = .returned (.string ⟨(Lib.itoa n).toArray⟩) ∧ ∃ k os, w' = grow (w.drewN k) os := Any.internal_strconv_FormatInt_10 Tryd.laysM246 n h0 h1 w htab
def Tryd.lays246_ren : Go.Shelf.Ren := ⟨fun | 246 => 82 | 283 => 89 | 284 => 90 | 285 => 91 | 286 => 92 | 129 => 99 | 317 => 98 | 318 => 100 | 319 => 101 | 320 => 102 | 337 => 107 | 338 => 108 | n => n, fun | 2 => 2 | 3 => 3 | 9 => 9 | 4 => 4 | 171 => 121 | 0 => 0 | 53 => 122 | 37 => 22 | 5 => 5 | 173 => 125 | 212 => 131 | 51 => 132 | 20 => 20 | 213 => 133 | 46 => 134 | 232 => 143 | 233 => 144 | n => n, fun | 17 => 0 | 18 => 2 | 19 => 3 | n => n⟩
theorem Tryd.lays246 : Go.Proofs.Lays.n246 Tryd.prog Tryd.lays246_ren := {
  mixed := by kernel_rfl
  f129 := Tryd.func99.trans (congrArg some (by kernel_rfl))
  f246 := Tryd.func82.trans (congrArg some (by kernel_rfl))
  f283 := Tryd.func89.trans (congrArg some (by kernel_rfl))
  f284 := Tryd.func90.trans (congrArg some (by kernel_rfl))
  f285 := Tryd.func91.trans (congrArg some (by kernel_rfl))
  f286 := Tryd.func92.trans (congrArg some (by kernel_rfl))
  f317 := Tryd.func98.trans (congrArg some (by kernel_rfl))
  f318 := Tryd.func100.trans (congrArg some (by kernel_rfl))
  f319 := Tryd.func101.trans (congrArg some (by kernel_rfl))
  f320 := Tryd.func102.trans (congrArg some (by kernel_rfl))
  f337 := Tryd.func107.trans (congrArg some (by kernel_rfl))
  f338 := Tryd.func108.trans (congrArg some (by kernel_rfl))
  t0 := Tryd.underlying0
  a0 := Tryd.isAgg0
  z0 := Tryd.sizeOf0
  v0 := Tryd.zeroValue0
  t2 := Tryd.underlying2
  a2 := Tryd.isAgg2
  z2 := Tryd.sizeOf2
  v2 := Tryd.zeroValue2
  t3 := Tryd.underlying3
  a3 := Tryd.isAgg3
  z3 := Tryd.sizeOf3
  v3 := Tryd.zeroValue3
  t4 := Tryd.underlying4
  a4 := Tryd.isAgg4
  z4 := Tryd.sizeOf4
  v4 := Tryd.zeroValue4
  t5 := Tryd.underlying5
  a5 := Tryd.isAgg5
  z5 := Tryd.sizeOf5
  v5 := Tryd.zeroValue5
  t9 := Tryd.underlying9
  a9 := Tryd.isAgg9
  z9 := Tryd.sizeOf9
  v9 := Tryd.zeroValue9
  t20 := Tryd.underlying20
  a20 := Tryd.isAgg20
  z20 := Tryd.sizeOf20
  v20 := Tryd.zeroValue20
  t37 := Tryd.underlying22
  a37 := Tryd.isAgg22
  z37 := Tryd.sizeOf22
  v37 := Tryd.zeroValue22
  t46 := Tryd.underlying134
  a46 := Tryd.isAgg134
  z46 := Tryd.sizeOf134
  v46 := Tryd.zeroValue134
  t51 := Tryd.underlying132
  a51 := Tryd.isAgg132
  z51 := Tryd.sizeOf132
  v51 := Tryd.zeroValue132
  t53 := Tryd.underlying122
  a53 := Tryd.isAgg122
  z53 := Tryd.sizeOf122
  v53 := Tryd.zeroValue122
  t171 := Tryd.underlying121
  a171 := Tryd.isAgg121
  z171 := Tryd.sizeOf121
  v171 := Tryd.zeroValue121
  t173 := Tryd.underlying125
  a173 := Tryd.isAgg125
  z173 := Tryd.sizeOf125
  v173 := Tryd.zeroValue125
  t212 := Tryd.underlying131
  a212 := Tryd.isAgg131
  z212 := Tryd.sizeOf131
  v212 := Tryd.zeroValue131
  t213 := Tryd.underlying133
  a213 := Tryd.isAgg133
  z213 := Tryd.sizeOf133
  t232 := Tryd.underlying143
  a232 := Tryd.isAgg143
  z232 := Tryd.sizeOf143
  v232 := Tryd.zeroValue143
  t233 := Tryd.underlying144
  a233 := Tryd.isAgg144
  z233 := Tryd.sizeOf144
  v233 := Tryd.zeroValue144
  g17 := by kernel_rfl
  g18 := by kernel_rfl
  g19 := by kernel_rfl }
open Go.RowKit Go.Sort Go.Lib in
/-- THE ROAD WITHOUT THE TABLE: 0 <= i < 100: two constants are read, nothing is laid: no premise on the world, and the world is as it was. (LAID: no walk: one application.) -/
theorem Tryd.internal_strconv_FormatInt_10_small (i : Nat) (hi : i < 100) (w : World) :
    Calls Tryd.prog 82 #[.int .i64 i, .int .i64 10] w fun e w' => e = .returned (.string ⟨(Lib.decDigits i).toArray⟩) ∧ w' = w := Any.internal_strconv_FormatInt_10_small Tryd.lays246 i hi w
def Tryd.laysM243_ren : Go.Shelf.Ren := ⟨fun | 243 => 75 | 246 => 82 | 283 => 89 | 284 => 90 | 285 => 91 | 286 => 92 | 129 => 99 | 317 => 98 | 318 => 100 | 319 => 101 | 320 => 102 | 337 => 107 | 338 => 108 | n => n, fun | 3 => 3 | 9 => 9 | 2 => 2 | 4 => 4 | 171 => 121 | 0 => 0 | 53 => 122 | 37 => 22 | 5 => 5 | 173 => 125 | 212 => 131 | 51 => 132 | 20 => 20 | 213 => 133 | 46 => 134 | 232 => 143 | 233 => 144 | n => n, fun | 17 => 0 | 18 => 2 | 19 => 3 | n => n⟩
theorem Tryd.laysM243 : Go.Proofs.LaysM.n243 Tryd.prog Tryd.laysM243_ren := {
  mixed := by kernel_rfl
  f129 := Tryd.func99.trans (congrArg some (by kernel_rfl))
  f243 := Tryd.func75.trans (congrArg some (by kernel_rfl))
  f246 := Tryd.func82.trans (congrArg some (by kernel_rfl))
  f283 := Tryd.func89.trans (congrArg some (by kernel_rfl))
  f284 := Tryd.func90.trans (congrArg some (by kernel_rfl))
  f285 := Tryd.func91.trans (congrArg some (by kernel_rfl))
  f286 := Tryd.func92.trans (congrArg some (by kernel_rfl))
  f317 := Tryd.func98.trans (congrArg some (by kernel_rfl))
  f318 := Tryd.func100.trans (congrArg some (by kernel_rfl))
  f319 := Tryd.func101.trans (congrArg some (by kernel_rfl))
  f320 := Tryd.func102.trans (congrArg some (by kernel_rfl))
  f337 := Tryd.func107.trans (congrArg some (by kernel_rfl))
  f338 := Tryd.func108.trans (congrArg some (by kernel_rfl))
  t0 := Tryd.underlying0
  a0 := Tryd.isAgg0
  z0 := Tryd.sizeOf0
  v0 := Tryd.zeroValue0
  t2 := Tryd.underlying2
  a2 := Tryd.isAgg2
  z2 := Tryd.sizeOf2
  v2 := Tryd.zeroValue2
  t3 := Tryd.underlying3
  a3 := Tryd.isAgg3
  z3 := Tryd.sizeOf3
  v3 := Tryd.zeroValue3
  t4 := Tryd.underlying4
  a4 := Tryd.isAgg4
  z4 := Tryd.sizeOf4
  v4 := Tryd.zeroValue4
  t5 := Tryd.underlying5
  a5 := Tryd.isAgg5
  z5 := Tryd.sizeOf5
  v5 := Tryd.zeroValue5
  t9 := Tryd.underlying9
  a9 := Tryd.isAgg9
  z9 := Tryd.sizeOf9
  v9 := Tryd.zeroValue9
  t20 := Tryd.underlying20
  a20 := Tryd.isAgg20
  z20 := Tryd.sizeOf20
  v20 := Tryd.zeroValue20
  t37 := Tryd.underlying22
  a37 := Tryd.isAgg22
  z37 := Tryd.sizeOf22
  v37 := Tryd.zeroValue22
  t46 := Tryd.underlying134
  a46 := Tryd.isAgg134
  z46 := Tryd.sizeOf134
  v46 := Tryd.zeroValue134
  t51 := Tryd.underlying132
  a51 := Tryd.isAgg132
  z51 := Tryd.sizeOf132
  v51 := Tryd.zeroValue132
  t53 := Tryd.underlying122
  a53 := Tryd.isAgg122
  z53 := Tryd.sizeOf122
  v53 := Tryd.zeroValue122
  t171 := Tryd.underlying121
  a171 := Tryd.isAgg121
  z171 := Tryd.sizeOf121
  v171 := Tryd.zeroValue121
  t173 := Tryd.underlying125
  a173 := Tryd.isAgg125
  z173 := Tryd.sizeOf125
  v173 := Tryd.zeroValue125
  t212 := Tryd.underlying131
  a212 := Tryd.isAgg131
  z212 := Tryd.sizeOf131
  v212 := Tryd.zeroValue131
  t213 := Tryd.underlying133
  a213 := Tryd.isAgg133
  z213 := Tryd.sizeOf133
  t232 := Tryd.underlying143
  a232 := Tryd.isAgg143
  z232 := Tryd.sizeOf143
  v232 := Tryd.zeroValue143
  t233 := Tryd.underlying144
  a233 := Tryd.isAgg144
  z233 := Tryd.sizeOf144
  v233 := Tryd.zeroValue144
  g17 := by kernel_rfl
  g18 := by kernel_rfl
  g19 := by kernel_rfl
  i0 := by kernel_rfl
  i2 := by kernel_rfl
  i3 := by kernel_rfl
  i4 := by kernel_rfl
  i5 := by kernel_rfl
  i9 := by kernel_rfl
  i20 := by kernel_rfl
  i37 := by kernel_rfl
  i46 := by kernel_rfl
  i51 := by kernel_rfl
  i53 := by kernel_rfl
  i171 := by kernel_rfl
  i173 := by kernel_rfl
  i212 := by kernel_rfl
  i232 := by kernel_rfl
  i233 := by kernel_rfl
  m17 := by kernel_rfl
  m18 := by kernel_rfl
  m19 := by kernel_rfl }
open Go.RowKit Go.Sort Go.Lib in
/-- internal/strconv.Itoa: "Itoa is equivalent to FormatInt(int64(i), 10).": i's decimal numeral, for every int. (LAID: no walk: one application.) -/
theorem Tryd.internal_strconv_Itoa (n : Int) (h0 : -9223372036854775808 ≤ n) (h1 : n ≤ 9223372036854775807) (w : World) (htab : Lib.TabIs Tryd.prog w "internal/strconv.uint64pow10" .u64 Lib.pow10Tab) :
    Calls Tryd.prog 75 #[.int .i64 n] w fun e w' => e = .returned (.string ⟨(Lib.itoa n).toArray⟩) ∧ ∃ k os, w' = grow (w.drewN k) os := Any.internal_strconv_Itoa Tryd.laysM243 n h0 h1 w htab
def Tryd.lays243_ren : Go.Shelf.Ren := ⟨fun | 243 => 75 | 246 => 82 | 283 => 89 | 284 => 90 | 285 => 91 | 286 => 92 | 129 => 99 | 317 => 98 | 318 => 100 | 319 => 101 | 320 => 102 | 337 => 107 | 338 => 108 | n => n, fun | 3 => 3 | 9 => 9 | 2 => 2 | 4 => 4 | 171 => 121 | 0 => 0 | 53 => 122 | 37 => 22 | 5 => 5 | 173 => 125 | 212 => 131 | 51 => 132 | 20 => 20 | 213 => 133 | 46 => 134 | 232 => 143 | 233 => 144 | n => n, fun | 17 => 0 | 18 => 2 | 19 => 3 | n => n⟩
theorem Tryd.lays243 : Go.Proofs.Lays.n243 Tryd.prog Tryd.lays243_ren := {
  mixed := by kernel_rfl
  f129 := Tryd.func99.trans (congrArg some (by kernel_rfl))
  f243 := Tryd.func75.trans (congrArg some (by kernel_rfl))
  f246 := Tryd.func82.trans (congrArg some (by kernel_rfl))
  f283 := Tryd.func89.trans (congrArg some (by kernel_rfl))
  f284 := Tryd.func90.trans (congrArg some (by kernel_rfl))
  f285 := Tryd.func91.trans (congrArg some (by kernel_rfl))
  f286 := Tryd.func92.trans (congrArg some (by kernel_rfl))
  f317 := Tryd.func98.trans (congrArg some (by kernel_rfl))
  f318 := Tryd.func100.trans (congrArg some (by kernel_rfl))
  f319 := Tryd.func101.trans (congrArg some (by kernel_rfl))
  f320 := Tryd.func102.trans (congrArg some (by kernel_rfl))
  f337 := Tryd.func107.trans (congrArg some (by kernel_rfl))
  f338 := Tryd.func108.trans (congrArg some (by kernel_rfl))
  t0 := Tryd.underlying0
  a0 := Tryd.isAgg0
  z0 := Tryd.sizeOf0
  v0 := Tryd.zeroValue0
  t2 := Tryd.underlying2
  a2 := Tryd.isAgg2
  z2 := Tryd.sizeOf2
  v2 := Tryd.zeroValue2
  t3 := Tryd.underlying3
  a3 := Tryd.isAgg3
  z3 := Tryd.sizeOf3
  v3 := Tryd.zeroValue3
  t4 := Tryd.underlying4
  a4 := Tryd.isAgg4
  z4 := Tryd.sizeOf4
  v4 := Tryd.zeroValue4
  t5 := Tryd.underlying5
  a5 := Tryd.isAgg5
  z5 := Tryd.sizeOf5
  v5 := Tryd.zeroValue5
  t9 := Tryd.underlying9
  a9 := Tryd.isAgg9
  z9 := Tryd.sizeOf9
  v9 := Tryd.zeroValue9
  t20 := Tryd.underlying20
  a20 := Tryd.isAgg20
  z20 := Tryd.sizeOf20
  v20 := Tryd.zeroValue20
  t37 := Tryd.underlying22
  a37 := Tryd.isAgg22
  z37 := Tryd.sizeOf22
  v37 := Tryd.zeroValue22
  t46 := Tryd.underlying134
  a46 := Tryd.isAgg134
  z46 := Tryd.sizeOf134
  v46 := Tryd.zeroValue134
  t51 := Tryd.underlying132
  a51 := Tryd.isAgg132
  z51 := Tryd.sizeOf132
  v51 := Tryd.zeroValue132
  t53 := Tryd.underlying122
  a53 := Tryd.isAgg122
  z53 := Tryd.sizeOf122
  v53 := Tryd.zeroValue122
  t171 := Tryd.underlying121
  a171 := Tryd.isAgg121
  z171 := Tryd.sizeOf121
  v171 := Tryd.zeroValue121
  t173 := Tryd.underlying125
  a173 := Tryd.isAgg125
  z173 := Tryd.sizeOf125
  v173 := Tryd.zeroValue125
  t212 := Tryd.underlying131
  a212 := Tryd.isAgg131
  z212 := Tryd.sizeOf131
  v212 := Tryd.zeroValue131
  t213 := Tryd.underlying133
  a213 := Tryd.isAgg133
  z213 := Tryd.sizeOf133
  t232 := Tryd.underlying143
  a232 := Tryd.isAgg143
  z232 := Tryd.sizeOf143
  v232 := Tryd.zeroValue143
  t233 := Tryd.underlying144
  a233 := Tryd.isAgg144
  z233 := Tryd.sizeOf144
  v233 := Tryd.zeroValue144
  g17 := by kernel_rfl
  g18 := by kernel_rfl
  g19 := by kernel_rfl }
open Go.RowKit Go.Sort Go.Lib in
/-- THE ROAD WITHOUT THE TABLE: 0 <= i < 100. (LAID: no walk: one application.) -/
theorem Tryd.internal_strconv_Itoa_small (i : Nat) (hi : i < 100) (w : World) :
    Calls Tryd.prog 75 #[.int .i64 i] w fun e w' => e = .returned (.string ⟨(Lib.decDigits i).toArray⟩) ∧ w' = w := Any.internal_strconv_Itoa_small Tryd.lays243 i hi w
def Tryd.laysM171_ren : Go.Shelf.Ren := ⟨fun | 171 => 60 | 243 => 75 | 246 => 82 | 283 => 89 | 284 => 90 | 285 => 91 | 286 => 92 | 129 => 99 | 317 => 98 | 318 => 100 | 319 => 101 | 320 => 102 | 337 => 107 | 338 => 108 | n => n, fun | 3 => 3 | 9 => 9 | 2 => 2 | 4 => 4 | 171 => 121 | 0 => 0 | 53 => 122 | 37 => 22 | 5 => 5 | 173 => 125 | 212 => 131 | 51 => 132 | 20 => 20 | 213 => 133 | 46 => 134 | 232 => 143 | 233 => 144 | n => n, fun | 17 => 0 | 18 => 2 | 19 => 3 | n => n⟩
theorem Tryd.laysM171 : Go.Proofs.LaysM.n171 Tryd.prog Tryd.laysM171_ren := {
  mixed := by kernel_rfl
  f129 := Tryd.func99.trans (congrArg some (by kernel_rfl))
  f171 := Tryd.func60.trans (congrArg some (by kernel_rfl))
  f243 := Tryd.func75.trans (congrArg some (by kernel_rfl))
  f246 := Tryd.func82.trans (congrArg some (by kernel_rfl))
  f283 := Tryd.func89.trans (congrArg some (by kernel_rfl))
  f284 := Tryd.func90.trans (congrArg some (by kernel_rfl))
  f285 := Tryd.func91.trans (congrArg some (by kernel_rfl))
  f286 := Tryd.func92.trans (congrArg some (by kernel_rfl))
  f317 := Tryd.func98.trans (congrArg some (by kernel_rfl))
  f318 := Tryd.func100.trans (congrArg some (by kernel_rfl))
  f319 := Tryd.func101.trans (congrArg some (by kernel_rfl))
  f320 := Tryd.func102.trans (congrArg some (by kernel_rfl))
  f337 := Tryd.func107.trans (congrArg some (by kernel_rfl))
  f338 := Tryd.func108.trans (congrArg some (by kernel_rfl))
  t0 := Tryd.underlying0
  a0 := Tryd.isAgg0
  z0 := Tryd.sizeOf0
  v0 := Tryd.zeroValue0
  t2 := Tryd.underlying2
  a2 := Tryd.isAgg2
  z2 := Tryd.sizeOf2
  v2 := Tryd.zeroValue2
  t3 := Tryd.underlying3
  a3 := Tryd.isAgg3
  z3 := Tryd.sizeOf3
  v3 := Tryd.zeroValue3
  t4 := Tryd.underlying4
  a4 := Tryd.isAgg4
  z4 := Tryd.sizeOf4
  v4 := Tryd.zeroValue4
  t5 := Tryd.underlying5
  a5 := Tryd.isAgg5
  z5 := Tryd.sizeOf5
  v5 := Tryd.zeroValue5
  t9 := Tryd.underlying9
  a9 := Tryd.isAgg9
  z9 := Tryd.sizeOf9
  v9 := Tryd.zeroValue9
  t20 := Tryd.underlying20
  a20 := Tryd.isAgg20
  z20 := Tryd.sizeOf20
  v20 := Tryd.zeroValue20
  t37 := Tryd.underlying22
  a37 := Tryd.isAgg22
  z37 := Tryd.sizeOf22
  v37 := Tryd.zeroValue22
  t46 := Tryd.underlying134
  a46 := Tryd.isAgg134
  z46 := Tryd.sizeOf134
  v46 := Tryd.zeroValue134
  t51 := Tryd.underlying132
  a51 := Tryd.isAgg132
  z51 := Tryd.sizeOf132
  v51 := Tryd.zeroValue132
  t53 := Tryd.underlying122
  a53 := Tryd.isAgg122
  z53 := Tryd.sizeOf122
  v53 := Tryd.zeroValue122
  t171 := Tryd.underlying121
  a171 := Tryd.isAgg121
  z171 := Tryd.sizeOf121
  v171 := Tryd.zeroValue121
  t173 := Tryd.underlying125
  a173 := Tryd.isAgg125
  z173 := Tryd.sizeOf125
  v173 := Tryd.zeroValue125
  t212 := Tryd.underlying131
  a212 := Tryd.isAgg131
  z212 := Tryd.sizeOf131
  v212 := Tryd.zeroValue131
  t213 := Tryd.underlying133
  a213 := Tryd.isAgg133
  z213 := Tryd.sizeOf133
  t232 := Tryd.underlying143
  a232 := Tryd.isAgg143
  z232 := Tryd.sizeOf143
  v232 := Tryd.zeroValue143
  t233 := Tryd.underlying144
  a233 := Tryd.isAgg144
  z233 := Tryd.sizeOf144
  v233 := Tryd.zeroValue144
  g17 := by kernel_rfl
  g18 := by kernel_rfl
  g19 := by kernel_rfl
  i0 := by kernel_rfl
  i2 := by kernel_rfl
  i3 := by kernel_rfl
  i4 := by kernel_rfl
  i5 := by kernel_rfl
  i9 := by kernel_rfl
  i20 := by kernel_rfl
  i37 := by kernel_rfl
  i46 := by kernel_rfl
  i51 := by kernel_rfl
  i53 := by kernel_rfl
  i171 := by kernel_rfl
  i173 := by kernel_rfl
  i212 := by kernel_rfl
  i232 := by kernel_rfl
  i233 := by kernel_rfl
  m17 := by kernel_rfl
  m18 := by kernel_rfl
  m19 := by kernel_rfl }
open Go.RowKit Go.Sort Go.Lib in
/-- strconv.Itoa: "Itoa is equivalent to FormatInt(int64(i), 10).": i's DECIMAL NUMERAL ('Lib.itoa': a '-' where i is negative, then the digits), FOR EVERY int. The world behind the call: the world before it, new blocks behind the heap (the library's 'var a [24]byte'), draws. (LAID: no walk: one application.) -/
theorem Tryd.strconv_Itoa (n : Int) (h0 : -9223372036854775808 ≤ n) (h1 : n ≤ 9223372036854775807) (w : World) (htab : Lib.TabIs Tryd.prog w "internal/strconv.uint64pow10" .u64 Lib.pow10Tab) :
    Calls Tryd.prog 60 #[.int .i64 n] w fun e w' => e = .returned (.string ⟨(Lib.itoa n).toArray⟩) ∧ ∃ k os, w' = grow (w.drewN k) os := Any.strconv_Itoa Tryd.laysM171 n h0 h1 w htab
def Tryd.lays171_ren : Go.Shelf.Ren := ⟨fun | 171 => 60 | 243 => 75 | 246 => 82 | 283 => 89 | 284 => 90 | 285 => 91 | 286 => 92 | 129 => 99 | 317 => 98 | 318 => 100 | 319 => 101 | 320 => 102 | 337 => 107 | 338 => 108 | n => n, fun | 3 => 3 | 9 => 9 | 2 => 2 | 4 => 4 | 171 => 121 | 0 => 0 | 53 => 122 | 37 => 22 | 5 => 5 | 173 => 125 | 212 => 131 | 51 => 132 | 20 => 20 | 213 => 133 | 46 => 134 | 232 => 143 | 233 => 144 | n => n, fun | 17 => 0 | 18 => 2 | 19 => 3 | n => n⟩
theorem Tryd.lays171 : Go.Proofs.Lays.n171 Tryd.prog Tryd.lays171_ren := {
  mixed := by kernel_rfl
  f129 := Tryd.func99.trans (congrArg some (by kernel_rfl))
  f171 := Tryd.func60.trans (congrArg some (by kernel_rfl))
  f243 := Tryd.func75.trans (congrArg some (by kernel_rfl))
  f246 := Tryd.func82.trans (congrArg some (by kernel_rfl))
  f283 := Tryd.func89.trans (congrArg some (by kernel_rfl))
  f284 := Tryd.func90.trans (congrArg some (by kernel_rfl))
  f285 := Tryd.func91.trans (congrArg some (by kernel_rfl))
  f286 := Tryd.func92.trans (congrArg some (by kernel_rfl))
  f317 := Tryd.func98.trans (congrArg some (by kernel_rfl))
  f318 := Tryd.func100.trans (congrArg some (by kernel_rfl))
  f319 := Tryd.func101.trans (congrArg some (by kernel_rfl))
  f320 := Tryd.func102.trans (congrArg some (by kernel_rfl))
  f337 := Tryd.func107.trans (congrArg some (by kernel_rfl))
  f338 := Tryd.func108.trans (congrArg some (by kernel_rfl))
  t0 := Tryd.underlying0
  a0 := Tryd.isAgg0
  z0 := Tryd.sizeOf0
  v0 := Tryd.zeroValue0
  t2 := Tryd.underlying2
  a2 := Tryd.isAgg2
  z2 := Tryd.sizeOf2
  v2 := Tryd.zeroValue2
  t3 := Tryd.underlying3
  a3 := Tryd.isAgg3
  z3 := Tryd.sizeOf3
  v3 := Tryd.zeroValue3
  t4 := Tryd.underlying4
  a4 := Tryd.isAgg4
  z4 := Tryd.sizeOf4
  v4 := Tryd.zeroValue4
  t5 := Tryd.underlying5
  a5 := Tryd.isAgg5
  z5 := Tryd.sizeOf5
  v5 := Tryd.zeroValue5
  t9 := Tryd.underlying9
  a9 := Tryd.isAgg9
  z9 := Tryd.sizeOf9
  v9 := Tryd.zeroValue9
  t20 := Tryd.underlying20
  a20 := Tryd.isAgg20
  z20 := Tryd.sizeOf20
  v20 := Tryd.zeroValue20
  t37 := Tryd.underlying22
  a37 := Tryd.isAgg22
  z37 := Tryd.sizeOf22
  v37 := Tryd.zeroValue22
  t46 := Tryd.underlying134
  a46 := Tryd.isAgg134
  z46 := Tryd.sizeOf134
  v46 := Tryd.zeroValue134
  t51 := Tryd.underlying132
  a51 := Tryd.isAgg132
  z51 := Tryd.sizeOf132
  v51 := Tryd.zeroValue132
  t53 := Tryd.underlying122
  a53 := Tryd.isAgg122
  z53 := Tryd.sizeOf122
  v53 := Tryd.zeroValue122
  t171 := Tryd.underlying121
  a171 := Tryd.isAgg121
  z171 := Tryd.sizeOf121
  v171 := Tryd.zeroValue121
  t173 := Tryd.underlying125
  a173 := Tryd.isAgg125
  z173 := Tryd.sizeOf125
  v173 := Tryd.zeroValue125
  t212 := Tryd.underlying131
  a212 := Tryd.isAgg131
  z212 := Tryd.sizeOf131
  v212 := Tryd.zeroValue131
  t213 := Tryd.underlying133
  a213 := Tryd.isAgg133
  z213 := Tryd.sizeOf133
  t232 := Tryd.underlying143
  a232 := Tryd.isAgg143
  z232 := Tryd.sizeOf143
  v232 := Tryd.zeroValue143
  t233 := Tryd.underlying144
  a233 := Tryd.isAgg144
  z233 := Tryd.sizeOf144
  v233 := Tryd.zeroValue144
  g17 := by kernel_rfl
  g18 := by kernel_rfl
  g19 := by kernel_rfl }
open Go.RowKit Go.Sort Go.Lib in
/-- THE ROAD WITHOUT THE TABLE: 0 <= i < 100: NO PREMISE ON THE WORLD, AND THE WORLD IS AS IT WAS: a row that keeps its argument in that range need list no table ('laid = []'). (LAID: no walk: one application.) -/
theorem Tryd.strconv_Itoa_small (i : Nat) (hi : i < 100) (w : World) :
    Calls Tryd.prog 60 #[.int .i64 i] w fun e w' => e = .returned (.string ⟨(Lib.decDigits i).toArray⟩) ∧ w' = w := Any.strconv_Itoa_small Tryd.lays171 i hi w
end Go.Proofs

namespace Go.Sx
open Go
set_option maxRecDepth 100000
set_option linter.unusedVariables false
set_option linter.unusedSimpArgs false
set_option maxHeartbeats 2000000

def cPool : Ctr := ⟨24, [.val false TI pF], fun x => True, fun x => (sBool (poolV x.1), [])⟩
theorem cPool_ok : CtrOk Proofs.Tryd.prog cPool := by
  have hP := (Prg.none ttok mtok)
  refine ctr_of_body hP cPool (fn := Proofs.Tryd.f24) (rts := [.tmp 2]) Proofs.Tryd.func24 rfl (by kernel_rfl) rfl rfl ?_
  rintro ⟨(n : Int), ⟨⟩⟩ _ hpre
  try dsimp only [Ty.den, Mode.den, mdens] at hpre
  refine ⟨rfl, ?_⟩
  refine sw_seq ?_
  refine sw_region hP 1 [] rfl (by kernel_rfl) (fun _ => by kernel_rfl) (by first | trivial | (simp [conj]; done) | (simp [conj] at *; (try dsimp only [Ty.den, Ty.dflt] at *); omega)) ?_
  refine sw_seq ?_
  refine sw_dec hP 2 [] 2 rfl (fun g1_2 => ?_) (fun g1_2 => ?_)
  · skip
    refine sw_region hP 2 [(2, true)] rfl (by kernel_rfl) (fun _ => by kernel_rfl) (by first | trivial | (simp [conj]; done) | (simp [conj] at *; (try dsimp only [Ty.den, Ty.dflt] at *); omega)) ?_
    refine sw_ret ⟨.inl rfl, _, rfl, ?_⟩
    simp [conj, poolV, inV] at *
    try omega
  · skip
    refine sw_region hP 2 [(2, false)] rfl (by kernel_rfl) (fun _ => by kernel_rfl) (by first | trivial | (simp [conj]; done) | (simp [conj] at *; (try dsimp only [Ty.den, Ty.dflt] at *); omega)) ?_
    refine sw_ret ⟨.inl rfl, _, rfl, ?_⟩
    simp [conj, poolV, inV] at *
    try omega

def cNone : Ctr := ⟨28, [.val true T_Ptr (.all .b)], fun x => True, fun x => (sBool (noneV x.1), [])⟩
theorem cNone_ok : CtrOk Proofs.Tryd.prog cNone := by
  have hP := (Prg.none ttok mtok)
  refine ctr_of_body hP cNone (fn := Proofs.Tryd.f28) (rts := [.tmp 2]) Proofs.Tryd.func28 rfl (by kernel_rfl) rfl rfl ?_
  rintro ⟨⟨(sz : Int), (sm : Int), (pl : List Plc)⟩, ⟨⟩⟩ _ hpre
  try dsimp only [Ty.den, Mode.den, mdens] at hpre
  refine ⟨rfl, ?_⟩
  refine sw_seq ?_
  refine sw_region hP 1 [] rfl (by kernel_rfl) (fun _ => by kernel_rfl) (by first | trivial | (simp [conj]; done) | (simp [conj] at *; (try dsimp only [Ty.den, Ty.dflt] at *); omega)) ?_
  refine sw_seq ?_
  refine sw_dec hP 2 [] 3 rfl (fun g1_3 => ?_) (fun g1_3 => ?_)
  · skip
    refine sw_dec hP 2 [(3, true)] 8 rfl (fun g1_8 => ?_) (fun g1_8 => ?_)
    · skip
      refine sw_region hP 2 [(3, true), (8, true)] rfl (by kernel_rfl) (fun _ => by kernel_rfl) (by first | trivial | (simp [conj]; done) | (simp [conj] at *; (try dsimp only [Ty.den, Ty.dflt] at *); omega)) ?_
      refine sw_ret ⟨.inl rfl, _, rfl, ?_⟩
      simp [conj, noneV, *]
    · skip
      refine sw_region hP 2 [(3, true), (8, false)] rfl (by kernel_rfl) (fun _ => by kernel_rfl) (by first | trivial | (simp [conj]; done) | (simp [conj] at *; (try dsimp only [Ty.den, Ty.dflt] at *); omega)) ?_
      refine sw_ret ⟨.inl rfl, _, rfl, ?_⟩
      simp [conj, noneV, *]
  · skip
    refine sw_region hP 2 [(3, false)] rfl (by kernel_rfl) (fun _ => by kernel_rfl) (by first | trivial | (simp [conj]; done) | (simp [conj] at *; (try dsimp only [Ty.den, Ty.dflt] at *); omega)) ?_
    refine sw_ret ⟨.inl rfl, _, rfl, ?_⟩
    simp [conj, noneV, *]

def cMost : Ctr := ⟨29, [.val false TI pF], fun x => poolV x.1 = true, fun x => (sInt .i64 (mostV x.1), [])⟩
theorem cMost_ok : CtrOk Proofs.Tryd.prog cMost := by
  have hP := (Prg.none ttok mtok)
  refine ctr_of_body hP cMost (fn := Proofs.Tryd.f29) (rts := [.tmp 2]) Proofs.Tryd.func29 rfl (by kernel_rfl) rfl rfl ?_
  rintro ⟨(d : Int), ⟨⟩⟩ _ hpre
  try dsimp only [Ty.den, Mode.den, mdens] at hpre
  refine ⟨rfl, ?_⟩
  replace hpre : poolV d = true := hpre
  have hb : 3 ≤ d ∧ d ≤ 4 := by simpa [poolV, inV] using hpre
  have hmm := sMin_bd d hb
  refine sw_seq ?_
  refine sw_region hP 1 [] rfl (by kernel_rfl) (fun _ => by kernel_rfl) (by first | trivial | (simp [conj]; done) | (simp [conj] at *; (try dsimp only [Ty.den, Ty.dflt] at *); omega)) ?_
  refine sw_seq ?_
  refine sw_region hP 2 [] rfl (by kernel_rfl) (fun _ => by kernel_rfl) ?_ ?_
  · skip
    simp only [conj, List.nil_append, List.cons_append, List.append_nil, List.append_assoc, inR_i64, true_and, and_true, Int.toNat_natCast]
    try dsimp only [Ty.den, Ty.dflt]
    repeat' apply And.intro
    all_goals first | omega | (show _ ≤ 3 * sMin 3 (d - 1); omega) | (show 3 * sMin 3 (d - 1) ≤ _; omega)
  refine sw_ret ⟨.inl rfl, _, rfl, ?_⟩
  simp [conj, mostV]

def cCols : Ctr := ⟨30, [.val false TI pF], fun x => 0 ≤ x.1 ∧ x.1 ≤ 1000000, fun x => (sInt .i64 (colsV x.1), [])⟩
theorem cCols_ok : CtrOk Proofs.Tryd.prog cCols := by
  have hP := (Prg.none ttok mtok)
  refine ctr_of_body hP cCols (fn := Proofs.Tryd.f30) (rts := [.tmp 2]) Proofs.Tryd.func30 rfl (by kernel_rfl) rfl rfl ?_
  rintro ⟨(n : Int), ⟨⟩⟩ _ ⟨h0, h1⟩
  try dsimp only [Ty.den, Mode.den, mdens] at h0
  try dsimp only [Ty.den, Mode.den, mdens] at h1
  refine ⟨rfl, ?_⟩
  have hq := colsV_bd h0 h1
  unfold colsV at hq
  refine sw_seq ?_
  refine sw_region hP 1 [] rfl (by kernel_rfl) (fun _ => by kernel_rfl) (by first | trivial | (simp [conj]; done) | (simp [conj] at *; (try dsimp only [Ty.den, Ty.dflt] at *); omega)) ?_
  refine sw_seq ?_
  refine sw_region hP 2 [] rfl (by kernel_rfl) (fun _ => by kernel_rfl) ?_ ?_
  · skip
    simp only [conj, List.nil_append, List.cons_append, List.append_nil, List.append_assoc, inR_i64, true_and, and_true, Int.toNat_natCast]
    try dsimp only [Ty.den, Ty.dflt]
    repeat' apply And.intro
    all_goals first | rfl | omega | assumption | trivial
  refine sw_ret ⟨.inl rfl, _, rfl, ?_⟩
  simp [conj, colsV]

def cPlOk : Ctr := ⟨31, [.val true T_Place pF, .val false TI pF], fun x => True, fun x => (sBool (placeV x.2.1 x.1), [])⟩
theorem cPlOk_ok : CtrOk Proofs.Tryd.prog cPlOk := by
  have hP := (Prg.none ttok mtok)
  refine ctr_of_body hP cPlOk (fn := Proofs.Tryd.f31) (rts := [.tmp 4]) Proofs.Tryd.func31 rfl (by kernel_rfl) rfl rfl ?_
  rintro ⟨⟨(a : Int), (b : Int)⟩, (d : Int), ⟨⟩⟩ _ hpre
  try dsimp only [Ty.den, Mode.den, mdens] at hpre
  refine ⟨rfl, ?_⟩
  refine sw_seq ?_
  refine sw_region hP 1 [] rfl (by kernel_rfl) (fun _ => by kernel_rfl) (by first | trivial | (simp [conj]; done) | (simp [conj] at *; (try dsimp only [Ty.den, Ty.dflt] at *); omega)) ?_
  refine sw_seq ?_
  refine sw_dec hP 2 [] 3 rfl (fun g1_3 => ?_) (fun g1_3 => ?_)
  · skip
    refine sw_dec hP 2 [(3, true)] 9 rfl (fun g1_9 => ?_) (fun g1_9 => ?_)
    · skip
      refine sw_dec hP 2 [(3, true), (9, true)] 14 rfl (fun g1_14 => ?_) (fun g1_14 => ?_)
      · skip
        refine sw_region hP 2 [(3, true), (9, true), (14, true)] rfl (by kernel_rfl) (fun _ => by kernel_rfl) (by first | trivial | (simp [conj]; done) | (simp [conj] at *; (try dsimp only [Ty.den, Ty.dflt] at *); omega)) ?_
        refine sw_ret ⟨.inl rfl, _, rfl, ?_⟩
        simp [conj, placeV, *]
      · skip
        refine sw_region hP 2 [(3, true), (9, true), (14, false)] rfl (by kernel_rfl) (fun _ => by kernel_rfl) (by first | trivial | (simp [conj]; done) | (simp [conj] at *; (try dsimp only [Ty.den, Ty.dflt] at *); omega)) ?_
        refine sw_ret ⟨.inl rfl, _, rfl, ?_⟩
        simp [conj, placeV, *]
    · skip
      refine sw_region hP 2 [(3, true), (9, false)] rfl (by kernel_rfl) (fun _ => by kernel_rfl) (by first | trivial | (simp [conj]; done) | (simp [conj] at *; (try dsimp only [Ty.den, Ty.dflt] at *); omega)) ?_
      refine sw_ret ⟨.inl rfl, _, rfl, ?_⟩
      simp [conj, placeV, *]
  · skip
    refine sw_region hP 2 [(3, false)] rfl (by kernel_rfl) (fun _ => by kernel_rfl) (by first | trivial | (simp [conj]; done) | (simp [conj] at *; (try dsimp only [Ty.den, Ty.dflt] at *); omega)) ?_
    refine sw_ret ⟨.inl rfl, _, rfl, ?_⟩
    simp [conj, placeV, *]

def cPtr1 : Ctr := ⟨33, [.val true T_Place pF, .rp T_Place pF], fun x => True, fun x => (sBool (decide (x.1.1 = x.2.1.1)), [])⟩
theorem cPtr1_ok : CtrOk Proofs.Tryd.prog cPtr1 := by
  have hP := (Prg.none ttok mtok)
  refine ctr_of_body hP cPtr1 (fn := Proofs.Tryd.f33) (rts := [.tmp 3]) Proofs.Tryd.func33 rfl (by kernel_rfl) rfl rfl ?_
  rintro ⟨⟨(a : Int), (b : Int)⟩, ⟨(c : Int), (e : Int)⟩, ⟨⟩⟩ _ hpre
  try dsimp only [Ty.den, Mode.den, mdens] at hpre
  refine ⟨rfl, ?_⟩
  refine sw_seq ?_
  refine sw_region hP 1 [] rfl (by kernel_rfl) (fun _ => by kernel_rfl) (by first | trivial | (simp [conj]; done) | (simp [conj] at *; (try dsimp only [Ty.den, Ty.dflt] at *); omega)) ?_
  refine sw_seq ?_
  refine sw_region hP 2 [] rfl (by kernel_rfl) (fun _ => by kernel_rfl) (by first | trivial | (simp [conj]; done) | (simp [conj] at *; (try dsimp only [Ty.den, Ty.dflt] at *); omega)) ?_
  refine sw_ret ⟨.inl rfl, _, rfl, ?_⟩
  simp [conj]

def cIdxPl : Ctr := ⟨54, [.val false (.sl T_Place) (.all .b), .clo 33 [(false, T_Place, pF)]], fun _ => True, fun x => (sInt .i64 (idxF (fun q : Plc => decide (q.1 = x.2.1.1.1)) x.1), [])⟩
theorem cIdxPl_ok : CtrOk Proofs.Tryd.prog cIdxPl := by
  have hP := ((Prg.none ttok mtok).and cPtr1_ok)
  refine ctr_of_body hP cIdxPl (fn := Proofs.Tryd.f54) (rts := [.tmp 4]) Proofs.Tryd.func54 rfl (by kernel_rfl) rfl rfl ?_
  rintro ⟨(l : List Plc), ⟨(y : Plc), ⟨⟩⟩, ⟨⟩⟩ ⟨hdl, _⟩ hpre
  try dsimp only [Ty.den, Mode.den, mdens] at hpre
  refine ⟨rfl, ?_⟩
  have hml : l.length ≤ 140737488355328 := hdl.1
  refine sw_seq ?_
  refine sw_region hP 1 [] rfl (by kernel_rfl) (fun _ => by kernel_rfl) (by first | trivial | (simp [conj]; done) | (simp [conj] at *; (try dsimp only [Ty.den, Ty.dflt] at *); omega)) ?_
  refine sw_seq ?_
  refine sw_seq ?_
  refine sw_region hP 2 [] rfl (by kernel_rfl) (fun _ => by kernel_rfl) (by first | trivial | (simp [conj]; done) | (simp [conj] at *; (try dsimp only [Ty.den, Ty.dflt] at *); omega)) ?_
  refine sw_block ?_
  refine sw_loop (ι := Nat) (fun i => ⟨[.v false [.d (.sl T_Place) (.all .b) l], .fn 33 [.rpt .b T_Place pF y], .junk, .junk, .junk, .junk, .junk, sInt .i64 (l.length : Int), sInt .i64 (i : Int), .junk, .junk, .junk, .junk, .junk, .junk, .junk, .junk, .junk, .junk], [], 2, []⟩) (fun i => l.length - i) (fun i => i ≤ l.length ∧ idxFGo (fun q : Plc => decide (q.1 = y.1)) (l.drop i) i = idxF (fun q : Plc => decide (q.1 = y.1)) l) 0 ⟨?_, ?_⟩ ?_
  · skip
    exact ⟨Nat.zero_le _, rfl⟩
  · refine ent_ok rfl ?_
    first | trivial | (simp [conj]; done) | (simp [conj] at *; (try dsimp only [Ty.den, Ty.dflt] at *); omega)
  · rintro i ⟨hi, hgo⟩
    refine sw_seq ?_
    refine sw_region hP 3 [] rfl (by kernel_rfl) (fun _ => by kernel_rfl) (by first | trivial | (simp [conj]; done) | (simp [conj] at *; (try dsimp only [Ty.den, Ty.dflt] at *); omega)) ?_
    refine sw_seq ?_
    refine sw_cond rfl (fun c2 => ?_) (fun c2 => ?_)
    · skip
      have hlt : i < l.length := by simpa using c2
      refine sw_skip ?_
      refine sw_seq ?_
      refine sw_block ?_
      refine sw_seq ?_
      refine sw_region hP 4 [] rfl (by kernel_rfl) (fun _ => by kernel_rfl) (by first | trivial | (simp [conj]; done) | (simp [conj] at *; (try dsimp only [Ty.den, Ty.dflt] at *); omega)) ?_
      refine sw_seq ?_
      refine sw_region hP 5 [] rfl (by kernel_rfl) (fun _ => by kernel_rfl) ?_ ?_
      · skip
        simp [conj, maxL]
        try dsimp only [Ty.den, Ty.dflt]
        try simp only [rd_eta]
        repeat' apply And.intro
        all_goals first | assumption | omega | exact trivial
      refine sw_cond rfl (fun c4 => ?_) (fun c4 => ?_)
      · skip
        replace c4 : (fun q : Plc => decide (q.1 = y.1)) l[i] = true := by simpa [List.getElem?_eq_getElem hlt] using c4
        refine sw_seq ?_
        refine sw_region hP 6 [] rfl (by kernel_rfl) (fun _ => by kernel_rfl) (by first | trivial | (simp [conj]; done) | (simp [conj] at *; (try dsimp only [Ty.den, Ty.dflt] at *); omega)) ?_
        refine sw_ret ⟨.inl rfl, _, rfl, ?_⟩
        simp [conj, idxF_hit hlt hgo c4]
      · skip
        replace c4 : (fun q : Plc => decide (q.1 = y.1)) l[i] = false := by simpa [List.getElem?_eq_getElem hlt] using c4
        refine sw_skip ?_
        refine sw_region hP 6 [] rfl (by kernel_rfl) (fun _ => by kernel_rfl) (by first | trivial | (simp [conj]; done) | (simp [conj] at *; (try dsimp only [Ty.den, Ty.dflt] at *); omega)) ?_
        refine ⟨i + 1, ?_, ?_, ent_ok rfl ?_⟩
        · skip
          exact ⟨hlt, idxF_next hlt hgo c4⟩
        · skip
          omega
        · skip
          simp [conj, maxL]
          try dsimp only [Ty.den, Ty.dflt]
          try simp only [rd_eta]
          repeat' apply And.intro
          all_goals first | rfl | assumption | omega
    · skip
      obtain rfl : i = l.length := by simp at c2; omega
      refine sw_exit ?_
      refine sw_seq ?_
      refine sw_region hP 4 [] rfl (by kernel_rfl) (fun _ => by kernel_rfl) (by first | trivial | (simp [conj]; done) | (simp [conj] at *; (try dsimp only [Ty.den, Ty.dflt] at *); omega)) ?_
      refine sw_ret ⟨.inl rfl, _, rfl, ?_⟩
      simp [conj, idxF_end hgo]

def cContPl : Ctr := ⟨32, [.val false (.sl T_Place) (.all .b), .clo 33 [(false, T_Place, pF)]], fun _ => True, fun x => (sBool (List.any x.1 (fun q : Plc => decide (q.1 = x.2.1.1.1))), [])⟩
theorem cContPl_ok : CtrOk Proofs.Tryd.prog cContPl := by
  have hP := ((Prg.none ttok mtok).and cIdxPl_ok)
  refine ctr_of_body hP cContPl (fn := Proofs.Tryd.f32) (rts := [.tmp 4]) Proofs.Tryd.func32 rfl (by kernel_rfl) rfl rfl ?_
  rintro ⟨(l : List Plc), ⟨(y : Plc), ⟨⟩⟩, ⟨⟩⟩ _ hpre
  try dsimp only [Ty.den, Mode.den, mdens] at hpre
  refine ⟨rfl, ?_⟩
  refine sw_seq ?_
  refine sw_region hP 1 [] rfl (by kernel_rfl) (fun _ => by kernel_rfl) (by first | trivial | (simp [conj]; done) | (simp [conj] at *; (try dsimp only [Ty.den, Ty.dflt] at *); omega)) ?_
  refine sw_seq ?_
  refine sw_region hP 2 [] rfl (by kernel_rfl) (fun _ => by kernel_rfl) (by first | trivial | (simp [conj]; done) | (simp [conj] at *; (try dsimp only [Ty.den, Ty.dflt] at *); omega)) ?_
  refine sw_ret ⟨.inl rfl, _, rfl, ?_⟩
  simp [conj]
  exact idxF_any

def cPtrOk : Ctr := ⟨9, [.val false TI pF, .val true T_Ptr (.all .b)], fun x => True, fun x => (sBool (ptrV x.1 x.2.1), [])⟩
theorem cPtrOk_ok : CtrOk Proofs.Tryd.prog cPtrOk := by
  have hP := (((((((Prg.none ttok mtok).and cPool_ok).and cNone_ok).and cMost_ok).and cCols_ok).and cPlOk_ok).and cContPl_ok)
  refine ctr_of_body hP cPtrOk (fn := Proofs.Tryd.f9) (rts := [.tmp 4]) Proofs.Tryd.func9 rfl (by kernel_rfl) rfl rfl ?_
  rintro ⟨(d : Int), ⟨(sz : Int), (sm : Int), (pl : List Plc)⟩, ⟨⟩⟩ ⟨_, ⟨_, _, hpl0⟩, _⟩ _
  try dsimp only [Ty.den, Mode.den, mdens] at _
  refine ⟨rfl, ?_⟩
  have hml : pl.length ≤ 140737488355328 := hpl0.1
  refine sw_seq ?_
  refine sw_region hP 1 [] rfl (by kernel_rfl) (fun _ => by kernel_rfl) (by first | trivial | (simp [conj]; done) | (simp [conj] at *; (try dsimp only [Ty.den, Ty.dflt] at *); omega)) ?_
  refine sw_seq ?_
  refine sw_seq ?_
  refine sw_region hP 2 [] rfl (by kernel_rfl) (fun _ => by kernel_rfl) ?_ ?_
  · skip
    simp [conj, maxL]
    try dsimp only [Ty.den, Ty.dflt]
    try simp only [rd_eta]
    repeat' apply And.intro
    all_goals first | rfl | assumption | omega | trivial
  refine sw_cond rfl (fun c1 => ?_) (fun c1 => ?_)
  · skip
    replace c1 : poolV d = false := by simpa using c1
    refine sw_seq ?_
    refine sw_region hP 3 [] rfl (by kernel_rfl) (fun _ => by kernel_rfl) (by first | trivial | (simp [conj]; done) | (simp [conj] at *; (try dsimp only [Ty.den, Ty.dflt] at *); omega)) ?_
    refine sw_ret ⟨.inl rfl, _, rfl, ?_⟩
    simp [conj, ptrV, c1]
  · skip
    replace c1 : poolV d = true := by simpa using c1
    have hb : 3 ≤ d ∧ d ≤ 4 := by simpa [poolV, inV] using c1
    have hmm := sMin_bd d hb
    have hmv : mostV d = 3 * (d - 1) := by unfold mostV; rw [hmm]
    refine sw_skip ?_
    refine sw_seq ?_
    refine sw_seq ?_
    refine sw_region hP 3 [] rfl (by kernel_rfl) (fun _ => by kernel_rfl) ?_ ?_
    · skip
      simp [conj, maxL]
      try dsimp only [Ty.den, Ty.dflt]
      try simp only [rd_eta]
      repeat' apply And.intro
      all_goals first | rfl | assumption | omega | trivial
    refine sw_cond rfl (fun c3 => ?_) (fun c3 => ?_)
    · skip
      replace c3 : noneV ((sz, sm, pl) : Ptr_) = true := c3
      refine sw_seq ?_
      refine sw_region hP 4 [] rfl (by kernel_rfl) (fun _ => by kernel_rfl) (by first | trivial | (simp [conj]; done) | (simp [conj] at *; (try dsimp only [Ty.den, Ty.dflt] at *); omega)) ?_
      refine sw_ret ⟨.inl rfl, _, rfl, ?_⟩
      simp [conj, ptrV, c1, c3]
    · skip
      replace c3 : noneV ((sz, sm, pl) : Ptr_) = false := c3
      refine sw_skip ?_
      refine sw_seq ?_
      refine sw_seq ?_
      refine sw_dec hP 4 [] 3 rfl (fun g5_3 => ?_) (fun g5_3 => ?_)
      · skip
        have hsz : sizeV d ((sz, sm, pl) : Ptr_) = false := by
          have h : sz < 1 := of_decide_eq_true g5_3
          simp [sizeV, inV]; omega
        refine sw_region hP 4 [(3, true)] rfl (by kernel_rfl) (fun _ => by kernel_rfl) ?_ ?_
        · skip
          simp only [conj, List.nil_append, List.cons_append, List.append_nil, List.append_assoc, inR_i64, true_and, and_true, Int.toNat_natCast]
          try dsimp only [Ty.den, Ty.dflt]
          repeat' apply And.intro
          all_goals first | trivial | assumption | omega | (show 0 ≤ sz; omega) | (show sz ≤ 1000000; omega) | exact decide_eq_false g5_3 | exact decide_eq_false g5_10 | exact decide_eq_false g5_15 | exact decide_eq_false g5_20
        refine sw_condT rfl ?_
        refine sw_seq ?_
        refine sw_region hP 5 [] rfl (by kernel_rfl) (fun _ => by kernel_rfl) (by first | trivial | (simp [conj]; done) | (simp [conj] at *; (try dsimp only [Ty.den, Ty.dflt] at *); omega)) ?_
        refine sw_ret ⟨.inl rfl, _, rfl, ?_⟩
        simp [conj, ptrV, c1, c3, hsz]
      · skip
        replace g5_3 : ¬ sz < 1 := of_decide_eq_false g5_3
        refine sw_dec hP 4 [(3, false)] 10 rfl (fun g5_10 => ?_) (fun g5_10 => ?_)
        · skip
          have hsz : sizeV d ((sz, sm, pl) : Ptr_) = false := by
            have h : mostV d < sz := of_decide_eq_true g5_10
            simp [sizeV, inV]; omega
          refine sw_region hP 4 [(3, false), (10, true)] rfl (by kernel_rfl) (fun _ => by kernel_rfl) ?_ ?_
          · skip
            simp only [conj, List.nil_append, List.cons_append, List.append_nil, List.append_assoc, inR_i64, true_and, and_true, Int.toNat_natCast]
            try dsimp only [Ty.den, Ty.dflt]
            repeat' apply And.intro
            all_goals first | trivial | assumption | omega | (show 0 ≤ sz; omega) | (show sz ≤ 1000000; omega) | exact decide_eq_false g5_3 | exact decide_eq_false g5_10 | exact decide_eq_false g5_15 | exact decide_eq_false g5_20
          refine sw_condT rfl ?_
          refine sw_seq ?_
          refine sw_region hP 5 [] rfl (by kernel_rfl) (fun _ => by kernel_rfl) (by first | trivial | (simp [conj]; done) | (simp [conj] at *; (try dsimp only [Ty.den, Ty.dflt] at *); omega)) ?_
          refine sw_ret ⟨.inl rfl, _, rfl, ?_⟩
          simp [conj, ptrV, c1, c3, hsz]
        · skip
          replace g5_10 : ¬ mostV d < sz := of_decide_eq_false g5_10
          refine sw_dec hP 4 [(3, false), (10, false)] 15 rfl (fun g5_15 => ?_) (fun g5_15 => ?_)
          · skip
            have hsz : sizeV d ((sz, sm, pl) : Ptr_) = false := by
              have h : sm < 0 := of_decide_eq_true g5_15
              simp [sizeV, inV]; omega
            refine sw_region hP 4 [(3, false), (10, false), (15, true)] rfl (by kernel_rfl) (fun _ => by kernel_rfl) ?_ ?_
            · skip
              simp only [conj, List.nil_append, List.cons_append, List.append_nil, List.append_assoc, inR_i64, true_and, and_true, Int.toNat_natCast]
              try dsimp only [Ty.den, Ty.dflt]
              repeat' apply And.intro
              all_goals first | trivial | assumption | omega | (show 0 ≤ sz; omega) | (show sz ≤ 1000000; omega) | exact decide_eq_false g5_3 | exact decide_eq_false g5_10 | exact decide_eq_false g5_15 | exact decide_eq_false g5_20
            refine sw_condT rfl ?_
            refine sw_seq ?_
            refine sw_region hP 5 [] rfl (by kernel_rfl) (fun _ => by kernel_rfl) (by first | trivial | (simp [conj]; done) | (simp [conj] at *; (try dsimp only [Ty.den, Ty.dflt] at *); omega)) ?_
            refine sw_ret ⟨.inl rfl, _, rfl, ?_⟩
            simp [conj, ptrV, c1, c3, hsz]
          · skip
            replace g5_15 : ¬ sm < 0 := of_decide_eq_false g5_15
            refine sw_dec hP 4 [(3, false), (10, false), (15, false)] 20 rfl (fun g5_20 => ?_) (fun g5_20 => ?_)
            · skip
              have hsz : sizeV d ((sz, sm, pl) : Ptr_) = false := by
                have h : 1000000000 < sm := of_decide_eq_true g5_20
                simp [sizeV, inV]; omega
              refine sw_region hP 4 [(3, false), (10, false), (15, false), (20, true)] rfl (by kernel_rfl) (fun _ => by kernel_rfl) ?_ ?_
              · skip
                simp only [conj, List.nil_append, List.cons_append, List.append_nil, List.append_assoc, inR_i64, true_and, and_true, Int.toNat_natCast]
                try dsimp only [Ty.den, Ty.dflt]
                repeat' apply And.intro
                all_goals first | trivial | assumption | omega | (show 0 ≤ sz; omega) | (show sz ≤ 1000000; omega) | exact decide_eq_false g5_3 | exact decide_eq_false g5_10 | exact decide_eq_false g5_15 | exact decide_eq_false g5_20
              refine sw_condT rfl ?_
              refine sw_seq ?_
              refine sw_region hP 5 [] rfl (by kernel_rfl) (fun _ => by kernel_rfl) (by first | trivial | (simp [conj]; done) | (simp [conj] at *; (try dsimp only [Ty.den, Ty.dflt] at *); omega)) ?_
              refine sw_ret ⟨.inl rfl, _, rfl, ?_⟩
              simp [conj, ptrV, c1, c3, hsz]
            · skip
              replace g5_20 : ¬ 1000000000 < sm := of_decide_eq_false g5_20
              have hcb := colsV_bd (n := sz) (by omega) (by omega)
              refine sw_region hP 4 [(3, false), (10, false), (15, false), (20, false)] rfl (by kernel_rfl) (fun _ => by kernel_rfl) ?_ ?_
              · skip
                simp only [conj, List.nil_append, List.cons_append, List.append_nil, List.append_assoc, inR_i64, true_and, and_true, Int.toNat_natCast]
                try dsimp only [Ty.den, Ty.dflt]
                repeat' apply And.intro
                all_goals first | trivial | assumption | omega | (show 0 ≤ sz; omega) | (show sz ≤ 1000000; omega) | exact decide_eq_false g5_3 | exact decide_eq_false g5_10 | exact decide_eq_false g5_15 | exact decide_eq_false g5_20
              refine sw_cond rfl (fun c5 => ?_) (fun c5 => ?_)
              · skip
                have hsz : sizeV d ((sz, sm, pl) : Ptr_) = false := by
                  have h : (!decide ((pl.length : Int) = colsV sz + 1)) = true := c5
                  simp [sizeV] at h ⊢; intros; omega
                refine sw_seq ?_
                refine sw_region hP 5 [] rfl (by kernel_rfl) (fun _ => by kernel_rfl) (by first | trivial | (simp [conj]; done) | (simp [conj] at *; (try dsimp only [Ty.den, Ty.dflt] at *); omega)) ?_
                refine sw_ret ⟨.inl rfl, _, rfl, ?_⟩
                simp [conj, ptrV, c1, c3, hsz]
              · skip
                have hsz : sizeV d ((sz, sm, pl) : Ptr_) = true := by
                  have h : (!decide ((pl.length : Int) = colsV sz + 1)) = false := c5
                  simp [sizeV, inV] at h ⊢; omega
                refine sw_skip ?_
                refine sw_seq ?_
                refine sw_seq ?_
                refine sw_region hP 5 [] rfl (by kernel_rfl) (fun _ => by kernel_rfl) (by first | trivial | (simp [conj]; done) | (simp [conj] at *; (try dsimp only [Ty.den, Ty.dflt] at *); omega)) ?_
                refine sw_block ?_
                refine sw_loop (ι := Nat) (fun i => ⟨[sInt .i64 d, .junk, .junk, .v false [.ptr ⟨1, 0, 0⟩ 0], .junk, .junk, .junk, .junk, .junk, .junk, .junk, .junk, .junk, .junk, .junk, .junk, .junk, .junk, .junk, .junk, .junk, .junk, .junk, .junk, .junk, .junk, .junk, .junk, .junk, .junk, .junk, .junk, .junk, .junk, .junk, .junk, .junk, .junk, .junk, .junk, .junk, .junk, .junk, .v false [.d (.sl T_Place) (.all .b) pl], sInt .i64 (pl.length : Int), sInt .i64 (i : Int), .junk, .junk, .junk, .junk, .junk, .junk, .junk, .junk, .junk, .junk, .junk, .junk, .junk, .junk, .junk, .junk, .junk], [(⟨1, 0, 0⟩, .var [.d TI pF sz, .d TI pF sm, .d (.sl T_Place) (.all .b) pl])], 5, []⟩) (fun i => pl.length - i) (fun i => i ≤ pl.length ∧ chkGo (placeF d) (pl.take i) (pl.drop i) = chk (placeF d) pl) 0 ⟨?_, ?_⟩ ?_
                · skip
                  exact ⟨Nat.zero_le _, rfl⟩
                · refine ent_ok rfl ?_
                  simp [conj]
                · rintro i ⟨hi, hgo⟩
                  refine sw_seq ?_
                  refine sw_region hP 6 [] rfl (by kernel_rfl) (fun _ => by kernel_rfl) (by first | trivial | (simp [conj]; done) | (simp [conj] at *; (try dsimp only [Ty.den, Ty.dflt] at *); omega)) ?_
                  refine sw_seq ?_
                  refine sw_cond rfl (fun c8 => ?_) (fun c8 => ?_)
                  · skip
                    have hlt : i < pl.length := by simpa using c8
                    refine sw_skip ?_
                    refine sw_seq ?_
                    refine sw_block ?_
                    refine sw_seq ?_
                    refine sw_region hP 7 [] rfl (by kernel_rfl) (fun _ => by kernel_rfl) (by first | trivial | (simp [conj]; done) | (simp [conj] at *; (try dsimp only [Ty.den, Ty.dflt] at *); omega)) ?_
                    refine sw_seq ?_
                    refine sw_dec hP 8 [] 4 rfl (fun g10_4 => ?_) (fun g10_4 => ?_)
                    · skip
                      replace g10_4 : placeV d pl[i] = false := by simpa [List.getElem?_eq_getElem hlt] using g10_4
                      have hf : placeF d (pl.take i) pl[i] = false := by simp [placeF, g10_4]
                      refine sw_region hP 8 [(4, true)] rfl (by kernel_rfl) (fun _ => by kernel_rfl) ?_ ?_
                      · skip
                        simp [conj, List.getElem?_eq_getElem hlt]
                        repeat' apply And.intro
                        all_goals first | trivial | assumption | omega
                      refine sw_condT rfl ?_
                      refine sw_seq ?_
                      refine sw_region hP 9 [] rfl (by kernel_rfl) (fun _ => by kernel_rfl) (by first | trivial | (simp [conj]; done) | (simp [conj] at *; (try dsimp only [Ty.den, Ty.dflt] at *); omega)) ?_
                      refine sw_ret ⟨.inl rfl, _, rfl, ?_⟩
                      have hv := chk_hit hlt hgo hf
                      simp [conj, ptrV, c1, c3, hsz, hv]
                    · skip
                      replace g10_4 : placeV d pl[i] = true := by simpa [List.getElem?_eq_getElem hlt] using g10_4
                      refine sw_region hP 8 [(4, false)] rfl (by kernel_rfl) (fun _ => by kernel_rfl) ?_ ?_
                      · skip
                        simp [conj, List.getElem?_eq_getElem hlt]
                        repeat' apply And.intro
                        all_goals first | trivial | assumption | omega
                      refine sw_cond rfl (fun c10 => ?_) (fun c10 => ?_)
                      · skip
                        have hf : placeF d (pl.take i) pl[i] = false := by
                          have h : (pl.take i).any (fun q => decide (q.1 = pl[i].1)) = true := by simpa [List.getElem?_eq_getElem hlt] using c10
                          unfold placeF; rw [h]; simp
                        refine sw_seq ?_
                        refine sw_region hP 9 [] rfl (by kernel_rfl) (fun _ => by kernel_rfl) (by first | trivial | (simp [conj]; done) | (simp [conj] at *; (try dsimp only [Ty.den, Ty.dflt] at *); omega)) ?_
                        refine sw_ret ⟨.inl rfl, _, rfl, ?_⟩
                        have hv := chk_hit hlt hgo hf
                        simp [conj, ptrV, c1, c3, hsz, hv]
                      · skip
                        have hf : placeF d (pl.take i) pl[i] = true := by
                          have h : (pl.take i).any (fun q => decide (q.1 = pl[i].1)) = false := by simpa [List.getElem?_eq_getElem hlt] using c10
                          unfold placeF; rw [h, g10_4]; rfl
                        refine sw_skip ?_
                        refine sw_region hP 9 [] rfl (by kernel_rfl) (fun _ => by kernel_rfl) (by first | trivial | (simp [conj]; done) | (simp [conj] at *; (try dsimp only [Ty.den, Ty.dflt] at *); omega)) ?_
                        refine ⟨i + 1, ?_, ?_, ent_ok rfl ?_⟩
                        · skip
                          exact ⟨hlt, chk_next hlt hgo hf⟩
                        · skip
                          omega
                        · skip
                          simp [conj]
                  · skip
                    obtain rfl : i = pl.length := by simp at c8; omega
                    refine sw_exit ?_
                    refine sw_seq ?_
                    refine sw_region hP 7 [] rfl (by kernel_rfl) (fun _ => by kernel_rfl) (by first | trivial | (simp [conj]; done) | (simp [conj] at *; (try dsimp only [Ty.den, Ty.dflt] at *); omega)) ?_
                    refine sw_ret ⟨.inl rfl, _, rfl, ?_⟩
                    have hv := chk_end hgo
                    simp [conj, ptrV, c1, c3, hsz, hv]
end Go.Sx

/- What the kit's walks say, as contracts of Sx: isVolName. -/
namespace Go.Sx
open Go Go.RowKit
theorem volOk_eq (s : Str) : Proofs.volOk (mkS s) = nameV s := by
  have h : (mkS s).size = s.length := rfl
  have h2 : (mkS s).data.toList = s := rfl
  unfold Proofs.volOk nameV inV
  rw [h, h2, show (fun c : UInt8 => decide (97 ≤ c.toNat) && decide (c.toNat ≤ 122)) = lower from rfl]
  congr 1
  cases s with
  | nil => rfl
  | cons a l =>
    have e1 : ((a :: l).length == 0) = false := rfl
    rw [e1]
    simp only [Bool.not_false, Bool.true_and, List.length_cons]
    have e2 : decide ((1 : Int) ≤ ((l.length + 1 : Nat) : Int)) = true := by simp; omega
    rw [e2, Bool.true_and]
    exact decide_eq_decide.2 (by omega)
/-- a contract from a walk by the kit's own means, where nothing that lay has turned -/
theorem ctr_of_below {P : Program} {c : Ctr} {fn : Func} {body : Code} (hf : P.funcs[c.f]? = some fn) (hb : fn.body = some body) (hn : (fn.name == "runtime.NumGoroutine") = false) (href : noRefs c.ins = true)
    (h : ∀ G w args x, (∀ b, G.g b ≠ .no → b < w.heap.size) → Amb P G.g w → ArgsOk G w 0 c.ins x args → c.pre x → Calls P c.f args.toArray w fun e w' => ∃ v, e = .returned v ∧ Below w.heap.size w w' ∧ (∀ G', MtS G' w' (c.post x).1 v) ∧ (c.post x).2 = []) : CtrOk P c := by
  intro G w args x hbnd ham hargs hpre
  have hrun : (callFunc c.f args.toArray).run P w = .ok (.enter c.f args.toArray) w := by
    have hn' : ¬ fn.name = "runtime.NumGoroutine" := by simpa using hn
    simp [callFunc, hf, hn', hb]
  refine ⟨_, _, hrun, .inr (.inl ⟨rfl, ?_⟩)⟩
  intro cs
  obtain ⟨e, w', fr, ⟨v, rfl, hB, hm, hp⟩, h1, h2, h3⟩ := h G w args x hbnd ham hargs hpre cs
  refine ⟨_, w', fr, ?_, h1, h2, h3⟩
  let G' : Gh := ⟨fun _ => .bool false, G.g⟩
  have hk : ∀ b, G.g b ≠ .no → w'.heap[b]? = w.heap[b]? := fun b hb => hB.block b (hbnd b hb)
  refine ⟨G', ⟨fun _ h => h.elim, ⟨fun b hb => ⟨hb, hk b (by rw [hb]; simp)⟩, fun b hb => ⟨hb, hk b (by rw [hb]; simp)⟩⟩, fun b j q hg _ => ⟨hg, hk b (by rw [hg]; simp)⟩, fun b hlt hb => ⟨hB.block b hlt, hb⟩, fun b hb => Nat.lt_of_lt_of_le (hbnd b hb) hB.size, fun _ _ => rfl, hB.os, hB.tape, hB.output, hB.size⟩, fun _ => rfl, ?_, hm G', ?_⟩
  · rw [noRefs_ptr href]; intro p hp; cases hp
  · rw [hp]; intro i R hi; cases hi
def cVol : Ctr := ⟨48, [.val false .str pF], fun _ => True, fun x => (sBool (nameV x.1), [])⟩
theorem cVol_ok : CtrOk Proofs.Tryd.prog cVol := by
  refine ctr_of_below (fn := Proofs.Tryd.f48) Proofs.Tryd.func48 rfl rfl rfl ?_
  rintro G w args ⟨(s : Str), ⟨⟩⟩ _ _ ⟨v, vs, rfl, ⟨_, cs, rfl, _, ⟨rfl, hl⟩⟩, rfl⟩ _
  have h := Proofs.vol48_in Fence.wide 3 trivial trivial trivial rfl (Nat.le_refl _) (mkS s) (by exact hl) w
  refine (callsIn_wide.1 h).mono ?_
  rintro e w' ⟨rfl, hB⟩
  refine ⟨_, rfl, hB, fun G' => ?_, rfl⟩
  rw [volOk_eq]
  exact MtS.ofBool
end Go.Sx

namespace Go.Sx
open Go
set_option maxRecDepth 100000
set_option linter.unusedVariables false
set_option linter.unusedSimpArgs false
set_option maxHeartbeats 2000000

def cVols1 : Ctr := ⟨50, [.val true T_Vol (.all .b), .rp T_Vol (.all .b)], fun x => True, fun x => (sBool (decide ((x.1.1 : Str) = x.2.1.1)), [])⟩
theorem cVols1_ok : CtrOk Proofs.Tryd.prog cVols1 := by
  have hP := (Prg.none ttok mtok)
  refine ctr_of_body hP cVols1 (fn := Proofs.Tryd.f50) (rts := [.tmp 3]) Proofs.Tryd.func50 rfl (by kernel_rfl) rfl rfl ?_
  rintro ⟨⟨(a : Str), (b : List Ptr_)⟩, ⟨(c : Str), (e : List Ptr_)⟩, ⟨⟩⟩ _ hpre
  try dsimp only [Ty.den, Mode.den, mdens] at hpre
  refine ⟨rfl, ?_⟩
  refine sw_seq ?_
  refine sw_region hP 1 [] rfl (by kernel_rfl) (fun _ => by kernel_rfl) (by first | trivial | (simp [conj]; done) | (simp [conj] at *; (try dsimp only [Ty.den, Ty.dflt] at *); omega)) ?_
  refine sw_seq ?_
  refine sw_region hP 2 [] rfl (by kernel_rfl) (fun _ => by kernel_rfl) (by first | trivial | (simp [conj]; done) | (simp [conj] at *; (try dsimp only [Ty.den, Ty.dflt] at *); omega)) ?_
  refine sw_ret ⟨.inl rfl, _, rfl, ?_⟩
  simp [conj]

def cVols2 : Ctr := ⟨52, [.val true T_Ptr (.all .b), .rp TI pF], fun x => True, fun x => (sBool (!ptrV x.2.1 x.1), [])⟩
theorem cVols2_ok : CtrOk Proofs.Tryd.prog cVols2 := by
  have hP := ((Prg.none ttok mtok).and cPtrOk_ok)
  refine ctr_of_body hP cVols2 (fn := Proofs.Tryd.f52) (rts := [.tmp 3]) Proofs.Tryd.func52 rfl (by kernel_rfl) rfl rfl ?_
  rintro ⟨⟨(sz : Int), (sm : Int), (pl : List Plc)⟩, (d : Int), ⟨⟩⟩ _ hpre
  try dsimp only [Ty.den, Mode.den, mdens] at hpre
  refine ⟨rfl, ?_⟩
  refine sw_seq ?_
  refine sw_region hP 1 [] rfl (by kernel_rfl) (fun _ => by kernel_rfl) (by first | trivial | (simp [conj]; done) | (simp [conj] at *; (try dsimp only [Ty.den, Ty.dflt] at *); omega)) ?_
  refine sw_seq ?_
  refine sw_region hP 2 [] rfl (by kernel_rfl) (fun _ => by kernel_rfl) ?_ ?_
  · skip
    simp [conj, maxL]
    try dsimp only [Ty.den, Ty.dflt]
    try simp only [rd_eta]
    repeat' apply And.intro
    all_goals first | rfl | assumption | omega | trivial
  refine sw_ret ⟨.inl rfl, _, rfl, ?_⟩
  simp [conj]

def cIdxV1 : Ctr := ⟨73, [.val false (.sl T_Vol) (.all .b), .clo 50 [(false, T_Vol, (.all .b))]], fun _ => True, fun x => (sInt .i64 (idxF (fun w : Vol_ => decide (w.1 = x.2.1.1.1)) x.1), [])⟩
theorem cIdxV1_ok : CtrOk Proofs.Tryd.prog cIdxV1 := by
  have hP := ((Prg.none ttok mtok).and cVols1_ok)
  refine ctr_of_body hP cIdxV1 (fn := Proofs.Tryd.f73) (rts := [.tmp 4]) Proofs.Tryd.func73 rfl (by kernel_rfl) rfl rfl ?_
  rintro ⟨(l : List Vol_), ⟨(y : Vol_), ⟨⟩⟩, ⟨⟩⟩ ⟨hdl, _⟩ hpre
  try dsimp only [Ty.den, Mode.den, mdens] at hpre
  refine ⟨rfl, ?_⟩
  have hml : l.length ≤ 140737488355328 := hdl.1
  refine sw_seq ?_
  refine sw_region hP 1 [] rfl (by kernel_rfl) (fun _ => by kernel_rfl) (by first | trivial | (simp [conj]; done) | (simp [conj] at *; (try dsimp only [Ty.den, Ty.dflt] at *); omega)) ?_
  refine sw_seq ?_
  refine sw_seq ?_
  refine sw_region hP 2 [] rfl (by kernel_rfl) (fun _ => by kernel_rfl) (by first | trivial | (simp [conj]; done) | (simp [conj] at *; (try dsimp only [Ty.den, Ty.dflt] at *); omega)) ?_
  refine sw_block ?_
  refine sw_loop (ι := Nat) (fun i => ⟨[.v false [.d (.sl T_Vol) (.all .b) l], .fn 50 [.rpt .b T_Vol (.all .b) y], .junk, .junk, .junk, .junk, .junk, sInt .i64 (l.length : Int), sInt .i64 (i : Int), .junk, .junk, .junk, .junk, .junk, .junk, .junk, .junk, .junk, .junk], [], 2, []⟩) (fun i => l.length - i) (fun i => i ≤ l.length ∧ idxFGo (fun w : Vol_ => decide (w.1 = y.1)) (l.drop i) i = idxF (fun w : Vol_ => decide (w.1 = y.1)) l) 0 ⟨?_, ?_⟩ ?_
  · skip
    exact ⟨Nat.zero_le _, rfl⟩
  · refine ent_ok rfl ?_
    first | trivial | (simp [conj]; done) | (simp [conj] at *; (try dsimp only [Ty.den, Ty.dflt] at *); omega)
  · rintro i ⟨hi, hgo⟩
    refine sw_seq ?_
    refine sw_region hP 3 [] rfl (by kernel_rfl) (fun _ => by kernel_rfl) (by first | trivial | (simp [conj]; done) | (simp [conj] at *; (try dsimp only [Ty.den, Ty.dflt] at *); omega)) ?_
    refine sw_seq ?_
    refine sw_cond rfl (fun c2 => ?_) (fun c2 => ?_)
    · skip
      have hlt : i < l.length := by simpa using c2
      refine sw_skip ?_
      refine sw_seq ?_
      refine sw_block ?_
      refine sw_seq ?_
      refine sw_region hP 4 [] rfl (by kernel_rfl) (fun _ => by kernel_rfl) (by first | trivial | (simp [conj]; done) | (simp [conj] at *; (try dsimp only [Ty.den, Ty.dflt] at *); omega)) ?_
      refine sw_seq ?_
      refine sw_region hP 5 [] rfl (by kernel_rfl) (fun _ => by kernel_rfl) ?_ ?_
      · skip
        simp [conj, maxL]
        try dsimp only [Ty.den, Ty.dflt]
        try simp only [rd_eta]
        repeat' apply And.intro
        all_goals first | assumption | omega | exact trivial
      refine sw_cond rfl (fun c4 => ?_) (fun c4 => ?_)
      · skip
        replace c4 : (fun w : Vol_ => decide (w.1 = y.1)) l[i] = true := by simpa [List.getElem?_eq_getElem hlt] using c4
        refine sw_seq ?_
        refine sw_region hP 6 [] rfl (by kernel_rfl) (fun _ => by kernel_rfl) (by first | trivial | (simp [conj]; done) | (simp [conj] at *; (try dsimp only [Ty.den, Ty.dflt] at *); omega)) ?_
        refine sw_ret ⟨.inl rfl, _, rfl, ?_⟩
        simp [conj, idxF_hit hlt hgo c4]
      · skip
        replace c4 : (fun w : Vol_ => decide (w.1 = y.1)) l[i] = false := by simpa [List.getElem?_eq_getElem hlt] using c4
        refine sw_skip ?_
        refine sw_region hP 6 [] rfl (by kernel_rfl) (fun _ => by kernel_rfl) (by first | trivial | (simp [conj]; done) | (simp [conj] at *; (try dsimp only [Ty.den, Ty.dflt] at *); omega)) ?_
        refine ⟨i + 1, ?_, ?_, ent_ok rfl ?_⟩
        · skip
          exact ⟨hlt, idxF_next hlt hgo c4⟩
        · skip
          omega
        · skip
          simp [conj, maxL]
          try dsimp only [Ty.den, Ty.dflt]
          try simp only [rd_eta]
          repeat' apply And.intro
          all_goals first | rfl | assumption | omega
    · skip
      obtain rfl : i = l.length := by simp at c2; omega
      refine sw_exit ?_
      refine sw_seq ?_
      refine sw_region hP 4 [] rfl (by kernel_rfl) (fun _ => by kernel_rfl) (by first | trivial | (simp [conj]; done) | (simp [conj] at *; (try dsimp only [Ty.den, Ty.dflt] at *); omega)) ?_
      refine sw_ret ⟨.inl rfl, _, rfl, ?_⟩
      simp [conj, idxF_end hgo]

def cContV1 : Ctr := ⟨49, [.val false (.sl T_Vol) (.all .b), .clo 50 [(false, T_Vol, (.all .b))]], fun _ => True, fun x => (sBool (List.any x.1 (fun w : Vol_ => decide (w.1 = x.2.1.1.1))), [])⟩
theorem cContV1_ok : CtrOk Proofs.Tryd.prog cContV1 := by
  have hP := ((Prg.none ttok mtok).and cIdxV1_ok)
  refine ctr_of_body hP cContV1 (fn := Proofs.Tryd.f49) (rts := [.tmp 4]) Proofs.Tryd.func49 rfl (by kernel_rfl) rfl rfl ?_
  rintro ⟨(l : List Vol_), ⟨(y : Vol_), ⟨⟩⟩, ⟨⟩⟩ _ hpre
  try dsimp only [Ty.den, Mode.den, mdens] at hpre
  refine ⟨rfl, ?_⟩
  refine sw_seq ?_
  refine sw_region hP 1 [] rfl (by kernel_rfl) (fun _ => by kernel_rfl) (by first | trivial | (simp [conj]; done) | (simp [conj] at *; (try dsimp only [Ty.den, Ty.dflt] at *); omega)) ?_
  refine sw_seq ?_
  refine sw_region hP 2 [] rfl (by kernel_rfl) (fun _ => by kernel_rfl) (by first | trivial | (simp [conj]; done) | (simp [conj] at *; (try dsimp only [Ty.den, Ty.dflt] at *); omega)) ?_
  refine sw_ret ⟨.inl rfl, _, rfl, ?_⟩
  simp [conj]
  exact idxF_any

def cIdxV2 : Ctr := ⟨74, [.val false (.sl T_Ptr) (.all .b), .clo 52 [(false, TI, pF)]], fun _ => True, fun x => (sInt .i64 (idxF (fun p : Ptr_ => !ptrV x.2.1.1 p) x.1), [])⟩
theorem cIdxV2_ok : CtrOk Proofs.Tryd.prog cIdxV2 := by
  have hP := ((Prg.none ttok mtok).and cVols2_ok)
  refine ctr_of_body hP cIdxV2 (fn := Proofs.Tryd.f74) (rts := [.tmp 4]) Proofs.Tryd.func74 rfl (by kernel_rfl) rfl rfl ?_
  rintro ⟨(l : List Ptr_), ⟨(y : Int), ⟨⟩⟩, ⟨⟩⟩ ⟨hdl, _⟩ hpre
  try dsimp only [Ty.den, Mode.den, mdens] at hpre
  refine ⟨rfl, ?_⟩
  have hml : l.length ≤ 140737488355328 := hdl.1
  refine sw_seq ?_
  refine sw_region hP 1 [] rfl (by kernel_rfl) (fun _ => by kernel_rfl) (by first | trivial | (simp [conj]; done) | (simp [conj] at *; (try dsimp only [Ty.den, Ty.dflt] at *); omega)) ?_
  refine sw_seq ?_
  refine sw_seq ?_
  refine sw_region hP 2 [] rfl (by kernel_rfl) (fun _ => by kernel_rfl) (by first | trivial | (simp [conj]; done) | (simp [conj] at *; (try dsimp only [Ty.den, Ty.dflt] at *); omega)) ?_
  refine sw_block ?_
  refine sw_loop (ι := Nat) (fun i => ⟨[.v false [.d (.sl T_Ptr) (.all .b) l], .fn 52 [.rpt .b TI pF y], .junk, .junk, .junk, .junk, .junk, sInt .i64 (l.length : Int), sInt .i64 (i : Int), .junk, .junk, .junk, .junk, .junk, .junk, .junk, .junk, .junk, .junk], [], 2, []⟩) (fun i => l.length - i) (fun i => i ≤ l.length ∧ idxFGo (fun p : Ptr_ => !ptrV y p) (l.drop i) i = idxF (fun p : Ptr_ => !ptrV y p) l) 0 ⟨?_, ?_⟩ ?_
  · skip
    exact ⟨Nat.zero_le _, rfl⟩
  · refine ent_ok rfl ?_
    first | trivial | (simp [conj]; done) | (simp [conj] at *; (try dsimp only [Ty.den, Ty.dflt] at *); omega)
  · rintro i ⟨hi, hgo⟩
    refine sw_seq ?_
    refine sw_region hP 3 [] rfl (by kernel_rfl) (fun _ => by kernel_rfl) (by first | trivial | (simp [conj]; done) | (simp [conj] at *; (try dsimp only [Ty.den, Ty.dflt] at *); omega)) ?_
    refine sw_seq ?_
    refine sw_cond rfl (fun c2 => ?_) (fun c2 => ?_)
    · skip
      have hlt : i < l.length := by simpa using c2
      refine sw_skip ?_
      refine sw_seq ?_
      refine sw_block ?_
      refine sw_seq ?_
      refine sw_region hP 4 [] rfl (by kernel_rfl) (fun _ => by kernel_rfl) (by first | trivial | (simp [conj]; done) | (simp [conj] at *; (try dsimp only [Ty.den, Ty.dflt] at *); omega)) ?_
      refine sw_seq ?_
      refine sw_region hP 5 [] rfl (by kernel_rfl) (fun _ => by kernel_rfl) ?_ ?_
      · skip
        simp [conj, maxL]
        try dsimp only [Ty.den, Ty.dflt]
        try simp only [rd_eta]
        repeat' apply And.intro
        all_goals first | assumption | omega | exact trivial
      refine sw_cond rfl (fun c4 => ?_) (fun c4 => ?_)
      · skip
        replace c4 : (fun p : Ptr_ => !ptrV y p) l[i] = true := by simpa [List.getElem?_eq_getElem hlt] using c4
        refine sw_seq ?_
        refine sw_region hP 6 [] rfl (by kernel_rfl) (fun _ => by kernel_rfl) (by first | trivial | (simp [conj]; done) | (simp [conj] at *; (try dsimp only [Ty.den, Ty.dflt] at *); omega)) ?_
        refine sw_ret ⟨.inl rfl, _, rfl, ?_⟩
        simp [conj, idxF_hit hlt hgo c4]
      · skip
        replace c4 : (fun p : Ptr_ => !ptrV y p) l[i] = false := by simpa [List.getElem?_eq_getElem hlt] using c4
        refine sw_skip ?_
        refine sw_region hP 6 [] rfl (by kernel_rfl) (fun _ => by kernel_rfl) (by first | trivial | (simp [conj]; done) | (simp [conj] at *; (try dsimp only [Ty.den, Ty.dflt] at *); omega)) ?_
        refine ⟨i + 1, ?_, ?_, ent_ok rfl ?_⟩
        · skip
          exact ⟨hlt, idxF_next hlt hgo c4⟩
        · skip
          omega
        · skip
          simp [conj, maxL]
          try dsimp only [Ty.den, Ty.dflt]
          try simp only [rd_eta]
          repeat' apply And.intro
          all_goals first | rfl | assumption | omega
    · skip
      obtain rfl : i = l.length := by simp at c2; omega
      refine sw_exit ?_
      refine sw_seq ?_
      refine sw_region hP 4 [] rfl (by kernel_rfl) (fun _ => by kernel_rfl) (by first | trivial | (simp [conj]; done) | (simp [conj] at *; (try dsimp only [Ty.den, Ty.dflt] at *); omega)) ?_
      refine sw_ret ⟨.inl rfl, _, rfl, ?_⟩
      simp [conj, idxF_end hgo]

def cContV2 : Ctr := ⟨51, [.val false (.sl T_Ptr) (.all .b), .clo 52 [(false, TI, pF)]], fun _ => True, fun x => (sBool (List.any x.1 (fun p : Ptr_ => !ptrV x.2.1.1 p)), [])⟩
theorem cContV2_ok : CtrOk Proofs.Tryd.prog cContV2 := by
  have hP := ((Prg.none ttok mtok).and cIdxV2_ok)
  refine ctr_of_body hP cContV2 (fn := Proofs.Tryd.f51) (rts := [.tmp 4]) Proofs.Tryd.func51 rfl (by kernel_rfl) rfl rfl ?_
  rintro ⟨(l : List Ptr_), ⟨(y : Int), ⟨⟩⟩, ⟨⟩⟩ _ hpre
  try dsimp only [Ty.den, Mode.den, mdens] at hpre
  refine ⟨rfl, ?_⟩
  refine sw_seq ?_
  refine sw_region hP 1 [] rfl (by kernel_rfl) (fun _ => by kernel_rfl) (by first | trivial | (simp [conj]; done) | (simp [conj] at *; (try dsimp only [Ty.den, Ty.dflt] at *); omega)) ?_
  refine sw_seq ?_
  refine sw_region hP 2 [] rfl (by kernel_rfl) (fun _ => by kernel_rfl) (by first | trivial | (simp [conj]; done) | (simp [conj] at *; (try dsimp only [Ty.den, Ty.dflt] at *); omega)) ?_
  refine sw_ret ⟨.inl rfl, _, rfl, ?_⟩
  simp [conj]
  exact idxF_any

def cVols : Ctr := ⟨25, [.val false TI pF, .val false (.sl T_Vol) (.all .b)], fun x => True, fun x => (sBool (volsV x.1 x.2.1), [])⟩
theorem cVols_ok : CtrOk Proofs.Tryd.prog cVols := by
  have hP := ((((Prg.none ttok mtok).and cVol_ok).and cContV1_ok).and cContV2_ok)
  refine ctr_of_body hP cVols (fn := Proofs.Tryd.f25) (rts := [.tmp 4]) Proofs.Tryd.func25 rfl (by kernel_rfl) rfl rfl ?_
  rintro ⟨(d : Int), (l : List Vol_), ⟨⟩⟩ ⟨_, hl0, _⟩ _
  try dsimp only [Ty.den, Mode.den, mdens] at _
  refine ⟨rfl, ?_⟩
  have hml : l.length ≤ 140737488355328 := hl0.1
  refine sw_seq ?_
  refine sw_region hP 1 [] rfl (by kernel_rfl) (fun _ => by kernel_rfl) (by first | trivial | (simp [conj]; done) | (simp [conj] at *; (try dsimp only [Ty.den, Ty.dflt] at *); omega)) ?_
  refine sw_seq ?_
  refine sw_seq ?_
  refine sw_region hP 2 [] rfl (by kernel_rfl) (fun _ => by kernel_rfl) (by first | trivial | (simp [conj]; done) | (simp [conj] at *; (try dsimp only [Ty.den, Ty.dflt] at *); omega)) ?_
  refine sw_block ?_
  refine sw_loop (ι := Nat) (fun i => ⟨[.junk, .v false [.d (.sl T_Vol) (.all .b) l], .v false [.ptr ⟨1, 0, 0⟩ 0], .junk, .junk, .junk, .junk, .v false [.d (.sl T_Vol) (.all .b) l], sInt .i64 (l.length : Int), sInt .i64 (i : Int), .junk, .junk, .junk, .junk, .junk, .junk, .junk, .junk, .junk, .junk, .junk, .junk, .junk, .junk, .junk, .junk, .junk, .junk, .junk, .junk, .junk, .junk, .junk, .junk, .junk, .junk, .junk, .junk, .junk], [(⟨1, 0, 0⟩, .var [.d TI pF d])], 2, []⟩) (fun i => l.length - i) (fun i => i ≤ l.length ∧ chkGo (volF d) (l.take i) (l.drop i) = chk (volF d) l) 0 ⟨?_, ?_⟩ ?_
  · skip
    exact ⟨Nat.zero_le _, rfl⟩
  · refine ent_ok rfl ?_
    simp [conj]
  · rintro i ⟨hi, hgo⟩
    refine sw_seq ?_
    refine sw_region hP 3 [] rfl (by kernel_rfl) (fun _ => by kernel_rfl) (by first | trivial | (simp [conj]; done) | (simp [conj] at *; (try dsimp only [Ty.den, Ty.dflt] at *); omega)) ?_
    refine sw_seq ?_
    refine sw_cond rfl (fun c2 => ?_) (fun c2 => ?_)
    · skip
      have hlt : i < l.length := by simpa using c2
      have hml2 : l[i].2.length ≤ 140737488355328 := (hl0.2 _ (List.getElem_mem hlt)).2.1
      refine sw_skip ?_
      refine sw_seq ?_
      refine sw_block ?_
      refine sw_seq ?_
      refine sw_region hP 4 [] rfl (by kernel_rfl) (fun _ => by kernel_rfl) (by first | trivial | (simp [conj]; done) | (simp [conj] at *; (try dsimp only [Ty.den, Ty.dflt] at *); omega)) ?_
      refine sw_seq ?_
      refine sw_seq ?_
      refine sw_dec hP 5 [] 4 rfl (fun g4_4 => ?_) (fun g4_4 => ?_)
      · skip
        replace g4_4 : nameV l[i].1 = false := by simpa [List.getElem?_eq_getElem hlt] using g4_4
        have hf : volF d (l.take i) l[i] = false := by simp [volF, g4_4]
        refine sw_region hP 5 [(4, true)] rfl (by kernel_rfl) (fun _ => by kernel_rfl) ?_ ?_
        · skip
          simp [conj, List.getElem?_eq_getElem hlt]
          repeat' apply And.intro
          all_goals first | trivial | assumption | omega
        refine sw_condT rfl ?_
        refine sw_seq ?_
        refine sw_region hP 6 [] rfl (by kernel_rfl) (fun _ => by kernel_rfl) (by first | trivial | (simp [conj]; done) | (simp [conj] at *; (try dsimp only [Ty.den, Ty.dflt] at *); omega)) ?_
        refine sw_ret ⟨.inl rfl, _, rfl, ?_⟩
        have hv := chk_hit hlt hgo hf
        simp [conj, volsV, hv]
      · skip
        replace g4_4 : nameV l[i].1 = true := by simpa [List.getElem?_eq_getElem hlt] using g4_4
        refine sw_dec hP 5 [(4, false)] 10 rfl (fun g4_10 => ?_) (fun g4_10 => ?_)
        · skip
          replace g4_10 : ¬ l[i].2.length = 3 := by
            have h := g4_10
            simp [List.getElem?_eq_getElem hlt] at h
            omega
          have hf : volF d (l.take i) l[i] = false := by simp [volF, g4_10]
          refine sw_region hP 5 [(4, false), (10, true)] rfl (by kernel_rfl) (fun _ => by kernel_rfl) ?_ ?_
          · skip
            simp [conj, List.getElem?_eq_getElem hlt]
            repeat' apply And.intro
            all_goals first | trivial | assumption | omega
          refine sw_condT rfl ?_
          refine sw_seq ?_
          refine sw_region hP 6 [] rfl (by kernel_rfl) (fun _ => by kernel_rfl) (by first | trivial | (simp [conj]; done) | (simp [conj] at *; (try dsimp only [Ty.den, Ty.dflt] at *); omega)) ?_
          refine sw_ret ⟨.inl rfl, _, rfl, ?_⟩
          have hv := chk_hit hlt hgo hf
          simp [conj, volsV, hv]
        · skip
          replace g4_10 : l[i].2.length = 3 := by
            have h := g4_10
            simp [List.getElem?_eq_getElem hlt] at h
            omega
          refine sw_region hP 5 [(4, false), (10, false)] rfl (by kernel_rfl) (fun _ => by kernel_rfl) ?_ ?_
          · skip
            simp [conj, List.getElem?_eq_getElem hlt]
            repeat' apply And.intro
            all_goals first | trivial | assumption | omega
          refine sw_cond rfl (fun c4 => ?_) (fun c4 => ?_)
          · skip
            replace c4 : (l.take i).any (fun w => decide (w.1 = l[i].1)) = true := by simpa [List.getElem?_eq_getElem hlt] using c4
            have hf : volF d (l.take i) l[i] = false := by unfold volF; rw [c4]; simp
            refine sw_seq ?_
            refine sw_region hP 6 [] rfl (by kernel_rfl) (fun _ => by kernel_rfl) (by first | trivial | (simp [conj]; done) | (simp [conj] at *; (try dsimp only [Ty.den, Ty.dflt] at *); omega)) ?_
            refine sw_ret ⟨.inl rfl, _, rfl, ?_⟩
            have hv := chk_hit hlt hgo hf
            simp [conj, volsV, hv]
          · skip
            replace c4 : (l.take i).any (fun w => decide (w.1 = l[i].1)) = false := by simpa [List.getElem?_eq_getElem hlt] using c4
            refine sw_skip ?_
            refine sw_seq ?_
            refine sw_region hP 6 [] rfl (by kernel_rfl) (fun _ => by kernel_rfl) ?_ ?_
            · skip
              simp [conj, maxL]
              try dsimp only [Ty.den, Ty.dflt]
              try simp only [rd_eta]
              repeat' apply And.intro
              all_goals first | rfl | assumption | omega | trivial
            refine sw_cond rfl (fun c6 => ?_) (fun c6 => ?_)
            · skip
              replace c6 : l[i].2.any (fun p => !ptrV d p) = true := by simpa [List.getElem?_eq_getElem hlt] using c6
              have hf : volF d (l.take i) l[i] = false := by
                have h : l[i].2.all (ptrV d) = false := by rw [← not_any]; simp [c6]
                simp [volF, h]
              refine sw_seq ?_
              refine sw_region hP 7 [] rfl (by kernel_rfl) (fun _ => by kernel_rfl) (by first | trivial | (simp [conj]; done) | (simp [conj] at *; (try dsimp only [Ty.den, Ty.dflt] at *); omega)) ?_
              refine sw_ret ⟨.inl rfl, _, rfl, ?_⟩
              have hv := chk_hit hlt hgo hf
              simp [conj, volsV, hv]
            · skip
              replace c6 : l[i].2.any (fun p => !ptrV d p) = false := by simpa [List.getElem?_eq_getElem hlt] using c6
              have hf : volF d (l.take i) l[i] = true := by
                have h : l[i].2.all (ptrV d) = true := by rw [← not_any]; simp [c6]
                unfold volF; rw [g4_4, c4, h, g4_10]; rfl
              refine sw_skip ?_
              refine sw_region hP 7 [] rfl (by kernel_rfl) (fun _ => by kernel_rfl) (by first | trivial | (simp [conj]; done) | (simp [conj] at *; (try dsimp only [Ty.den, Ty.dflt] at *); omega)) ?_
              refine ⟨i + 1, ?_, ?_, ent_ok rfl ?_⟩
              · skip
                exact ⟨hlt, chk_next hlt hgo hf⟩
              · skip
                omega
              · skip
                simp [conj]
    · skip
      obtain rfl : i = l.length := by simp at c2; omega
      refine sw_exit ?_
      refine sw_seq ?_
      refine sw_region hP 4 [] rfl (by kernel_rfl) (fun _ => by kernel_rfl) (by first | trivial | (simp [conj]; done) | (simp [conj] at *; (try dsimp only [Ty.den, Ty.dflt] at *); omega)) ?_
      refine sw_ret ⟨.inl rfl, _, rfl, ?_⟩
      have hv := chk_end hgo
      simp [conj, volsV, hv]
      try omega

def cEqPl : Ctr := ⟨53, [.val false (.sl T_Place) (.all .b), .val false (.sl T_Place) (.all .b)], fun x => True, fun x => (sBool (decide ((x.1 : List Plc) = x.2.1)), [])⟩
theorem cEqPl_ok : CtrOk Proofs.Tryd.prog cEqPl := by
  have hP := (Prg.none ttok mtok)
  refine ctr_of_body hP cEqPl (fn := Proofs.Tryd.f53) (rts := [.tmp 4]) Proofs.Tryd.func53 rfl (by kernel_rfl) rfl rfl ?_
  rintro ⟨(a : List Plc), (b : List Plc), ⟨⟩⟩ ⟨hda, hdb, _⟩ _
  try dsimp only [Ty.den, Mode.den, mdens] at _
  refine ⟨rfl, ?_⟩
  have hml : a.length ≤ 140737488355328 := hda.1
  have hmb : b.length ≤ 140737488355328 := hdb.1
  refine sw_seq ?_
  refine sw_region hP 1 [] rfl (by kernel_rfl) (fun _ => by kernel_rfl) (by first | trivial | (simp [conj]; done) | (simp [conj] at *; (try dsimp only [Ty.den, Ty.dflt] at *); omega)) ?_
  refine sw_seq ?_
  refine sw_seq ?_
  refine sw_region hP 2 [] rfl (by kernel_rfl) (fun _ => by kernel_rfl) (by first | trivial | (simp [conj]; done) | (simp [conj] at *; (try dsimp only [Ty.den, Ty.dflt] at *); omega)) ?_
  refine sw_cond rfl (fun c1 => ?_) (fun c1 => ?_)
  · skip
    replace c1 : ¬ a.length = b.length := by simp at c1; omega
    refine sw_seq ?_
    refine sw_region hP 3 [] rfl (by kernel_rfl) (fun _ => by kernel_rfl) (by first | trivial | (simp [conj]; done) | (simp [conj] at *; (try dsimp only [Ty.den, Ty.dflt] at *); omega)) ?_
    refine sw_ret ⟨.inl rfl, _, rfl, ?_⟩
    have hv := eqL_len c1
    simp [conj, hv]
  · skip
    replace c1 : a.length = b.length := by simp at c1; omega
    refine sw_skip ?_
    refine sw_seq ?_
    refine sw_seq ?_
    refine sw_region hP 3 [] rfl (by kernel_rfl) (fun _ => by kernel_rfl) (by first | trivial | (simp [conj]; done) | (simp [conj] at *; (try dsimp only [Ty.den, Ty.dflt] at *); omega)) ?_
    refine sw_block ?_
    refine sw_loop (ι := Nat) (fun i => ⟨[.v false [.d (.sl T_Place) (.all .b) a], .v false [.d (.sl T_Place) (.all .b) b], .junk, .junk, .junk, .junk, .junk, .junk, .junk, .junk, .junk, .junk, sInt .i64 (a.length : Int), sInt .i64 (i : Int), .junk, .junk, .junk, .junk, .junk, .junk, .junk, .junk, .junk, .junk, .junk, .junk], [], 3, []⟩) (fun i => a.length - i) (fun i => i ≤ a.length ∧ decide (a.drop i = b.drop i) = decide (a = b)) 0 ⟨?_, ?_⟩ ?_
    · skip
      exact ⟨Nat.zero_le _, rfl⟩
    · refine ent_ok rfl ?_
      first | trivial | (simp [conj]; done) | (simp [conj] at *; (try dsimp only [Ty.den, Ty.dflt] at *); omega)
    · rintro i ⟨hi, hgo⟩
      refine sw_seq ?_
      refine sw_region hP 4 [] rfl (by kernel_rfl) (fun _ => by kernel_rfl) (by first | trivial | (simp [conj]; done) | (simp [conj] at *; (try dsimp only [Ty.den, Ty.dflt] at *); omega)) ?_
      refine sw_seq ?_
      refine sw_cond rfl (fun c4 => ?_) (fun c4 => ?_)
      · skip
        have hlt : i < a.length := by simpa using c4
        have hlt2 : i < b.length := by omega
        refine sw_skip ?_
        refine sw_seq ?_
        refine sw_block ?_
        refine sw_seq ?_
        refine sw_region hP 5 [] rfl (by kernel_rfl) (fun _ => by kernel_rfl) (by first | trivial | (simp [conj]; done) | (simp [conj] at *; (try dsimp only [Ty.den, Ty.dflt] at *); omega)) ?_
        refine sw_seq ?_
        refine sw_region hP 6 [] rfl (by kernel_rfl) (fun _ => by kernel_rfl) ?_ ?_
        · skip
          simp [conj, List.getElem?_eq_getElem hlt, List.getElem?_eq_getElem hlt2]
          try exact ⟨hlt, hlt2⟩
        refine sw_cond rfl (fun c6 => ?_) (fun c6 => ?_)
        · skip
          replace c6 : ¬ a[i] = b[i] := by intro e; simp [List.getElem?_eq_getElem hlt, List.getElem?_eq_getElem hlt2, e] at c6
          refine sw_seq ?_
          refine sw_region hP 7 [] rfl (by kernel_rfl) (fun _ => by kernel_rfl) (by first | trivial | (simp [conj]; done) | (simp [conj] at *; (try dsimp only [Ty.den, Ty.dflt] at *); omega)) ?_
          refine sw_ret ⟨.inl rfl, _, rfl, ?_⟩
          have hv := eqL_hit hlt hlt2 hgo c6
          simp [conj, hv]
        · skip
          replace c6 : a[i] = b[i] := by have h := c6; simp [List.getElem?_eq_getElem hlt, List.getElem?_eq_getElem hlt2] at h; exact Prod.ext h.1 h.2
          refine sw_skip ?_
          refine sw_region hP 7 [] rfl (by kernel_rfl) (fun _ => by kernel_rfl) (by first | trivial | (simp [conj]; done) | (simp [conj] at *; (try dsimp only [Ty.den, Ty.dflt] at *); omega)) ?_
          refine ⟨i + 1, ?_, ?_, ent_ok rfl ?_⟩
          · skip
            exact ⟨hlt, eqL_next hlt hlt2 hgo c6⟩
          · skip
            omega
          · skip
            simp [conj]
      · skip
        obtain rfl : i = a.length := by simp at c4; omega
        refine sw_exit ?_
        refine sw_seq ?_
        refine sw_region hP 5 [] rfl (by kernel_rfl) (fun _ => by kernel_rfl) (by first | trivial | (simp [conj]; done) | (simp [conj] at *; (try dsimp only [Ty.den, Ty.dflt] at *); omega)) ?_
        refine sw_ret ⟨.inl rfl, _, rfl, ?_⟩
        have hv := eqL_end c1 hgo
        simp [conj, hv]

def cSame : Ctr := ⟨27, [.val true T_Ptr (.all .b), .val true T_Ptr (.all .b)], fun x => True, fun x => (sBool (decide ((x.1 : Ptr_) = x.2.1)), [])⟩
theorem cSame_ok : CtrOk Proofs.Tryd.prog cSame := by
  have hP := ((Prg.none ttok mtok).and cEqPl_ok)
  refine ctr_of_body hP cSame (fn := Proofs.Tryd.f27) (rts := [.tmp 4]) Proofs.Tryd.func27 rfl (by kernel_rfl) rfl rfl ?_
  rintro ⟨⟨(sz : Int), (sm : Int), (pl : List Plc)⟩, ⟨(sz2 : Int), (sm2 : Int), (pl2 : List Plc)⟩, ⟨⟩⟩ _ _
  try dsimp only [Ty.den, Mode.den, mdens] at _
  refine ⟨rfl, ?_⟩
  refine sw_seq ?_
  refine sw_region hP 1 [] rfl (by kernel_rfl) (fun _ => by kernel_rfl) (by first | trivial | (simp [conj]; done) | (simp [conj] at *; (try dsimp only [Ty.den, Ty.dflt] at *); omega)) ?_
  refine sw_seq ?_
  refine sw_dec hP 2 [] 5 rfl (fun g1_5 => ?_) (fun g1_5 => ?_)
  · skip
    replace g1_5 : sz = sz2 := of_decide_eq_true g1_5
    refine sw_dec hP 2 [(5, true)] 12 rfl (fun g1_12 => ?_) (fun g1_12 => ?_)
    · skip
      replace g1_12 : sm = sm2 := of_decide_eq_true g1_12
      refine sw_region hP 2 [(5, true), (12, true)] rfl (by kernel_rfl) (fun _ => by kernel_rfl) ?_ ?_
      · skip
        simp only [conj, List.nil_append, List.cons_append, List.append_nil, List.append_assoc, inR_i64, true_and, and_true, Int.toNat_natCast]
        try dsimp only [Ty.den, Ty.dflt]
        repeat' apply And.intro
        all_goals first | trivial | assumption | omega | exact decide_eq_true ‹_› | exact decide_eq_false ‹_› | (simp [*]; done)
      refine sw_ret ⟨.inl rfl, _, rfl, ?_⟩
      simp [conj, Prod.ext_iff, *]
    · skip
      replace g1_12 : ¬ sm = sm2 := of_decide_eq_false g1_12
      refine sw_region hP 2 [(5, true), (12, false)] rfl (by kernel_rfl) (fun _ => by kernel_rfl) ?_ ?_
      · skip
        simp only [conj, List.nil_append, List.cons_append, List.append_nil, List.append_assoc, inR_i64, true_and, and_true, Int.toNat_natCast]
        try dsimp only [Ty.den, Ty.dflt]
        repeat' apply And.intro
        all_goals first | trivial | assumption | omega | exact decide_eq_true ‹_› | exact decide_eq_false ‹_› | (simp [*]; done)
      refine sw_ret ⟨.inl rfl, _, rfl, ?_⟩
      simp [conj, Prod.ext_iff, *]
  · skip
    replace g1_5 : ¬ sz = sz2 := of_decide_eq_false g1_5
    refine sw_region hP 2 [(5, false)] rfl (by kernel_rfl) (fun _ => by kernel_rfl) ?_ ?_
    · skip
      simp only [conj, List.nil_append, List.cons_append, List.append_nil, List.append_assoc, inR_i64, true_and, and_true, Int.toNat_natCast]
      try dsimp only [Ty.den, Ty.dflt]
      repeat' apply And.intro
      all_goals first | trivial | assumption | omega | exact decide_eq_true ‹_› | exact decide_eq_false ‹_› | (simp [*]; done)
    refine sw_ret ⟨.inl rfl, _, rfl, ?_⟩
    simp [conj, Prod.ext_iff, *]

def cPtrs : Ctr := ⟨26, [.val true T_Root (.all .b)], fun x => SmallV x.1.2, fun x => (.v false [.own ⟨1, 0, 0⟩], [(⟨1, 0, 0⟩, .sl T_Ptr (.all .b) (blksOf x.1.2))])⟩
theorem cPtrs_ok : CtrOk Proofs.Tryd.prog cPtrs := by
  have hP := (Prg.none ttok mtok)
  refine ctr_of_body hP cPtrs (fn := Proofs.Tryd.f26) (rts := [.tmp 2]) Proofs.Tryd.func26 rfl (by kernel_rfl) rfl rfl ?_
  rintro ⟨⟨(tg : Int), (l : List Vol_)⟩, ⟨⟩⟩ _ hpre
  try dsimp only [Ty.den, Mode.den, mdens] at hpre
  refine ⟨rfl, ?_⟩
  replace hpre : SmallV l := hpre
  have hml : l.length ≤ 100 := hpre.1
  refine sw_seq ?_
  refine sw_region hP 1 [] rfl (by kernel_rfl) (fun _ => by kernel_rfl) (by first | trivial | (simp [conj]; done) | (simp [conj] at *; (try dsimp only [Ty.den, Ty.dflt] at *); omega)) ?_
  refine sw_seq ?_
  refine sw_region hP 2 [] rfl (by kernel_rfl) (fun _ => by kernel_rfl) (by first | trivial | (simp [conj]; done) | (simp [conj] at *; (try dsimp only [Ty.den, Ty.dflt] at *); omega)) ?_
  refine sw_seq ?_
  refine sw_seq ?_
  refine sw_region hP 3 [] rfl (by kernel_rfl) (fun _ => by kernel_rfl) (by first | trivial | (simp [conj]; done) | (simp [conj] at *; (try dsimp only [Ty.den, Ty.dflt] at *); omega)) ?_
  refine sw_block ?_
  refine sw_loop (ι := Nat) (fun i => ⟨[.junk, .v false [.ptr ⟨1, 0, 0⟩ 0], .junk, .v false [.own ⟨0, 9, 0⟩], .junk, .junk, .junk, .v false [.d (.sl T_Vol) (.all .b) l], sInt .i64 (l.length : Int), sInt .i64 (i : Int), .junk, .junk, .junk, .junk, .junk, .junk, .junk, .junk, .junk], [(⟨0, 9, 0⟩, .sl T_Ptr (.all .b) (blksOf (l.take i)))], 3, []⟩) (fun i => l.length - i) (fun i => i ≤ l.length) 0 ⟨?_, ?_⟩ ?_
  · skip
    exact Nat.zero_le _
  · refine ent_ok rfl ?_
    simp [conj, blksOf]
  · rintro i hi
    refine sw_seq ?_
    refine sw_region hP 4 [] rfl (by kernel_rfl) (fun _ => by kernel_rfl) (by first | trivial | (simp [conj]; done) | (simp [conj] at *; (try dsimp only [Ty.den, Ty.dflt] at *); omega)) ?_
    refine sw_seq ?_
    refine sw_cond rfl (fun c3 => ?_) (fun c3 => ?_)
    · skip
      have hlt : i < l.length := by simpa using c3
      have hb1 := blks_len hpre (i := i)
      have hb2 := hpre.2 _ (List.getElem_mem hlt)
      refine sw_skip ?_
      refine sw_seq ?_
      refine sw_block ?_
      refine sw_seq ?_
      refine sw_region hP 5 [] rfl (by kernel_rfl) (fun _ => by kernel_rfl) (by first | trivial | (simp [conj]; done) | (simp [conj] at *; (try dsimp only [Ty.den, Ty.dflt] at *); omega)) ?_
      refine sw_region hP 6 [] rfl (by kernel_rfl) (fun _ => by kernel_rfl) ?_ ?_
      · skip
        simp [conj, maxL, List.getElem?_eq_getElem hlt]
        omega
      refine sw_region hP 7 [] rfl (by kernel_rfl) (fun _ => by kernel_rfl) (by first | trivial | (simp [conj]; done) | (simp [conj] at *; (try dsimp only [Ty.den, Ty.dflt] at *); omega)) ?_
      refine ⟨i + 1, ?_, ?_, ent_ok rfl ?_⟩
      · skip
        exact hlt
      · skip
        omega
      · skip
        simp [conj, List.getElem?_eq_getElem hlt]
        exact flat_next hlt
    · skip
      obtain rfl : i = l.length := by simp at c3; omega
      refine sw_exit ?_
      refine sw_seq ?_
      refine sw_region hP 5 [] rfl (by kernel_rfl) (fun _ => by kernel_rfl) (by first | trivial | (simp [conj]; done) | (simp [conj] at *; (try dsimp only [Ty.den, Ty.dflt] at *); omega)) ?_
      refine sw_ret ⟨.inl rfl, _, rfl, ?_⟩
      simp [conj]

def cRootOk : Ctr := ⟨8, [.val false TI pF, .val true T_Root (.all .b)], fun x => True, fun x => (sBool (rootV x.1 x.2.1), [])⟩
theorem cRootOk_ok : CtrOk Proofs.Tryd.prog cRootOk := by
  have hP := (((((Prg.none ttok mtok).and cPool_ok).and cVols_ok).and cPtrs_ok).and cSame_ok)
  refine ctr_of_body hP cRootOk (fn := Proofs.Tryd.f8) (rts := [.tmp 4]) Proofs.Tryd.func8 rfl (by kernel_rfl) rfl rfl ?_
  rintro ⟨(d : Int), ⟨(tg : Int), (l : List Vol_)⟩, ⟨⟩⟩ ⟨_, ⟨_, hl0⟩, _⟩ _
  try dsimp only [Ty.den, Mode.den, mdens] at _
  refine ⟨rfl, ?_⟩
  have hml : l.length ≤ 140737488355328 := hl0.1
  have hpl0 := blks_pl (l := l) (fun v hv p hp => ((hl0.2 v hv).2.2 p hp).2.2.1)
  refine sw_seq ?_
  refine sw_region hP 1 [] rfl (by kernel_rfl) (fun _ => by kernel_rfl) (by first | trivial | (simp [conj]; done) | (simp [conj] at *; (try dsimp only [Ty.den, Ty.dflt] at *); omega)) ?_
  refine sw_seq ?_
  refine sw_seq ?_
  refine sw_dec hP 2 [] 3 rfl (fun g1_3 => ?_) (fun g1_3 => ?_)
  · skip
    replace g1_3 : poolV d = false := by simpa using g1_3
    refine sw_region hP 2 [(3, true)] rfl (by kernel_rfl) (fun _ => by kernel_rfl) ?_ ?_
    · skip
      simp only [conj, List.nil_append, List.cons_append, List.append_nil, List.append_assoc, inR_i64, true_and, and_true, Int.toNat_natCast]
      try dsimp only [Ty.den, Ty.dflt]
      repeat' apply And.intro
      all_goals first | trivial | assumption | omega | exact decide_eq_true ‹_› | exact decide_eq_false ‹_› | (simp [*]; done)
    refine sw_condT rfl ?_
    refine sw_seq ?_
    refine sw_region hP 3 [] rfl (by kernel_rfl) (fun _ => by kernel_rfl) (by first | trivial | (simp [conj]; done) | (simp [conj] at *; (try dsimp only [Ty.den, Ty.dflt] at *); omega)) ?_
    refine sw_ret ⟨.inl rfl, _, rfl, ?_⟩
    simp [conj, rootV, inV, *]
    try omega
  · skip
    replace g1_3 : poolV d = true := by simpa using g1_3
    refine sw_dec hP 2 [(3, false)] 8 rfl (fun g1_8 => ?_) (fun g1_8 => ?_)
    · skip
      replace g1_8 : tg < 0 := of_decide_eq_true g1_8
      refine sw_region hP 2 [(3, false), (8, true)] rfl (by kernel_rfl) (fun _ => by kernel_rfl) ?_ ?_
      · skip
        simp only [conj, List.nil_append, List.cons_append, List.append_nil, List.append_assoc, inR_i64, true_and, and_true, Int.toNat_natCast]
        try dsimp only [Ty.den, Ty.dflt]
        repeat' apply And.intro
        all_goals first | trivial | assumption | omega | exact decide_eq_true ‹_› | exact decide_eq_false ‹_› | (simp [*]; done)
      refine sw_condT rfl ?_
      refine sw_seq ?_
      refine sw_region hP 3 [] rfl (by kernel_rfl) (fun _ => by kernel_rfl) (by first | trivial | (simp [conj]; done) | (simp [conj] at *; (try dsimp only [Ty.den, Ty.dflt] at *); omega)) ?_
      refine sw_ret ⟨.inl rfl, _, rfl, ?_⟩
      simp [conj, rootV, inV, *]
      try omega
    · skip
      replace g1_8 : ¬ tg < 0 := of_decide_eq_false g1_8
      refine sw_dec hP 2 [(3, false), (8, false)] 13 rfl (fun g1_13 => ?_) (fun g1_13 => ?_)
      · skip
        replace g1_13 : 100000 < tg := of_decide_eq_true g1_13
        refine sw_region hP 2 [(3, false), (8, false), (13, true)] rfl (by kernel_rfl) (fun _ => by kernel_rfl) ?_ ?_
        · skip
          simp only [conj, List.nil_append, List.cons_append, List.append_nil, List.append_assoc, inR_i64, true_and, and_true, Int.toNat_natCast]
          try dsimp only [Ty.den, Ty.dflt]
          repeat' apply And.intro
          all_goals first | trivial | assumption | omega | exact decide_eq_true ‹_› | exact decide_eq_false ‹_› | (simp [*]; done)
        refine sw_condT rfl ?_
        refine sw_seq ?_
        refine sw_region hP 3 [] rfl (by kernel_rfl) (fun _ => by kernel_rfl) (by first | trivial | (simp [conj]; done) | (simp [conj] at *; (try dsimp only [Ty.den, Ty.dflt] at *); omega)) ?_
        refine sw_ret ⟨.inl rfl, _, rfl, ?_⟩
        simp [conj, rootV, inV, *]
        try omega
      · skip
        replace g1_13 : ¬ 100000 < tg := of_decide_eq_false g1_13
        refine sw_region hP 2 [(3, false), (8, false), (13, false)] rfl (by kernel_rfl) (fun _ => by kernel_rfl) ?_ ?_
        · skip
          simp only [conj, List.nil_append, List.cons_append, List.append_nil, List.append_assoc, inR_i64, true_and, and_true, Int.toNat_natCast]
          try dsimp only [Ty.den, Ty.dflt]
          repeat' apply And.intro
          all_goals first | trivial | assumption | omega | exact decide_eq_true ‹_› | exact decide_eq_false ‹_› | (simp [*]; done)
        refine sw_cond rfl (fun c1 => ?_) (fun c1 => ?_)
        · skip
          replace c1 : volsV d l = false := by simpa using c1
          refine sw_seq ?_
          refine sw_region hP 3 [] rfl (by kernel_rfl) (fun _ => by kernel_rfl) (by first | trivial | (simp [conj]; done) | (simp [conj] at *; (try dsimp only [Ty.den, Ty.dflt] at *); omega)) ?_
          refine sw_ret ⟨.inl rfl, _, rfl, ?_⟩
          simp [conj, rootV, inV, *]
          try omega
        · skip
          replace c1 : volsV d l = true := by simpa using c1
          have hsv := volsV_small c1
          have hbl := blks_all hsv
          have hin : inV tg 0 100000 = true := by simp [inV]; omega
          refine sw_skip ?_
          refine sw_seq ?_
          refine sw_region hP 3 [] rfl (by kernel_rfl) (fun _ => by kernel_rfl) (by first | trivial | (simp [conj]; done) | (simp [conj] at *; (try dsimp only [Ty.den, Ty.dflt] at *); omega)) ?_
          refine sw_seq ?_
          refine sw_seq ?_
          refine sw_region hP 4 [] rfl (by kernel_rfl) (fun _ => by kernel_rfl) ?_ ?_
          · skip
            simp [conj, maxL]
            try dsimp only [Ty.den, Ty.dflt]
            try simp only [rd_eta]
            exact hsv
          refine sw_block ?_
          refine sw_loop (ι := Nat × List (Plc × Ptr_)) (fun ⟨i, m⟩ => ⟨[sInt .i64 d, .junk, .junk, .v false [.ptr ⟨1, 0, 0⟩ 0], .junk, .v false [.own ⟨0, 9, 0⟩], .junk, .junk, .junk, .junk, .junk, .junk, .junk, .junk, .junk, .junk, .junk, .junk, .junk, .junk, .junk, .junk, .junk, .junk, .junk, .junk, .junk, .junk, .junk, .junk, .junk, .junk, .junk, .junk, .v false [.own ⟨0, 9, 1⟩], sInt .i64 ((blksOf l).length : Int), sInt .i64 (i : Int), .junk, .junk, .junk, .junk, .junk, .junk, .junk, .junk, .junk, .junk, .junk, .junk, .junk, .junk, .junk, .junk, .junk, .junk, .junk, .junk, .junk, .junk, .junk, .junk, .junk, .junk, .junk, .junk], [(⟨1, 0, 0⟩, .var [.d TI pF tg, .d (.sl T_Vol) (.all .b) l]), (⟨0, 9, 0⟩, .mp true true T_Place T_Ptr mapF m), (⟨0, 9, 1⟩, .sl T_Ptr (.all .b) (blksOf l))], 4, []⟩) (fun ⟨i, m⟩ => (blksOf l).length - i) (fun ⟨i, m⟩ => i ≤ (blksOf l).length ∧ ownGo m (pairsOf ((blksOf l).drop i)) = ownGo [] (pairsOf (blksOf l))) (0, []) ⟨?_, ?_⟩ ?_
          · skip
            exact ⟨Nat.zero_le _, rfl⟩
          · refine ent_ok rfl ?_
            simp [conj]
          · rintro ⟨i, m⟩ ⟨hi, hgo0⟩
            refine sw_seq ?_
            refine sw_region hP 5 [] rfl (by kernel_rfl) (fun _ => by kernel_rfl) (by first | trivial | (simp [conj]; done) | (simp [conj] at *; (try dsimp only [Ty.den, Ty.dflt] at *); omega)) ?_
            refine sw_seq ?_
            refine sw_cond rfl (fun c5 => ?_) (fun c5 => ?_)
            · skip
              have hlt : i < (blksOf l).length := by simpa using c5
              have hpl1 := hpl0 _ (List.getElem_mem hlt)
              refine sw_skip ?_
              refine sw_seq ?_
              refine sw_block ?_
              refine sw_seq ?_
              refine sw_region hP 6 [] rfl (by kernel_rfl) (fun _ => by kernel_rfl) ?_ ?_
              · skip
                simp [conj, List.getElem?_eq_getElem hlt]
                exact hlt
              refine sw_seq ?_
              refine sw_region hP 7 [] rfl (by kernel_rfl) (fun _ => by kernel_rfl) (by first | trivial | (simp [conj]; done) | (simp [conj] at *; (try dsimp only [Ty.den, Ty.dflt] at *); omega)) ?_
              refine sw_block ?_
              refine sw_loop (ι := Nat × List (Plc × Ptr_)) (fun ⟨j, m⟩ => ⟨[sInt .i64 d, .junk, .junk, .v false [.ptr ⟨1, 0, 0⟩ 0], .junk, .v false [.own ⟨0, 9, 0⟩], .junk, .v false [.ptr ⟨0, 9, 2⟩ 0], .junk, .junk, .junk, .junk, .junk, .junk, .junk, .junk, .junk, .junk, .junk, .junk, .junk, .junk, .junk, .junk, .junk, .junk, .junk, .junk, .junk, .junk, .junk, .junk, .junk, .junk, .v false [.own ⟨0, 9, 1⟩], sInt .i64 ((blksOf l).length : Int), sInt .i64 (i : Int), .junk, .junk, .junk, .junk, .v false [.d (.sl T_Place) (.all .b) (blksOf l)[i].2.2], sInt .i64 ((blksOf l)[i].2.2.length : Int), sInt .i64 (j : Int), .junk, .junk, .junk, .junk, .junk, .junk, .junk, .junk, .junk, .junk, .junk, .junk, .junk, .junk, .junk, .junk, .junk, .junk, .junk, .junk, .junk], [(⟨1, 0, 0⟩, .var [.d TI pF tg, .d (.sl T_Vol) (.all .b) l]), (⟨0, 9, 0⟩, .mp true true T_Place T_Ptr mapF m), (⟨0, 9, 1⟩, .sl T_Ptr (.all .b) (blksOf l)), (⟨0, 9, 2⟩, .var [.d TI pF (blksOf l)[i].1, .d TI pF (blksOf l)[i].2.1, .d (.sl T_Place) (.all .b) (blksOf l)[i].2.2])], 7, []⟩) (fun ⟨j, m⟩ => (blksOf l)[i].2.2.length - j) (fun ⟨j, m⟩ => j ≤ (blksOf l)[i].2.2.length ∧ ownGo m (((blksOf l)[i].2.2.drop j).map (fun a => (a, (blksOf l)[i])) ++ pairsOf ((blksOf l).drop (i + 1))) = ownGo [] (pairsOf (blksOf l))) (0, m) ⟨?_, ?_⟩ ?_
              · skip
                exact ⟨Nat.zero_le _, own_in hlt hgo0⟩
              · refine ent_ok rfl ?_
                simp [conj, List.getElem?_eq_getElem hlt]
              · rintro ⟨j, m⟩ ⟨hj, hgo⟩
                refine sw_seq ?_
                refine sw_region hP 8 [] rfl (by kernel_rfl) (fun _ => by kernel_rfl) (by first | trivial | (simp [conj]; done) | (simp [conj] at *; (try dsimp only [Ty.den, Ty.dflt] at *); omega)) ?_
                refine sw_seq ?_
                refine sw_cond rfl (fun c8 => ?_) (fun c8 => ?_)
                · skip
                  have hlj : j < (blksOf l)[i].2.2.length := by simpa using c8
                  refine sw_skip ?_
                  refine sw_seq ?_
                  refine sw_block ?_
                  refine sw_seq ?_
                  refine sw_region hP 9 [] rfl (by kernel_rfl) (fun _ => by kernel_rfl) ?_ ?_
                  · skip
                    simp [conj, List.getElem?_eq_getElem hlj]
                    exact hlj
                  refine sw_seq ?_
                  refine sw_seq ?_
                  refine sw_region hP 10 [] rfl (by kernel_rfl) (fun _ => by kernel_rfl) ?_ ?_
                  · skip
                    simp [conj, List.getElem?_eq_getElem hlj]
                  refine sw_seq ?_
                  refine sw_dec hP 11 [] 1 rfl (fun g11_1 => ?_) (fun g11_1 => ?_)
                  · skip
                    have hg : (mget PK m (blksOf l)[i].2.2[j]).isSome = true := by simpa [List.getElem?_eq_getElem hlt, List.getElem?_eq_getElem hlj] using g11_1
                    obtain ⟨q, hq⟩ := Option.isSome_iff_exists.1 hg
                    refine sw_region hP 11 [(1, true)] rfl (by kernel_rfl) (fun _ => by kernel_rfl) ?_ ?_
                    · skip
                      simp only [conj, List.nil_append, List.cons_append, List.append_nil, List.append_assoc, inR_i64, true_and, and_true, Int.toNat_natCast]
                      try dsimp only [Ty.den, Ty.dflt]
                      repeat' apply And.intro
                      all_goals first | trivial | exact g11_1 | exact And.intro trivial g11_1
                    refine sw_cond rfl (fun c11 => ?_) (fun c11 => ?_)
                    · skip
                      replace c11 : ¬ (blksOf l)[i] = q := by
                        have h := c11
                        simp [List.getElem?_eq_getElem hlt, List.getElem?_eq_getElem hlj, hq] at h
                        intro e
                        rw [e] at h
                        simp at h
                      have hv := own_bad hlj hgo hq c11
                      refine sw_seq ?_
                      refine sw_region hP 12 [] rfl (by kernel_rfl) (fun _ => by kernel_rfl) (by first | trivial | (simp [conj]; done) | (simp [conj] at *; (try dsimp only [Ty.den, Ty.dflt] at *); omega)) ?_
                      refine sw_ret ⟨.inl rfl, _, rfl, ?_⟩
                      simp [conj, rootV, g1_3, hin, c1, hv]
                    · skip
                      replace c11 : (blksOf l)[i] = q := by
                        have h := c11
                        simp [List.getElem?_eq_getElem hlt, List.getElem?_eq_getElem hlj, hq] at h
                        exact Prod.ext h.1 (Prod.ext h.2.1 h.2.2)
                      have hnx := own_some hlj hgo hq c11
                      refine sw_skip ?_
                      refine sw_region hP 12 [] rfl (by kernel_rfl) (fun _ => by kernel_rfl) ?_ ?_
                      · skip
                        simp [conj, maxL]
                        try dsimp only [Ty.den, Ty.dflt]
                        try simp only [rd_eta]
                        repeat' apply And.intro
                        all_goals first | rfl | assumption | omega
                      refine sw_region hP 13 [] rfl (by kernel_rfl) (fun _ => by kernel_rfl) (by first | trivial | (simp [conj]; done) | (simp [conj] at *; (try dsimp only [Ty.den, Ty.dflt] at *); omega)) ?_
                      refine ⟨(j + 1, mset PK m (blksOf l)[i].2.2[j] (blksOf l)[i]), ?_, ?_, ent_ok rfl ?_⟩
                      · skip
                        exact ⟨hlj, hnx⟩
                      · skip
                        show (blksOf l)[i].2.2.length - (j + 1) < (blksOf l)[i].2.2.length - j
                        omega
                      · skip
                        simp [conj, List.getElem?_eq_getElem hlt, List.getElem?_eq_getElem hlj]
                  · skip
                    have hg : mget PK m (blksOf l)[i].2.2[j] = none := by simpa [List.getElem?_eq_getElem hlt, List.getElem?_eq_getElem hlj] using g11_1
                    have hnx := own_none hlj hgo hg
                    refine sw_region hP 11 [(1, false)] rfl (by kernel_rfl) (fun _ => by kernel_rfl) ?_ ?_
                    · skip
                      simp only [conj, List.nil_append, List.cons_append, List.append_nil, List.append_assoc, inR_i64, true_and, and_true, Int.toNat_natCast]
                      try dsimp only [Ty.den, Ty.dflt]
                      repeat' apply And.intro
                      all_goals first | trivial | exact g11_1 | exact And.intro trivial g11_1
                    refine sw_condF rfl ?_
                    refine sw_skip ?_
                    refine sw_region hP 12 [] rfl (by kernel_rfl) (fun _ => by kernel_rfl) ?_ ?_
                    · skip
                      simp [conj, maxL]
                      try dsimp only [Ty.den, Ty.dflt]
                      try simp only [rd_eta]
                      repeat' apply And.intro
                      all_goals first | rfl | assumption | omega
                    refine sw_region hP 13 [] rfl (by kernel_rfl) (fun _ => by kernel_rfl) (by first | trivial | (simp [conj]; done) | (simp [conj] at *; (try dsimp only [Ty.den, Ty.dflt] at *); omega)) ?_
                    refine ⟨(j + 1, mset PK m (blksOf l)[i].2.2[j] (blksOf l)[i]), ?_, ?_, ent_ok rfl ?_⟩
                    · skip
                      exact ⟨hlj, hnx⟩
                    · skip
                      show (blksOf l)[i].2.2.length - (j + 1) < (blksOf l)[i].2.2.length - j
                      omega
                    · skip
                      simp [conj, List.getElem?_eq_getElem hlt, List.getElem?_eq_getElem hlj]
                · skip
                  obtain rfl : j = (blksOf l)[i].2.2.length := by simp at c8; omega
                  refine sw_exit ?_
                  refine sw_region hP 9 [] rfl (by kernel_rfl) (fun _ => by kernel_rfl) (by first | trivial | (simp [conj]; done) | (simp [conj] at *; (try dsimp only [Ty.den, Ty.dflt] at *); omega)) ?_
                  refine ⟨(i + 1, m), ?_, ?_, ent_ok rfl ?_⟩
                  · skip
                    exact ⟨hlt, own_out hgo⟩
                  · skip
                    show (blksOf l).length - (i + 1) < (blksOf l).length - i
                    omega
                  · skip
                    simp [conj]
            · skip
              obtain rfl : i = (blksOf l).length := by simp at c5; omega
              refine sw_exit ?_
              refine sw_seq ?_
              refine sw_region hP 6 [] rfl (by kernel_rfl) (fun _ => by kernel_rfl) (by first | trivial | (simp [conj]; done) | (simp [conj] at *; (try dsimp only [Ty.den, Ty.dflt] at *); omega)) ?_
              refine sw_ret ⟨.inl rfl, _, rfl, ?_⟩
              have hv := own_end hgo0
              simp [conj, rootV, g1_3, hin, c1, hv]
end Go.Sx

/- What the kit's walks and its shelf say, as contracts of Sx: weigh, strconv.Itoa, strings.Join. -/
namespace Go.Sx
open Go Go.RowKit
theorem weighGo_app : ∀ (l : Str) (i : Nat) (c : UInt8), weighGo (l ++ [c]) i = weighGo l i + (c.toNat : Int) * (65536 + ((i + l.length : Nat) : Int) + 1) := by
  intro l
  induction l with
  | nil => intro i c; simp [weighGo]
  | cons a l ih =>
    intro i c
    simp only [List.cons_append, weighGo, ih, List.length_cons]
    rw [show i + 1 + l.length = i + (l.length + 1) by omega]
    omega
theorem weiS_weigh (l : Str) (hl : l.length ≤ 1000000) : ∀ k, k ≤ l.length → Proofs.weiS (Proofs.weiUp (mkS l) k) = weighGo (l.take k) 0 := by
  intro k
  induction k with
  | zero => intro _; rfl
  | succ k ih =>
    intro hk
    have hlt : k < l.length := hk
    rw [Proofs.weiUp, Proofs.volUp_succ, Proofs.weiS_add, List.take_succ_eq_append_getElem hlt, weighGo_app, ← ih (by omega)]
    have e1 : (Proofs.weiF (mkS l) k).val = (k, l[k]) := by
      show (min k 999999, (mkS l).data[k]?.getD 0) = _
      have : (mkS l).data[k]? = some l[k] := by simp [mkS, hlt]
      rw [this]
      simp
      omega
    rw [e1, List.length_take]
    simp only
    rw [show ((0 + min k l.length : Nat) : Int) = (k : Int) by omega]
    rw [Proofs.weiUp]
    congr 1
def cWeigh : Ctr := ⟨62, [.val false .str pF], fun x => List.length x.1 ≤ 1000000, fun x => (sInt .i64 (weighV x.1), [])⟩
theorem weighV_bd {s : Str} (h : s.length ≤ 1000000) : 0 ≤ weighV s ∧ weighV s ≤ (s.length : Int) * 300000000 := by
  have h1 := weiS_weigh s h s.length (Nat.le_refl _)
  rw [List.take_length] at h1
  have h2 := Proofs.weiS_bd _ (Proofs.weiUp (mkS s) s.length) rfl
  rw [h1] at h2
  rw [show (Proofs.weiUp (mkS s) s.length).length = s.length from Proofs.volUp_length _ _] at h2
  exact h2
theorem cWeigh_ok : CtrOk Proofs.Tryd.prog cWeigh := by
  refine ctr_of_below (fn := Proofs.Tryd.f62) Proofs.Tryd.func62 rfl rfl rfl ?_
  rintro G w args ⟨(s : Str), ⟨⟩⟩ _ _ ⟨v, vs, rfl, ⟨_, cs, rfl, _, ⟨rfl, hl⟩⟩, rfl⟩ hpre
  replace hpre : s.length ≤ 1000000 := hpre
  have h := Proofs.wei_in Fence.wide 3 trivial trivial trivial rfl (Nat.le_refl _) (mkS s) (by exact hpre) w
  refine (callsIn_wide.1 h).mono ?_
  rintro e w' ⟨rfl, hB⟩
  refine ⟨_, rfl, hB, fun G' => ?_, rfl⟩
  rw [show (mkS s).size = s.length from rfl, weiS_weigh s hpre _ (Nat.le_refl _), List.take_length]
  have := weighV_bd hpre
  show MtS G' w' (sInt .i64 (weighV s)) (.int .i64 (weighV s))
  exact .ofInt (by rw [inR_i64]; omega)
theorem grown_below (w : World) (k : Nat) (os : Array Obj) : Below w.heap.size w (Sort.grow (w.drewN k) os) :=
  ⟨rfl, rfl, rfl, by show w.heap.size ≤ (w.heap ++ os).size; rw [Array.size_append]; omega, fun j hj => by
    show (w.heap ++ os)[j]? = w.heap[j]?
    exact Array.getElem?_append_left hj⟩
def cItoa : Ctr := ⟨60, [.val false TI pF], fun _ => True, fun x => (sStr (itoaV x.1), [])⟩
theorem cItoa_ok : CtrOk Proofs.Tryd.prog cItoa := by
  refine ctr_of_below (fn := Proofs.Tryd.f60) Proofs.Tryd.func60 rfl rfl rfl ?_
  rintro G w args ⟨(n : Int), ⟨⟩⟩ _ ham ⟨v, vs, rfl, ⟨_, cs, rfl, _, ⟨rfl, hn⟩⟩, rfl⟩ _
  rw [inR_i64] at hn
  have htab : Lib.TabIs Proofs.Tryd.prog w "internal/strconv.uint64pow10" .u64 Lib.pow10Tab := by
    unfold Lib.TabIs World.var?
    cases hg : Proofs.Tryd.prog.globalNamed "internal/strconv.uint64pow10" with
    | none =>
      have h0 : (Proofs.Tryd.prog.globalNamed "internal/strconv.uint64pow10").isSome = true := by kernel_rfl
      rw [hg] at h0
      cases h0
    | some b =>
      obtain ⟨_, C, t, fz, h2, h3⟩ := ham _ _ (List.mem_cons_self ..) b hg
      simp only [Option.bind_some, h2, Option.some.injEq]
      apply Array.ext'
      rw [h3]
      rfl
  refine (Proofs.Tryd.strconv_Itoa n hn.1 hn.2 w htab).mono ?_
  rintro e w' ⟨rfl, k, os, rfl⟩
  refine ⟨_, rfl, grown_below w k os, fun G' => ?_, rfl⟩
  refine .of1 rfl ⟨rfl, rfl, ?_⟩
  have := Lib.itoa_length_le n hn.1 hn.2
  show (Lib.itoa n).length ≤ maxL
  unfold maxL; omega
def cJoin : Ctr := ⟨76, [.val false (.sl .str) (.all .b), .val false .str pF], fun x => List.length (Lib.join x.1 x.2.1) ≤ 1000000, fun x => (sStr (Lib.join x.1 x.2.1), [])⟩
theorem join_mk (l : List Str) (s : Str) : (⟨(Lib.join ((l.map mkS).map (·.data.toList)) (mkS s).data.toList).toArray⟩ : ByteArray) = mkS (Lib.join l s) := by
  have h : (l.map mkS).map (·.data.toList) = l := by
    rw [List.map_map]
    exact (List.map_congr_left (fun x _ => rfl)).trans (List.map_id l)
  rw [h]
  rfl
theorem cJoin_ok : CtrOk Proofs.Tryd.prog cJoin := by
  refine ctr_of_below (fn := Proofs.Tryd.f76) Proofs.Tryd.func76 rfl rfl rfl ?_
  rintro G w args ⟨(l : List Str), (s : Str), ⟨⟩⟩ hbnd ham ⟨v, vs, rfl, ⟨_, cs, rfl, _, ⟨A, n, c, rfl, hn, hc, hm, _, hblk⟩⟩, v2, vs2, rfl, ⟨_, cs2, rfl, _, ⟨rfl, hl2⟩⟩, rfl⟩ hpre
  replace hpre : (Lib.join l s).length ≤ 1000000 := hpre
  replace hn : n = l.length := hn
  subst hn
  have fin : ∀ G' w', MtS G' w' (sStr (Lib.join l s)) (.string (mkS (Lib.join l s))) := fun G' w' => .of1 rfl ⟨rfl, rfl, by show (Lib.join l s).length ≤ maxL; unfold maxL; omega⟩
  rcases hblk with ⟨_, hz⟩ | ⟨b, off, C, t, fz, rfl, hlab, hh, hs, _, hj⟩
  · have h0 : l = [] := List.eq_nil_of_length_eq_zero (by omega)
    subst h0
    refine (Proofs.Tryd.strings_Join_none A c (mkS s) w).mono ?_
    rintro e w' ⟨rfl, rfl⟩
    exact ⟨_, rfl, Below.refl _ _, fun G' => fin G' _, rfl⟩
  · have hb : b < w.heap.size := hbnd b (by rcases hlab with h | h <;> (rw [h]; simp))
    have := Proofs.Tryd.strings_Join b off c (l.map mkS) (mkS s) w (fun j x hx => by
      rw [List.getElem?_map, Option.map_eq_some_iff] at hx
      obtain ⟨y, hy, rfl⟩ := hx
      have h1 := (hj j y hy).1
      have h2 : (cellsAt C (off + j * 1) 1)[0]? = some (.string (mkS y)) := by
        rw [show (Ty.str).size = 1 from rfl] at h1
        rw [h1]; rfl
      have h3 := cellsAt_get h2
      rw [cell_of_heap hh (o := off) j]
      rw [show off + j * 1 + 0 = off + j by omega] at h3
      exact h3) hb (by rw [List.length_map]; exact hm) (by rw [List.length_map]; exact hc) (by
      have h := congrArg (fun b : ByteArray => b.data.toList.length) (join_mk l s)
      simp only [mkS] at h
      refine Nat.le_trans (Nat.le_of_eq ?_) (Nat.le_trans hpre (by omega))
      simpa [mkS] using h)
    rw [List.length_map] at this
    refine this.mono ?_
    rintro e w' ⟨rfl, hB⟩
    exact ⟨_, rfl, hB, fun G' => by rw [join_mk]; exact fin G' _, rfl⟩
end Go.Sx

namespace Go.Sx
open Go
set_option maxRecDepth 100000
set_option linter.unusedVariables false
set_option linter.unusedSimpArgs false
set_option maxHeartbeats 2000000

def cOpen : Ctr := ⟨19, [.val false TB pF], fun _ => True, fun x => (.v false [.ptr ⟨1, 0, 0⟩ 0], [(⟨1, 0, 0⟩, rdA (List.take 2000 x.1, 0))])⟩
theorem cOpen_ok : CtrOk Proofs.Tryd.prog cOpen := by
  have hP := (Prg.none ttok mtok)
  refine ctr_of_body hP cOpen (fn := Proofs.Tryd.f19) (rts := [.tmp 2]) Proofs.Tryd.func19 rfl (by kernel_rfl) rfl rfl ?_
  rintro ⟨(code : List Int), ⟨⟩⟩ hd hpre
  try dsimp only [Ty.den, Mode.den, mdens] at hpre
  refine ⟨rfl, ?_⟩
  refine sw_seq ?_
  refine sw_region hP 1 [] rfl (by kernel_rfl) (fun _ => by kernel_rfl) (by first | trivial | (simp [conj]; done) | (simp [conj] at *; (try dsimp only [Ty.den, Ty.dflt] at *); omega)) ?_
  refine sw_seq ?_
  refine sw_seq ?_
  refine sw_region hP 2 [] rfl (by kernel_rfl) (fun _ => by kernel_rfl) (by first | trivial | (simp [conj]; done) | (simp [conj] at *; (try dsimp only [Ty.den, Ty.dflt] at *); omega)) ?_
  refine sw_cond rfl (fun c1 => ?_) (fun c1 => ?_)
  · skip
    refine sw_region hP 3 [] rfl (by kernel_rfl) (fun _ => by kernel_rfl) (by first | trivial | (simp [conj]; done) | (simp [conj] at *; (try dsimp only [Ty.den, Ty.dflt] at *); omega)) ?_
    refine sw_seq ?_
    refine sw_region hP 4 [] rfl (by kernel_rfl) (fun _ => by kernel_rfl) (by first | trivial | (simp [conj]; done) | (simp [conj] at *; (try dsimp only [Ty.den, Ty.dflt] at *); omega)) ?_
    refine sw_ret ⟨.inl rfl, _, rfl, ?_⟩
    simp [conj] at *
    try (rw [List.take_of_length_le (by omega)])
  · skip
    refine sw_skip ?_
    refine sw_seq ?_
    refine sw_region hP 3 [] rfl (by kernel_rfl) (fun _ => by kernel_rfl) (by first | trivial | (simp [conj]; done) | (simp [conj] at *; (try dsimp only [Ty.den, Ty.dflt] at *); omega)) ?_
    refine sw_ret ⟨.inl rfl, _, rfl, ?_⟩
    simp [conj] at *
    try (rw [List.take_of_length_le (by omega)])

def cPick : Ctr := ⟨23, [.ref T_l6Rd pF, .val false TI pF], fun x => ROk x.1 1, fun x => (sInt .i64 (pk x.1 x.2.1), [(⟨0, 0, 0⟩, rdA (nx x.1))])⟩
theorem cPick_ok : CtrOk Proofs.Tryd.prog cPick := by
  have hP := (Prg.none ttok mtok)
  refine ctr_of_body hP cPick (fn := Proofs.Tryd.f23) (rts := [.tmp 4]) Proofs.Tryd.func23 rfl (by kernel_rfl) rfl rfl ?_
  rintro ⟨⟨(b : List Int), (p : Int)⟩, (n : Int), ⟨⟩⟩ hd hpre
  try dsimp only [Ty.den, Mode.den, mdens] at hpre
  refine ⟨rfl, ?_⟩
  have h0 : 0 ≤ p := hpre.p0
  have h1 : p + 1 ≤ 1099511627776 := hpre.p1
  have hl : b.length ≤ 2000 := hpre.len
  have hb : BOk b := hpre.b
  refine sw_seq ?_
  refine sw_region hP 1 [] rfl (by kernel_rfl) (fun _ => by kernel_rfl) (by first | trivial | (simp [conj]; done) | (simp [conj] at *; (try dsimp only [Ty.den, Ty.dflt] at *); omega)) ?_
  refine sw_seq ?_
  refine sw_region hP 2 [] rfl (by kernel_rfl) (fun _ => by kernel_rfl) (by first | trivial | (simp [conj]; done) | (simp [conj] at *; (try dsimp only [Ty.den, Ty.dflt] at *); omega)) ?_
  refine sw_seq ?_
  refine sw_seq ?_
  refine sw_dec hP 3 [] 2 rfl (fun g2_2 => ?_) (fun g2_2 => ?_)
  · skip
    refine sw_region hP 3 [(2, true)] rfl (by kernel_rfl) (fun _ => by kernel_rfl) (by first | trivial | (simp [conj]; done) | (simp [conj] at *; (try dsimp only [Ty.den, Ty.dflt] at *); omega)) ?_
    refine sw_condT rfl ?_
    refine sw_seq ?_
    refine sw_region hP 4 [] rfl (by kernel_rfl) (fun _ => by kernel_rfl) (by first | trivial | (simp [conj]; done) | (simp [conj] at *; (try dsimp only [Ty.den, Ty.dflt] at *); omega)) ?_
    refine sw_ret ⟨.inl rfl, _, rfl, ?_⟩
    simp [conj, maxL] at *
    try dsimp only [Ty.den, Ty.dflt] at *
    try simp only [rd_eta] at *
    simp [pk, pickV, nx, pickX]
    first | omega | (intros; omega) | (intro _ hh; exact absurd c2 hh) | (rw [if_neg (by omega)]; first | (rw [if_neg c2, if_pos c5]; done) | (rw [if_neg c2, if_neg (by omega)]; done) | (intros; simp_all; done))
  · skip
    refine sw_region hP 3 [(2, false)] rfl (by kernel_rfl) (fun _ => by kernel_rfl) (by first | trivial | (simp [conj]; done) | (simp [conj] at *; (try dsimp only [Ty.den, Ty.dflt] at *); omega)) ?_
    refine sw_cond rfl (fun c2 => ?_) (fun c2 => ?_)
    · skip
      refine sw_seq ?_
      refine sw_region hP 4 [] rfl (by kernel_rfl) (fun _ => by kernel_rfl) (by first | trivial | (simp [conj]; done) | (simp [conj] at *; (try dsimp only [Ty.den, Ty.dflt] at *); omega)) ?_
      refine sw_ret ⟨.inl rfl, _, rfl, ?_⟩
      simp [conj, maxL] at *
      try dsimp only [Ty.den, Ty.dflt] at *
      try simp only [rd_eta] at *
      simp [pk, pickV, nx, pickX]
      first | omega | (intros; omega) | (intro _ hh; exact absurd c2 hh) | (rw [if_neg (by omega)]; first | (rw [if_neg c2, if_pos c5]; done) | (rw [if_neg c2, if_neg (by omega)]; done) | (intros; simp_all; done))
    · skip
      refine sw_skip ?_
      refine sw_seq ?_
      refine sw_region hP 4 [] rfl (by kernel_rfl) (fun _ => by kernel_rfl) (by first | trivial | (simp [conj]; done) | (simp [conj] at *; (try dsimp only [Ty.den, Ty.dflt] at *); omega)) ?_
      refine sw_seq ?_
      refine sw_seq ?_
      refine sw_region hP 5 [] rfl (by kernel_rfl) (fun _ => by kernel_rfl) (by first | trivial | (simp [conj]; done) | (simp [conj] at *; (try dsimp only [Ty.den, Ty.dflt] at *); omega)) ?_
      refine sw_cond rfl (fun c5 => ?_) (fun c5 => ?_)
      · skip
        refine sw_seq ?_
        refine sw_region hP 6 [] rfl (by kernel_rfl) (fun _ => by kernel_rfl) ?_ ?_
        · skip
          simp [conj] at *
          dsimp only [Ty.den, Ty.dflt] at *
          have := getD_b' hb p.toNat
          omega
        refine sw_ret ⟨.inl rfl, _, rfl, ?_⟩
        simp [conj, maxL] at *
        try dsimp only [Ty.den, Ty.dflt] at *
        try simp only [rd_eta] at *
        simp [pk, pickV, nx, pickX]
        first | omega | (intros; omega) | (intro _ hh; exact absurd c2 hh) | (rw [if_neg (by omega)]; first | (rw [if_neg c2, if_pos c5]; done) | (rw [if_neg c2, if_neg (by omega)]; done) | (intros; simp_all; done))
      · skip
        refine sw_skip ?_
        refine sw_seq ?_
        refine sw_region hP 6 [] rfl (by kernel_rfl) (fun _ => by kernel_rfl) ?_ ?_
        · skip
          simp [conj] at *
          dsimp only [Ty.den, Ty.dflt] at *
          have hlp : 0 < b.length := List.length_pos_iff.2 c2
          have a1 := getD_b' hb (Int.tmod p b.length).toNat
          have a2 := getD_b' hb (Int.tmod (p * 7 + 3) b.length).toNat
          have a3 := tmod_ix (a := p) (n := b.length) h0 (by omega)
          have a4 := tmod_ix (a := p * 7 + 3) (n := b.length) (by omega) (by omega)
          have a5 : 0 ≤ Int.tdiv p b.length ∧ Int.tdiv p b.length ≤ p := ⟨Int.tdiv_nonneg h0 (by omega), Int.tdiv_le_self _ h0⟩
          repeat' apply And.intro
          all_goals first | assumption | omega
        refine sw_seq ?_
        refine sw_region hP 7 [] rfl (by kernel_rfl) (fun _ => by kernel_rfl) ?_ ?_
        · skip
          have a5 := pickX_bd hpre (by omega)
          simp only [pickX, List.getD_eq_getElem?_getD] at a5
          have a6 : 0 ≤ (pickX b p).tdiv 64 ∧ (pickX b p).tdiv 64 ≤ pickX b p := ⟨Int.tdiv_nonneg a5.1 (by omega), Int.tdiv_le_self _ a5.1⟩
          simp only [pickX, List.getD_eq_getElem?_getD] at a6
          simp [conj] at *
          dsimp only [Ty.den, Ty.dflt] at *
          omega
        refine sw_seq ?_
        refine sw_region hP 8 [] rfl (by kernel_rfl) (fun _ => by kernel_rfl) (by first | trivial | (simp [conj]; done) | (simp [conj] at *; (try dsimp only [Ty.den, Ty.dflt] at *); omega)) ?_
        refine sw_ret ⟨.inl rfl, _, rfl, ?_⟩
        simp [conj, maxL] at *
        try dsimp only [Ty.den, Ty.dflt] at *
        try simp only [rd_eta] at *
        simp [pk, pickV, nx, pickX]
        first | omega | (intros; omega) | (intro _ hh; exact absurd c2 hh) | (rw [if_neg (by omega)]; first | (rw [if_neg c2, if_pos c5]; done) | (rw [if_neg c2, if_neg (by omega)]; done) | (intros; simp_all; done))

def cOf : Ctr := ⟨67, [.ref T_l6Rd pF, .val false (.sl .str) (.all .b)], fun x => ROk x.1 1 ∧ 0 < List.length x.2.1, fun x => (sStr (List.getD x.2.1 (pk x.1 (List.length x.2.1 : Int)).toNat []), [(⟨0, 0, 0⟩, rdA (nx x.1))])⟩
theorem cOf_ok : CtrOk Proofs.Tryd.prog cOf := by
  have hP := ((Prg.none ttok mtok).and cPick_ok)
  refine ctr_of_body hP cOf (fn := Proofs.Tryd.f67) (rts := [.tmp 4]) Proofs.Tryd.func67 rfl (by kernel_rfl) rfl rfl ?_
  rintro ⟨⟨(b : List Int), (p : Int)⟩, (l : List Str), ⟨⟩⟩ hd ⟨hr, hl⟩
  try dsimp only [Ty.den, Mode.den, mdens] at hr
  try dsimp only [Ty.den, Mode.den, mdens] at hl
  refine ⟨rfl, ?_⟩
  refine sw_seq ?_
  refine sw_region hP 1 [] rfl (by kernel_rfl) (fun _ => by kernel_rfl) (by first | trivial | (simp [conj]; done) | (simp [conj] at *; (try dsimp only [Ty.den, Ty.dflt] at *); omega)) ?_
  refine sw_seq ?_
  refine sw_region hP 2 [] rfl (by kernel_rfl) (fun _ => by kernel_rfl) ?_ ?_
  · skip
    have := pk_bd hr (by omega) (n := List.length l) (by omega)
    simp [conj] at *
    exact ⟨hr, this⟩
  refine sw_ret ⟨.inl rfl, _, rfl, ?_⟩
  first | trivial | (simp [conj]; done) | (simp [conj] at *; (try dsimp only [Ty.den, Ty.dflt] at *); omega)

def cText : Ctr := ⟨69, [.ref T_l6Rd pF, .val false TI pF], fun x => ROk x.1 (2 * x.2.1 + 3) ∧ 0 ≤ x.2.1 ∧ x.2.1 ≤ 1000, fun x => (sStr (textV x.1 x.2.1), [(⟨0, 0, 0⟩, rdA (textR x.1 x.2.1))])⟩
theorem cText_ok : CtrOk Proofs.Tryd.prog cText := by
  have hP := ((Prg.none ttok mtok).and cPick_ok)
  refine ctr_of_body hP cText (fn := Proofs.Tryd.f69) (rts := [.tmp 4]) Proofs.Tryd.func69 rfl (by kernel_rfl) rfl rfl ?_
  rintro ⟨(r : Rd), (most : Int), ⟨⟩⟩ hd ⟨hr, h0, h1⟩
  try dsimp only [Ty.den, Mode.den, mdens] at hr
  try dsimp only [Ty.den, Mode.den, mdens] at h0
  try dsimp only [Ty.den, Mode.den, mdens] at h1
  refine ⟨rfl, ?_⟩
  have hn := pk_bd hr (by omega) (n := most + 1) (by omega)
  refine sw_seq ?_
  refine sw_region hP 1 [] rfl (by kernel_rfl) (fun _ => by kernel_rfl) (by first | trivial | (simp [conj]; done) | (simp [conj] at *; (try dsimp only [Ty.den, Ty.dflt] at *); omega)) ?_
  refine sw_seq ?_
  refine sw_region hP 2 [] rfl (by kernel_rfl) (fun _ => by kernel_rfl) (by first | trivial | (simp [conj]; done) | (simp [conj] at *; (try dsimp only [Ty.den, Ty.dflt] at *); omega)) ?_
  refine sw_seq ?_
  refine sw_seq ?_
  refine sw_region hP 3 [] rfl (by kernel_rfl) (fun _ => by kernel_rfl) ?_ ?_
  · skip
    simp [conj]
    exact ⟨by omega, hr.le (by omega)⟩
  refine sw_block ?_
  refine sw_loop (ι := Nat × Rd × List Int) (fun ⟨k, R, out⟩ => ⟨[.v false [.ptr ⟨0, 0, 0⟩ 0], .junk, .junk, .junk, .junk, .v false [.own ⟨0, 9, 0⟩], sInt .i64 (k : Int), .junk, .junk, .junk, .junk, .junk, .junk, .junk, .junk, .junk, .junk, .junk, .junk, .junk, .junk, .junk, .junk, .junk, .junk, .junk, .junk, .junk, .junk, .junk], [(⟨0, 0, 0⟩, rdA R), (⟨0, 9, 0⟩, .sl (.int .u8) pF out)], 3, [[.v false [.ptr ⟨0, 0, 0⟩ 0], .junk]]⟩) (fun ⟨k, R, out⟩ => k) (fun ⟨k, R, out⟩ => ROk R (2 * k + 1) ∧ textGo k R out = textGo (pk r (most + 1)).toNat (nx r) [] ∧ out.length + k ≤ 1001) ((pk r (most + 1)).toNat, nx r, []) ⟨?_, ?_⟩ ?_
  · skip
    refine ⟨hr.nx (by omega), rfl, ?_⟩
    simp; omega
  · refine ent_ok rfl ?_
    simp [conj, maxL]
    try dsimp only [Ty.den, Ty.dflt]
    try simp only [rd_eta]
    omega
  · rintro ⟨k, R, out⟩ ⟨hR, hgo, hlen⟩
    refine sw_seq ?_
    refine sw_seq ?_
    refine sw_region hP 4 [] rfl (by kernel_rfl) (fun _ => by kernel_rfl) (by first | trivial | (simp [conj]; done) | (simp [conj] at *; (try dsimp only [Ty.den, Ty.dflt] at *); omega)) ?_
    refine sw_cond rfl (fun c3 => ?_) (fun c3 => ?_)
    · skip
      obtain ⟨k, rfl⟩ : ∃ m, k = m + 1 := ⟨k - 1, by simp at c3; omega⟩
      refine sw_skip ?_
      refine sw_seq ?_
      refine sw_block ?_
      refine sw_region hP 5 [] rfl (by kernel_rfl) (fun _ => by kernel_rfl) ?_ ?_
      · skip
        have ha := pk_bd hR (by omega) (n := 6) (by omega)
        have hR1 : ROk (nx R) (2 * k + 2) := hR.nx (by omega)
        have hb := pk_bd hR1 (by omega) (n := 3) (by omega)
        have hb2 : pk (nx R) 3 ≤ 255 := by omega
        simp [conj, maxL]
        try dsimp only [Ty.den, Ty.dflt]
        try simp only [rd_eta]
        repeat' apply And.intro
        all_goals first | assumption | omega | exact hR.le (by omega) | exact hR1.le (by omega) | exact hb.1 | exact hb2 | exact ha.1 | exact ha.2
      refine sw_region hP 6 [] rfl (by kernel_rfl) (fun _ => by kernel_rfl) (by first | trivial | (simp [conj]; done) | (simp [conj] at *; (try dsimp only [Ty.den, Ty.dflt] at *); omega)) ?_
      refine ⟨(k, nx (nx R), out ++ [(([97, 98, 122, 0, 255, 128] : List Int).getD (pk R 6).toNat 0 + pk (nx R) 3) % 256]), ?_, ?_, ent_ok rfl ?_⟩
      · skip
        exact ⟨(hR.nx (m' := 2 * k + 2) (by omega)).nx (by omega), hgo, by simp; omega⟩
      · skip
        exact Nat.lt_succ_self k
      · skip
        simp [conj, maxL]
        try dsimp only [Ty.den, Ty.dflt]
        try simp only [rd_eta]
        try rfl
    · skip
      refine sw_exit ?_
      refine sw_seq ?_
      refine sw_region hP 5 [] rfl (by kernel_rfl) (fun _ => by kernel_rfl) (by first | trivial | (simp [conj]; done) | (simp [conj] at *; (try dsimp only [Ty.den, Ty.dflt] at *); omega)) ?_
      refine sw_ret ⟨.inl rfl, _, rfl, ?_⟩
      obtain rfl : k = 0 := by simp at c3; omega
      simp only [textGo] at hgo
      simp [conj, textV, textR, ← hgo]

def cDisksD : Ctr := ⟨20, [.ref T_l6Rd pF], fun x => ROk x.1 1, fun x => (sInt .i64 (3 + pk x.1 2), [(⟨0, 0, 0⟩, rdA (nx x.1))])⟩
theorem cDisksD_ok : CtrOk Proofs.Tryd.prog cDisksD := by
  have hP := ((Prg.none ttok mtok).and cPick_ok)
  refine ctr_of_body hP cDisksD (fn := Proofs.Tryd.f20) (rts := [.tmp 2]) Proofs.Tryd.func20 rfl (by kernel_rfl) rfl rfl ?_
  rintro ⟨(R : Rd), ⟨⟩⟩ _ hpre
  try dsimp only [Ty.den, Mode.den, mdens] at hpre
  refine ⟨rfl, ?_⟩
  replace hpre : ROk R 1 := hpre
  have hb := pk_bd hpre (by omega) (n := 2) (by omega)
  refine sw_seq ?_
  refine sw_region hP 1 [] rfl (by kernel_rfl) (fun _ => by kernel_rfl) (by first | trivial | (simp [conj]; done) | (simp [conj] at *; (try dsimp only [Ty.den, Ty.dflt] at *); omega)) ?_
  refine sw_seq ?_
  refine sw_region hP 2 [] rfl (by kernel_rfl) (fun _ => by kernel_rfl) ?_ ?_
  · skip
    simp only [conj, List.nil_append, List.cons_append, List.append_nil, List.append_assoc, inR_i64, true_and, and_true, Int.toNat_natCast]
    try dsimp only [Ty.den, Ty.dflt]
    repeat' apply And.intro
    all_goals first | omega | exact hpre | (show _ ≤ 3 + pk R 2; omega) | (show 3 + pk R 2 ≤ _; omega) | trivial
  refine sw_ret ⟨.inl rfl, _, rfl, ?_⟩
  simp [conj]

def cSumOf : Ctr := ⟨80, [.val false .str pF], fun x => True, fun x => (sInt .i64 (weighV (List.take 9 x.1)), [])⟩
theorem cSumOf_ok : CtrOk Proofs.Tryd.prog cSumOf := by
  have hP := (Prg.none ttok mtok)
  refine ctr_of_body hP cSumOf (fn := Proofs.Tryd.f80) (rts := [.tmp 2]) Proofs.Tryd.func80 rfl (by kernel_rfl) rfl rfl ?_
  rintro ⟨(s : Str), ⟨⟩⟩ ⟨hds, _⟩ _
  try dsimp only [Ty.den, Mode.den, mdens] at _
  refine ⟨rfl, ?_⟩
  have hml : s.length ≤ 140737488355328 := hds
  have hc9 : (s.take 9).length ≤ 9 := List.length_take_le _ _
  refine sw_seq ?_
  refine sw_region hP 1 [] rfl (by kernel_rfl) (fun _ => by kernel_rfl) (by first | trivial | (simp [conj]; done) | (simp [conj] at *; (try dsimp only [Ty.den, Ty.dflt] at *); omega)) ?_
  refine sw_seq ?_
  refine sw_region hP 2 [] rfl (by kernel_rfl) (fun _ => by kernel_rfl) (by first | trivial | (simp [conj]; done) | (simp [conj] at *; (try dsimp only [Ty.den, Ty.dflt] at *); omega)) ?_
  refine sw_seq ?_
  refine sw_seq ?_
  refine sw_region hP 3 [] rfl (by kernel_rfl) (fun _ => by kernel_rfl) (by first | trivial | (simp [conj]; done) | (simp [conj] at *; (try dsimp only [Ty.den, Ty.dflt] at *); omega)) ?_
  refine sw_block ?_
  refine sw_loop (ι := Nat × Int) (fun ⟨i, n⟩ => ⟨[sStr s, .junk, .junk, sInt .i64 n, sInt .i64 (i : Int), .junk, .junk, .junk, .junk, .junk, .junk, .junk, .junk, .junk, .junk, .junk, .junk, .junk, .junk, .junk, .junk, .junk, .junk, .junk, .junk, .junk], [], 3, []⟩) (fun ⟨i, n⟩ => 9 - i) (fun ⟨i, n⟩ => i ≤ (s.take 9).length ∧ n + weighGo ((s.take 9).drop i) i = weighV (s.take 9) ∧ 0 ≤ n ∧ n ≤ (i : Int) * 300000000) (0, 0) ⟨?_, ?_⟩ ?_
  · skip
    exact ⟨Nat.zero_le _, by simp [weighV], by decide, by decide⟩
  · refine ent_ok rfl ?_
    simp [conj]
  · rintro ⟨i, n⟩ ⟨hi, hgo, hn0, hn1⟩
    refine sw_seq ?_
    refine sw_seq ?_
    refine sw_dec hP 4 [] 4 rfl (fun g3_4 => ?_) (fun g3_4 => ?_)
    · skip
      have k4 : i < s.length := by simpa using g3_4
      refine sw_region hP 4 [(4, true)] rfl (by kernel_rfl) (fun _ => by kernel_rfl) ?_ ?_
      · skip
        simp only [conj, List.nil_append, List.cons_append, List.append_nil, List.append_assoc, inR_i64, true_and, and_true, Int.toNat_natCast]
        try dsimp only [Ty.den, Ty.dflt]
        repeat' apply And.intro
        all_goals first | exact g3_4 | omega | trivial
      refine sw_cond rfl (fun c3 => ?_) (fun c3 => ?_)
      · skip
        have h9 : i < 9 := by have h := c3; simp at h; omega
        have hlt : i < s.length := k4
        have hlt9 : i < (s.take 9).length := by rw [List.length_take]; omega
        have hg9 : (s.take 9)[i] = s[i] := by simp
        have hone := weigh_one (c := s[i]) (i := i) (by omega)
        have hnx := weigh_next hlt9 hgo
        rw [hg9] at hnx
        refine sw_skip ?_
        refine sw_seq ?_
        refine sw_block ?_
        refine sw_region hP 5 [] rfl (by kernel_rfl) (fun _ => by kernel_rfl) ?_ ?_
        · skip
          simp [conj, List.getElem?_eq_getElem hlt]
          have hu : s[i].toNat < 256 := s[i].toNat_lt
          repeat' apply And.intro
          all_goals omega
        refine sw_region hP 6 [] rfl (by kernel_rfl) (fun _ => by kernel_rfl) (by first | trivial | (simp [conj]; done) | (simp [conj] at *; (try dsimp only [Ty.den, Ty.dflt] at *); omega)) ?_
        refine ⟨(i + 1, n + (s[i].toNat : Int) * (65536 + (i : Int) + 1)), ?_, ?_, ent_ok rfl ?_⟩
        · skip
          exact ⟨hlt9, hnx, by show 0 ≤ n + (s[i].toNat : Int) * (65536 + (i : Int) + 1); omega, by show n + (s[i].toNat : Int) * (65536 + (i : Int) + 1) ≤ ((i + 1 : Nat) : Int) * 300000000; omega⟩
        · skip
          show 9 - (i + 1) < 9 - i
          omega
        · skip
          simp [conj, List.getElem?_eq_getElem hlt]
      · skip
        have h9 : ¬ i < 9 := by have h := c3; simp at h; omega
        obtain rfl : i = (s.take 9).length := by rw [List.length_take] at hi ⊢; omega
        have hv := weigh_end hgo
        refine sw_exit ?_
        refine sw_seq ?_
        refine sw_region hP 5 [] rfl (by kernel_rfl) (fun _ => by kernel_rfl) (by first | trivial | (simp [conj]; done) | (simp [conj] at *; (try dsimp only [Ty.den, Ty.dflt] at *); omega)) ?_
        refine sw_ret ⟨.inl rfl, _, rfl, ?_⟩
        simp [conj, hv]
    · skip
      have k4 : ¬ i < s.length := by simpa using g3_4
      obtain rfl : i = (s.take 9).length := by rw [List.length_take] at hi ⊢; omega
      have hv := weigh_end hgo
      refine sw_region hP 4 [(4, false)] rfl (by kernel_rfl) (fun _ => by kernel_rfl) ?_ ?_
      · skip
        simp only [conj, List.nil_append, List.cons_append, List.append_nil, List.append_assoc, inR_i64, true_and, and_true, Int.toNat_natCast]
        try dsimp only [Ty.den, Ty.dflt]
        repeat' apply And.intro
        all_goals first | exact g3_4 | omega | trivial
      refine sw_condF rfl ?_
      refine sw_exit ?_
      refine sw_seq ?_
      refine sw_region hP 5 [] rfl (by kernel_rfl) (fun _ => by kernel_rfl) (by first | trivial | (simp [conj]; done) | (simp [conj] at *; (try dsimp only [Ty.den, Ty.dflt] at *); omega)) ?_
      refine sw_ret ⟨.inl rfl, _, rfl, ?_⟩
      simp [conj, hv]

def cPlaces : Ctr := ⟨71, [.ref T_l6Rd pF, .val false TI pF, .val false TI pF], fun x => ROk x.1 6 ∧ (3 ≤ x.2.1 ∧ x.2.1 ≤ 4) ∧ 0 ≤ x.2.2.1 ∧ x.2.2.1 ≤ 4, fun x => (.v false [.own ⟨1, 0, 0⟩], [(⟨0, 0, 0⟩, rdA (plcD x.1 x.2.1 x.2.2.1).2), (⟨1, 0, 0⟩, .sl T_Place pF (plcD x.1 x.2.1 x.2.2.1).1)])⟩
theorem cPlaces_ok : CtrOk Proofs.Tryd.prog cPlaces := by
  have hP := ((Prg.none ttok mtok).and cPick_ok)
  refine ctr_of_body hP cPlaces (fn := Proofs.Tryd.f71) (rts := [.tmp 6]) Proofs.Tryd.func71 rfl (by kernel_rfl) rfl rfl ?_
  rintro ⟨(R : Rd), (d : Int), (c : Int), ⟨⟩⟩ _ ⟨hr, hd3, hc0, hc1⟩
  try dsimp only [Ty.den, Mode.den, mdens] at hr
  try dsimp only [Ty.den, Mode.den, mdens] at hd3
  try dsimp only [Ty.den, Mode.den, mdens] at hc0
  try dsimp only [Ty.den, Mode.den, mdens] at hc1
  refine ⟨rfl, ?_⟩
  replace hr : ROk R 6 := hr
  replace hd3 : 3 ≤ d ∧ d ≤ 4 := hd3
  have hb := pk_bd hr (by omega) (n := d) (by omega)
  refine sw_seq ?_
  refine sw_region hP 1 [] rfl (by kernel_rfl) (fun _ => by kernel_rfl) (by first | trivial | (simp [conj]; done) | (simp [conj] at *; (try dsimp only [Ty.den, Ty.dflt] at *); omega)) ?_
  refine sw_seq ?_
  refine sw_region hP 2 [] rfl (by kernel_rfl) (fun _ => by kernel_rfl) (by first | trivial | (simp [conj]; done) | (simp [conj] at *; (try dsimp only [Ty.den, Ty.dflt] at *); omega)) ?_
  refine sw_seq ?_
  refine sw_region hP 3 [] rfl (by kernel_rfl) (fun _ => by kernel_rfl) ?_ ?_
  · skip
    simp only [conj, List.nil_append, List.cons_append, List.append_nil, List.append_assoc, inR_i64, true_and, and_true, Int.toNat_natCast]
    try dsimp only [Ty.den, Ty.dflt]
    repeat' apply And.intro
    all_goals first | omega | exact hr.le (by omega) | trivial
  refine sw_seq ?_
  refine sw_seq ?_
  refine sw_region hP 4 [] rfl (by kernel_rfl) (fun _ => by kernel_rfl) (by first | trivial | (simp [conj]; done) | (simp [conj] at *; (try dsimp only [Ty.den, Ty.dflt] at *); omega)) ?_
  refine sw_block ?_
  refine sw_loop (ι := Nat × Rd × List Plc) (fun ⟨i, Q, out⟩ => ⟨[.v false [.ptr ⟨0, 0, 0⟩ 0], sInt .i64 d, sInt .i64 c, .junk, .junk, .junk, .junk, .v false [.own ⟨0, 9, 0⟩], sInt .i64 (pk R d), sInt .i64 (i : Int), .junk, .junk, .junk, .junk, .junk, .junk, .junk, .junk, .junk, .junk, .junk, .junk, .junk, .junk, .junk, .junk, .junk, .junk, .junk, .junk, .junk], [(⟨0, 0, 0⟩, rdA Q), (⟨0, 9, 0⟩, .sl T_Place pF out)], 4, [[.v false [.ptr ⟨0, 0, 0⟩ 0], .junk, .junk]]⟩) (fun ⟨i, Q, out⟩ => c.toNat - i) (fun ⟨i, Q, out⟩ => i ≤ c.toNat ∧ ROk Q (5 - (i : Int)) ∧ plcGo d (pk R d) (c.toNat - i) i Q out = (plcD R d c) ∧ out.length ≤ i) (0, nx R, []) ⟨?_, ?_⟩ ?_
  · skip
    exact ⟨Nat.zero_le _, hr.nx (by omega), rfl, Nat.le_refl _⟩
  · refine ent_ok rfl ?_
    simp [conj]
  · rintro ⟨i, Q, out⟩ ⟨hi, hQ, hgo, hol⟩
    refine sw_seq ?_
    refine sw_seq ?_
    refine sw_region hP 5 [] rfl (by kernel_rfl) (fun _ => by kernel_rfl) (by first | trivial | (simp [conj]; done) | (simp [conj] at *; (try dsimp only [Ty.den, Ty.dflt] at *); omega)) ?_
    refine sw_cond rfl (fun c4 => ?_) (fun c4 => ?_)
    · skip
      have hlt : i < c.toNat := by have h : ((i : Nat) : Int) < c := of_decide_eq_true c4; omega
      obtain ⟨n, hn⟩ : ∃ n, c.toNat - i = n + 1 := ⟨c.toNat - i - 1, by omega⟩
      have hb2 := pk_bd hQ (by omega) (n := 12) (by omega)
      rw [hn] at hgo
      have ht := tmod_ix (a := pk R d + (i : Int)) (n := d) (by omega) (by omega)
      have hn2 : c.toNat - (i + 1) = n := by omega
      refine sw_skip ?_
      refine sw_seq ?_
      refine sw_block ?_
      refine sw_region hP 6 [] rfl (by kernel_rfl) (fun _ => by kernel_rfl) ?_ ?_
      · skip
        simp only [conj, List.nil_append, List.cons_append, List.append_nil, List.append_assoc, inR_i64, true_and, and_true, Int.toNat_natCast]
        try dsimp only [Ty.den, Ty.dflt]
        simp only [maxL]
        repeat' apply And.intro
        all_goals first | omega | exact hQ.le (by omega) | trivial | (show (out.length + 1) * 16 ≤ 140737488355328; omega)
      refine sw_region hP 7 [] rfl (by kernel_rfl) (fun _ => by kernel_rfl) (by first | trivial | (simp [conj]; done) | (simp [conj] at *; (try dsimp only [Ty.den, Ty.dflt] at *); omega)) ?_
      refine ⟨(i + 1, nx Q, out ++ [((pk R d + (i : Int)).tmod d, pk Q 12)]), ?_, ?_, ent_ok rfl ?_⟩
      · skip
        exact ⟨hlt, hQ.nx (by push_cast; omega), by show plcGo d (pk R d) (c.toNat - (i + 1)) _ _ _ = _; rw [hn2]; exact hgo, by simp; omega⟩
      · skip
        show c.toNat - (i + 1) < c.toNat - i
        omega
      · skip
        simp [conj]
    · skip
      obtain rfl : i = c.toNat := by have h : ¬ ((i : Nat) : Int) < c := of_decide_eq_false c4; omega
      rw [Nat.sub_self] at hgo
      have hv1 : out = (plcD R d c).1 := by rw [← hgo]; rfl
      have hv2 : Q = (plcD R d c).2 := by rw [← hgo]; rfl
      refine sw_exit ?_
      refine sw_seq ?_
      refine sw_region hP 6 [] rfl (by kernel_rfl) (fun _ => by kernel_rfl) (by first | trivial | (simp [conj]; done) | (simp [conj] at *; (try dsimp only [Ty.den, Ty.dflt] at *); omega)) ?_
      refine sw_ret ⟨.inl rfl, _, rfl, ?_⟩
      rw [← hv1, ← hv2]
      simp [conj]

def cL11 : Ctr := ⟨70, [.val false .str pF, .val false (.sl T_Place) (.all .b)], fun x => List.length x.2.1 ≤ 1000000, fun x => (.v true [.d TI pF (List.length x.1 : Int), .d TI pF (weighV (List.take 9 x.1)), .own ⟨1, 0, 0⟩], [(⟨1, 0, 0⟩, .sl T_Place pF x.2.1)])⟩
theorem cL11_ok : CtrOk Proofs.Tryd.prog cL11 := by
  have hP := ((Prg.none ttok mtok).and cSumOf_ok)
  refine ctr_of_body hP cL11 (fn := Proofs.Tryd.f70) (rts := [.cell 4 30]) Proofs.Tryd.func70 rfl (by kernel_rfl) rfl rfl ?_
  rintro ⟨(s : Str), (l : List Plc), ⟨⟩⟩ _ hpre
  try dsimp only [Ty.den, Mode.den, mdens] at hpre
  refine ⟨rfl, ?_⟩
  replace hpre : l.length ≤ 1000000 := hpre
  refine sw_seq ?_
  refine sw_region hP 1 [] rfl (by kernel_rfl) (fun _ => by kernel_rfl) (by first | trivial | (simp [conj]; done) | (simp [conj] at *; (try dsimp only [Ty.den, Ty.dflt] at *); omega)) ?_
  refine sw_seq ?_
  refine sw_region hP 2 [] rfl (by kernel_rfl) (fun _ => by kernel_rfl) ?_ ?_
  · skip
    simp [conj, maxL]
    repeat' apply And.intro
    all_goals first | omega | trivial
  refine sw_ret ⟨.inl rfl, _, rfl, ?_⟩
  simp [conj]
end Go.Sx
