import Derived.Test.YtoedlonlndafmaaMPu
import Derived.Test.YtoedlonlndafmaaSxZ
import Derived.Test.YtoedlonlndafmaaProg
set_option linter.all false
namespace Go.Sx
open Go
set_option maxRecDepth 100000
set_option linter.unusedVariables false
set_option linter.unusedSimpArgs false
abbrev TL_Shelf : Ty := (.pr .str (.sl .str))
abbrev TL_Model : Ty := (.sl TL_Shelf)
abbrev T_Shelf : Ty := (.pr .str (.sl .str))
abbrev T_Model : Ty := (.sl T_Shelf)
def tt : TT := [⟨2, (.int .i64), false, 0, 0, 8, []⟩, ⟨3, (.int .i64), false, 0, 0, 8, []⟩, ⟨4, .bool, false, 0, 0, 1, []⟩, ⟨5, (.int .u8), false, 0, 0, 1, []⟩, ⟨6, (.int .u8), false, 0, 0, 1, []⟩, ⟨7, (.pr (.int .i64) (.pr (.int .i64) (.pr .bool (.int .u8)))), true, 4, 0, 24, [2, 3, 4, 6]⟩, ⟨8, (.pr (.int .i64) (.pr (.int .i64) (.pr .bool (.int .u8)))), true, 4, 0, 24, [2, 3, 4, 6]⟩, ⟨9, .str, false, 0, 0, 16, []⟩, ⟨10, .str, false, 0, 0, 16, []⟩, ⟨11, .str, false, 0, 0, 16, []⟩, ⟨12, (.int .u64), false, 0, 0, 8, []⟩, ⟨13, (.pr .str (.int .u64)), true, 2, 0, 24, [9, 12]⟩, ⟨14, (.pr .str (.int .u64)), true, 2, 0, 24, [9, 12]⟩, ⟨21, (.int .i32), false, 0, 0, 4, []⟩, ⟨22, (.sl TL_Shelf), false, 0, 62, 24, []⟩, ⟨23, (.sl TL_Shelf), true, 1, 0, 24, [22]⟩, ⟨24, TL_Model, true, 1, 0, 24, [22]⟩, ⟨26, (.sl T_Shelf), false, 0, 52, 24, []⟩, ⟨27, (.sl T_Shelf), true, 1, 0, 24, [26]⟩, ⟨28, T_Model, true, 1, 0, 24, [26]⟩, ⟨50, (.sl .str), false, 0, 9, 24, []⟩, ⟨51, (.pr .str (.sl .str)), true, 2, 0, 40, [9, 50]⟩, ⟨52, T_Shelf, true, 2, 0, 40, [9, 50]⟩, ⟨62, TL_Shelf, true, 2, 0, 40, [9, 50]⟩, ⟨73, (.sl (.int .u8)), false, 0, 5, 24, []⟩, ⟨87, (.int .u32), false, 0, 0, 4, []⟩, ⟨88, (.int .u8), false, 0, 0, 1, []⟩, ⟨89, (.int .u8), false, 0, 0, 1, []⟩, ⟨92, (.int .i32), false, 0, 0, 4, []⟩, ⟨93, (.int .i32), false, 0, 0, 4, []⟩]
theorem ttok : TtOk Proofs.Try.prog tt := by
  refine ⟨?_, by kernel_rfl⟩
  intro te h
  simp only [tt, List.mem_cons, List.not_mem_nil, or_false] at h
  rcases h with rfl | rfl | rfl | rfl | rfl | rfl | rfl | rfl | rfl | rfl | rfl | rfl | rfl | rfl | rfl | rfl | rfl | rfl | rfl | rfl | rfl | rfl | rfl | rfl | rfl | rfl | rfl | rfl | rfl | rfl <;> exact ⟨by kernel_rfl, by kernel_rfl, by kernel_rfl, by kernel_rfl⟩
def mt : MT := [(47, 9, 3)]
theorem mtok : MtOk Proofs.Try.prog mt := .cons (by kernel_rfl) (.nil)
end Go.Sx
