import Derived.Test.YtbnmeeajooljmaaMPu
import Derived.Test.YtbnmeeajooljmaaSxZ
import Derived.Test.YtbnmeeajooljmaaProg
set_option linter.all false
namespace Go.Sx
open Go
set_option maxRecDepth 100000
set_option linter.unusedVariables false
set_option linter.unusedSimpArgs false
abbrev T_Put : Ty := (.pr .bool (.pr (.int .i64) .str))
abbrev T_Disk : Ty := (.pr (.int .i64) (.pr (.sl .str) (.pr (.sl .str) (.pr (.sl .bool) (.sl T_Put)))))
abbrev TL_Put : Ty := (.pr .bool (.pr (.int .i64) .str))
abbrev TL_Disk : Ty := (.pr (.int .i64) (.pr (.sl .str) (.pr (.sl .str) (.pr (.sl .bool) (.sl TL_Put)))))
abbrev T_l6Rd : Ty := (.pr (.sl (.int .u8)) (.int .i64))
abbrev T_harmed : Ty := (.pr (.int .i64) (.arr 12 .bool))
abbrev T_drive : Ty := (.pr T_harmed (.pr (.arr 12 .str) (.pr (.arr 2 .str) .pt)))
abbrev T_waiting : Ty := (.pr T_Put .pt)
def tt : TT := [⟨2, (.int .i64), false, 0, 0, 8, []⟩, ⟨3, (.int .i64), false, 0, 0, 8, []⟩, ⟨4, .bool, false, 0, 0, 1, []⟩, ⟨5, (.int .u8), false, 0, 0, 1, []⟩, ⟨6, (.int .u8), false, 0, 0, 1, []⟩, ⟨7, (.pr (.int .i64) (.pr (.int .i64) (.pr .bool (.int .u8)))), true, 4, 0, 24, [2, 3, 4, 6]⟩, ⟨8, (.pr (.int .i64) (.pr (.int .i64) (.pr .bool (.int .u8)))), true, 4, 0, 24, [2, 3, 4, 6]⟩, ⟨9, .str, false, 0, 0, 16, []⟩, ⟨10, .str, false, 0, 0, 16, []⟩, ⟨11, .str, false, 0, 0, 16, []⟩, ⟨12, (.int .u64), false, 0, 0, 8, []⟩, ⟨13, (.pr .str (.int .u64)), true, 2, 0, 24, [9, 12]⟩, ⟨14, (.pr .str (.int .u64)), true, 2, 0, 24, [9, 12]⟩, ⟨21, (.int .i32), false, 0, 0, 4, []⟩, ⟨22, (.sl (.int .u8)), false, 0, 5, 24, []⟩, ⟨23, (.sl .str), false, 0, 9, 24, []⟩, ⟨24, (.sl .bool), false, 0, 4, 24, []⟩, ⟨25, (.sl T_Put), false, 0, 33, 24, []⟩, ⟨26, (.pr (.int .i64) (.pr (.sl .str) (.pr (.sl .str) (.pr (.sl .bool) (.sl T_Put))))), true, 5, 0, 104, [3, 23, 23, 24, 25]⟩, ⟨27, T_Disk, true, 5, 0, 104, [3, 23, 23, 24, 25]⟩, ⟨32, (.pr .bool (.pr (.int .i64) .str)), true, 3, 0, 32, [4, 3, 9]⟩, ⟨33, T_Put, true, 3, 0, 32, [4, 3, 9]⟩, ⟨44, (.sl TL_Put), false, 0, 100, 24, []⟩, ⟨45, (.pr (.int .i64) (.pr (.sl .str) (.pr (.sl .str) (.pr (.sl .bool) (.sl TL_Put))))), true, 5, 0, 104, [3, 23, 23, 24, 44]⟩, ⟨46, TL_Disk, true, 5, 0, 104, [3, 23, 23, 24, 44]⟩, ⟨51, .pt, false, 0, 0, 8, []⟩, ⟨56, .pt, false, 0, 0, 8, []⟩, ⟨62, (.sl (.int .i64)), false, 0, 3, 24, []⟩, ⟨75, (.pr (.sl (.int .u8)) (.int .i64)), true, 2, 0, 32, [22, 3]⟩, ⟨76, T_l6Rd, true, 2, 0, 32, [22, 3]⟩, ⟨81, (.arr 12 .bool), true, 0, 4, 12, []⟩, ⟨82, (.pr (.int .i64) (.arr 12 .bool)), true, 2, 0, 24, [3, 81]⟩, ⟨83, T_harmed, true, 2, 0, 24, [3, 81]⟩, ⟨84, (.arr 12 .str), true, 0, 9, 192, []⟩, ⟨85, (.arr 2 .str), true, 0, 9, 32, []⟩, ⟨86, .pt, false, 0, 0, 8, []⟩, ⟨87, (.pr T_harmed (.pr (.arr 12 .str) (.pr (.arr 2 .str) .pt))), true, 4, 0, 256, [83, 84, 85, 86]⟩, ⟨88, T_drive, true, 4, 0, 256, [83, 84, 85, 86]⟩, ⟨95, (.pr T_Put .pt), true, 2, 0, 40, [33, 86]⟩, ⟨96, T_waiting, true, 2, 0, 40, [33, 86]⟩, ⟨100, TL_Put, true, 3, 0, 32, [4, 3, 9]⟩, ⟨113, (.int .u32), false, 0, 0, 4, []⟩, ⟨114, (.int .u8), false, 0, 0, 1, []⟩, ⟨115, (.int .u8), false, 0, 0, 1, []⟩, ⟨118, (.int .i32), false, 0, 0, 4, []⟩, ⟨119, (.int .i32), false, 0, 0, 4, []⟩, ⟨22, (.sl (.int .u8)), false, 0, 5, 24, []⟩, ⟨23, (.sl .str), false, 0, 9, 24, []⟩]
theorem ttok : TtOk Proofs.Try.prog tt := by
  refine ⟨?_, by kernel_rfl⟩
  intro te h
  simp only [tt, List.mem_cons, List.not_mem_nil, or_false] at h
  rcases h with rfl | rfl | rfl | rfl | rfl | rfl | rfl | rfl | rfl | rfl | rfl | rfl | rfl | rfl | rfl | rfl | rfl | rfl | rfl | rfl | rfl | rfl | rfl | rfl | rfl | rfl | rfl | rfl | rfl | rfl | rfl | rfl | rfl | rfl | rfl | rfl | rfl | rfl | rfl | rfl | rfl | rfl | rfl | rfl | rfl | rfl | rfl | rfl <;> exact ⟨by kernel_rfl, by kernel_rfl, by kernel_rfl, by kernel_rfl⟩
def mt : MT := [(33, 33, 0)]
theorem mtok : MtOk Proofs.Try.prog mt := .eqs (by kernel_rfl) (.nil)
end Go.Sx
