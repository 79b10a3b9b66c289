/- The types of the program, read off it. Conditions: none. -/
import Derived.Test.YthcdhlglaeaieaaGreatDoorAmB4
import Derived.Test.YthcdhlglaeaieaaGreatDoorAmB5
import Derived.Test.YthcdhlglaeaieaaGreatDoorProg
import Derived.KernelRfl
set_option linter.unusedSimpArgs false
set_option linter.unusedVariables false
namespace Go.AM
open Go Go.Proofs
def gl_devWords : List (List AV) := [[.sc (.string ⟨#[110, 97, 110]⟩)], [.sc (.string ⟨#[105, 110, 102]⟩)], [.sc (.string ⟨#[45, 105, 110, 102]⟩)], [.sc (.string ⟨#[45, 48, 46, 48]⟩)]]
def gl_devSizes : List (List AV) := [[.sc (.int .i64 0)], [.sc (.int .i64 32)], [.sc (.int .i64 32)], [.sc (.int .i64 64)], [.sc (.int .i64 16)], [.sc (.int .i64 32)], [.sc (.int .i64 5)], [.sc (.int .i64 16)], [.sc (.int .i64 16)], [.sc (.int .i64 32)], [.sc (.int .i64 16)]]
noncomputable def C0 : Cx := ⟨tiOf Tryz.prog, fun n => if n = 1 then .fp 1 [[.fz 1 gl_devSizes]] 0 0 else if n = 2 then .fp 1 [[.fz 1 gl_devWords]] 0 0 else .junk⟩
theorem C0_G1 : C0.G 1 = .fp 1 [[.fz 1 gl_devSizes]] 0 0 := rfl
theorem C0_G2 : C0.G 2 = .fp 1 [[.fz 1 gl_devWords]] 0 0 := rfl
attribute [go_sem] C0_G1 C0_G2
set_option maxRecDepth 100000 in
theorem mixedOk : Tryz.prog.follows .mixedOrders = true := by kernel_rfl
theorem hP : PrOk Tryz.prog C0 := prOk _ _ mixedOk
theorem T3 : C0.T 3 = ⟨1, 8, false, [.sc (.int .i64 0)], .int .i64, false, []⟩ := by kernel_rfl
theorem T4 : C0.T 4 = ⟨1, 1, false, [.sc (.bool false)], .bool, false, []⟩ := by kernel_rfl
theorem T5 : C0.T 5 = ⟨1, 1, false, [.sc (.int .u8 0)], .int .u8, false, []⟩ := by kernel_rfl
theorem T9 : C0.T 9 = ⟨1, 16, false, [.sc (.string (ByteArray.mk #[]))], .str, false, []⟩ := by kernel_rfl
theorem T22 : C0.T 22 = ⟨1, 24, false, [.sc (.slice none 0 0)], .slice 5, false, []⟩ := by kernel_rfl
theorem T27 : C0.T 27 = ⟨1, 24, false, [.sc (.slice none 0 0)], .slice 89, false, []⟩ := by kernel_rfl
theorem T31 : C0.T 31 = ⟨2, 16, true, [.sc (.int .i64 0), .sc (.int .i64 0)], .struct [(0, 1), (1, 1)], true, [3, 3]⟩ := by kernel_rfl
theorem T34 : C0.T 34 = ⟨2, 16, true, [.sc (.int .i64 0), .sc (.int .i64 0)], .struct [(0, 1), (1, 1)], true, [3, 3]⟩ := by kernel_rfl
theorem T42 : C0.T 42 = ⟨1, 24, false, [.sc (.slice none 0 0)], .slice 136, false, []⟩ := by kernel_rfl
theorem T50 : C0.T 50 = ⟨2, 16, true, [.sc (.int .i64 0), .sc (.int .i64 0)], .struct [(0, 1), (1, 1)], true, [3, 3]⟩ := by kernel_rfl
theorem T53 : C0.T 53 = ⟨2, 16, true, [.sc (.int .i64 0), .sc (.int .i64 0)], .struct [(0, 1), (1, 1)], true, [3, 3]⟩ := by kernel_rfl
theorem T58 : C0.T 58 = ⟨1, 2, false, [.sc (.int .u16 0)], .int .u16, false, []⟩ := by kernel_rfl
theorem T85 : C0.T 85 = ⟨1, 24, false, [.sc (.slice none 0 0)], .slice 171, false, []⟩ := by kernel_rfl
theorem T87 : C0.T 87 = ⟨2, 32, true, [.sc (.int .i64 0), .sc (.slice none 0 0)], .struct [(0, 1), (1, 1)], false, [3, 85]⟩ := by kernel_rfl
theorem T89 : C0.T 89 = ⟨3, 40, true, [.sc (.int .i64 0), .sc (.int .i64 0), .sc (.slice none 0 0)], .struct [(0, 1), (1, 2)], false, [3, 87]⟩ := by kernel_rfl
theorem T92 : C0.T 92 = ⟨1, 8, false, [.sc (.pointer none)], .other, false, []⟩ := by kernel_rfl
theorem T97 : C0.T 97 = ⟨1, 24, false, [.sc (.slice none 0 0)], .slice 3, false, []⟩ := by kernel_rfl
theorem T107 : C0.T 107 = ⟨2, 32, true, [.sc (.slice none 0 0), .sc (.int .i64 0)], .struct [(0, 1), (1, 1)], false, [22, 3]⟩ := by kernel_rfl
theorem T111 : C0.T 111 = ⟨4, 24, true, [.sc (.int .i64 0), .sc (.int .i64 0), .sc (.bool false), .sc (.bool false)], .struct [(0, 1), (1, 1), (2, 1), (3, 1)], true, [3, 3, 4, 4]⟩ := by kernel_rfl
theorem T131 : C0.T 131 = ⟨1, 24, false, [.sc (.slice none 0 0)], .slice 133, false, []⟩ := by kernel_rfl
theorem T133 : C0.T 133 = ⟨4, 64, true, [.sc (.int .i64 0), .sc (.int .i64 0), .sc (.slice none 0 0), .sc (.slice none 0 0)], .struct [(0, 1), (1, 2), (3, 1)], false, [3, 87, 131]⟩ := by kernel_rfl
theorem T134 : C0.T 134 = ⟨1, 24, false, [.sc (.slice none 0 0)], .slice 87, false, []⟩ := by kernel_rfl
theorem T136 : C0.T 136 = ⟨6, 112, true, [.sc (.int .i64 0), .sc (.int .i64 0), .sc (.slice none 0 0), .sc (.slice none 0 0), .sc (.slice none 0 0), .sc (.slice none 0 0)], .struct [(0, 4), (4, 1), (5, 1)], false, [133, 134, 42]⟩ := by kernel_rfl
theorem T164 : C0.T 164 = ⟨2, 32, true, [.sc (.slice none 0 0), .sc (.int .i64 0)], .struct [(0, 1), (1, 1)], false, [22, 3]⟩ := by kernel_rfl
theorem T171 : C0.T 171 = ⟨3, 24, true, [.sc (.int .i64 0), .sc (.int .i64 0), .sc (.int .i64 0)], .struct [(0, 1), (1, 1), (2, 1)], true, [3, 3, 3]⟩ := by kernel_rfl
theorem T178 : C0.T 178 = ⟨1, 24, false, [.sc (.slice none 0 0)], .slice 22, false, []⟩ := by kernel_rfl
theorem T184 : C0.T 184 = ⟨6, 56, true, [.sc (.pointer none), .sc (.slice none 0 0), .sc (.int .i64 0), .sc (.int .i64 0), .sc (.bool false), .sc (.bool false)], .struct [(0, 1), (1, 1), (2, 1), (3, 1), (4, 1), (5, 1)], false, [92, 27, 3, 3, 4, 4]⟩ := by kernel_rfl
theorem T225 : C0.T 225 = ⟨2, 32, true, [.sc (.slice none 0 0), .sc (.int .i64 0)], .struct [(0, 1), (1, 1)], false, [22, 3]⟩ := by kernel_rfl
theorem T239 : C0.T 239 = ⟨1, 8, false, [.sc .nilFunc], .other, false, []⟩ := by kernel_rfl
theorem T266 : C0.T 266 = ⟨1, 24, false, [.sc (.slice none 0 0)], .slice 9, false, []⟩ := by kernel_rfl
attribute [go_sem] T3 T4 T5 T9 T22 T27 T31 T34 T42 T50 T53 T58 T85 T87 T89 T92 T97 T107 T111 T131 T133 T134 T136 T164 T171 T178 T184 T225 T239 T266
end Go.AM
