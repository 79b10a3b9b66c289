/- The types of the program, read off it. Conditions: none. -/
import Derived.Test.YtcnlhdaeeeolbaaAmT
import Derived.Test.YtcnlhdaeeeolbaaAmX
import Derived.Test.YtcnlhdaeeeolbaaProg
import Derived.KernelRfl
set_option linter.unusedSimpArgs false
set_option linter.unusedVariables false
namespace Go.AM
open Go Go.Proofs
noncomputable def C0 : Cx := ⟨tiOf Try.prog, fun n => .junk⟩
set_option maxRecDepth 100000 in
theorem mixedOk : Try.prog.follows .mixedOrders = true := by kernel_rfl
theorem hP : PrOk Try.prog C0 := prOk _ _ mixedOk
theorem T1 : C0.T 1 = ⟨1, 8, false, [.sc .nilFunc], .other, false, []⟩ := by kernel_rfl
theorem T2 : C0.T 2 = ⟨1, 8, false, [.sc (.int .i64 0)], .int .i64, false, []⟩ := by kernel_rfl
theorem T3 : C0.T 3 = ⟨1, 8, false, [.sc (.int .i64 0)], .int .i64, false, []⟩ := by kernel_rfl
theorem T4 : C0.T 4 = ⟨1, 1, false, [.sc (.bool false)], .bool, false, []⟩ := by kernel_rfl
theorem T5 : C0.T 5 = ⟨1, 1, false, [.sc (.int .u8 0)], .int .u8, false, []⟩ := by kernel_rfl
theorem T6 : C0.T 6 = ⟨1, 1, false, [.sc (.int .u8 0)], .int .u8, false, []⟩ := by kernel_rfl
theorem T7 : C0.T 7 = ⟨4, 24, true, [.sc (.int .i64 0), .sc (.int .i64 0), .sc (.bool false), .sc (.int .u8 0)], .struct [(0, 1), (1, 1), (2, 1), (3, 1)], true, [2, 3, 4, 6]⟩ := by kernel_rfl
theorem T8 : C0.T 8 = ⟨4, 24, true, [.sc (.int .i64 0), .sc (.int .i64 0), .sc (.bool false), .sc (.int .u8 0)], .struct [(0, 1), (1, 1), (2, 1), (3, 1)], true, [2, 3, 4, 6]⟩ := by kernel_rfl
theorem T9 : C0.T 9 = ⟨1, 16, false, [.sc (.string (ByteArray.mk #[]))], .str, false, []⟩ := by kernel_rfl
theorem T10 : C0.T 10 = ⟨1, 16, false, [.sc (.string (ByteArray.mk #[]))], .str, false, []⟩ := by kernel_rfl
theorem T11 : C0.T 11 = ⟨1, 16, false, [.sc (.string (ByteArray.mk #[]))], .str, false, []⟩ := by kernel_rfl
theorem T12 : C0.T 12 = ⟨1, 8, false, [.sc (.int .u64 0)], .int .u64, false, []⟩ := by kernel_rfl
theorem T13 : C0.T 13 = ⟨2, 24, true, [.sc (.string (ByteArray.mk #[])), .sc (.int .u64 0)], .struct [(0, 1), (1, 1)], false, [9, 12]⟩ := by kernel_rfl
theorem T14 : C0.T 14 = ⟨2, 24, true, [.sc (.string (ByteArray.mk #[])), .sc (.int .u64 0)], .struct [(0, 1), (1, 1)], false, [9, 12]⟩ := by kernel_rfl
theorem T15 : C0.T 15 = ⟨1, 8, false, [.sc (.pointer none)], .other, false, []⟩ := by kernel_rfl
theorem T16 : C0.T 16 = ⟨1, 8, false, [.sc (.pointer none)], .other, false, []⟩ := by kernel_rfl
theorem T17 : C0.T 17 = ⟨1, 8, false, [.sc (.pointer none)], .other, false, []⟩ := by kernel_rfl
theorem T18 : C0.T 18 = ⟨1, 8, true, [.sc (.pointer none)], .struct [(0, 1)], false, [17]⟩ := by kernel_rfl
theorem T19 : C0.T 19 = ⟨1, 8, true, [.sc (.pointer none)], .struct [(0, 1)], false, [17]⟩ := by kernel_rfl
theorem T20 : C0.T 20 = ⟨1, 16, false, [.sc .nilIface], .other, false, []⟩ := by kernel_rfl
theorem T21 : C0.T 21 = ⟨1, 4, false, [.sc (.int .i32 0)], .int .i32, false, []⟩ := by kernel_rfl
theorem T22 : C0.T 22 = ⟨1, 24, false, [.sc (.slice none 0 0)], .slice 5, false, []⟩ := by kernel_rfl
theorem T23 : C0.T 23 = ⟨1, 24, false, [.sc (.slice none 0 0)], .slice 45, false, []⟩ := by kernel_rfl
theorem T24 : C0.T 24 = ⟨2, 16, true, [.sc (.int .i64 0), .sc (.int .i64 0)], .struct [(0, 1), (1, 1)], true, [3, 3]⟩ := by kernel_rfl
theorem T25 : C0.T 25 = ⟨2, 16, true, [.sc (.int .i64 0), .sc (.int .i64 0)], .struct [(0, 1), (1, 1)], true, [3, 3]⟩ := by kernel_rfl
theorem T27 : C0.T 27 = ⟨1, 8, false, [.sc .nilFunc], .other, false, []⟩ := by kernel_rfl
theorem T28 : C0.T 28 = ⟨1, 8, false, [.sc .nilFunc], .other, false, []⟩ := by kernel_rfl
theorem T29 : C0.T 29 = ⟨1, 8, false, [.sc .nilFunc], .other, false, []⟩ := by kernel_rfl
theorem T30 : C0.T 30 = ⟨1, 8, false, [.sc .nilFunc], .other, false, []⟩ := by kernel_rfl
theorem T31 : C0.T 31 = ⟨1, 8, false, [.sc .nilFunc], .other, false, []⟩ := by kernel_rfl
theorem T32 : C0.T 32 = ⟨1, 8, false, [.sc .nilFunc], .other, false, []⟩ := by kernel_rfl
theorem T33 : C0.T 33 = ⟨1, 8, false, [.sc .nilFunc], .other, false, []⟩ := by kernel_rfl
theorem T34 : C0.T 34 = ⟨1, 8, false, [.sc .nilFunc], .other, false, []⟩ := by kernel_rfl
theorem T35 : C0.T 35 = ⟨1, 8, false, [.sc .nilFunc], .other, false, []⟩ := by kernel_rfl
theorem T36 : C0.T 36 = ⟨1, 2, false, [.sc (.int .u16 0)], .int .u16, false, []⟩ := by kernel_rfl
theorem T37 : C0.T 37 = ⟨1, 8, false, [.sc .nilFunc], .other, false, []⟩ := by kernel_rfl
theorem T38 : C0.T 38 = ⟨1, 8, false, [.sc (.pointer none)], .other, false, []⟩ := by kernel_rfl
theorem T39 : C0.T 39 = ⟨2, 32, true, [.sc (.slice none 0 0), .sc (.int .i64 0)], .struct [(0, 1), (1, 1)], false, [22, 3]⟩ := by kernel_rfl
theorem T40 : C0.T 40 = ⟨2, 32, true, [.sc (.slice none 0 0), .sc (.int .i64 0)], .struct [(0, 1), (1, 1)], false, [22, 3]⟩ := by kernel_rfl
theorem T41 : C0.T 41 = ⟨1, 24, false, [.sc (.slice none 0 0)], .slice 63, false, []⟩ := by kernel_rfl
theorem T42 : C0.T 42 = ⟨2, 32, true, [.sc (.int .i64 0), .sc (.slice none 0 0)], .struct [(0, 1), (1, 1)], false, [3, 41]⟩ := by kernel_rfl
theorem T43 : C0.T 43 = ⟨2, 32, true, [.sc (.int .i64 0), .sc (.slice none 0 0)], .struct [(0, 1), (1, 1)], false, [3, 41]⟩ := by kernel_rfl
theorem T44 : C0.T 44 = ⟨3, 40, true, [.sc (.int .i64 0), .sc (.int .i64 0), .sc (.slice none 0 0)], .struct [(0, 1), (1, 2)], false, [3, 43]⟩ := by kernel_rfl
theorem T45 : C0.T 45 = ⟨3, 40, true, [.sc (.int .i64 0), .sc (.int .i64 0), .sc (.slice none 0 0)], .struct [(0, 1), (1, 2)], false, [3, 43]⟩ := by kernel_rfl
theorem T47 : C0.T 47 = ⟨1, 8, false, [.sc .nilFunc], .other, false, []⟩ := by kernel_rfl
theorem T48 : C0.T 48 = ⟨1, 8, false, [.sc .nilFunc], .other, false, []⟩ := by kernel_rfl
theorem T49 : C0.T 49 = ⟨1, 8, false, [.sc (.pointer none)], .other, false, []⟩ := by kernel_rfl
theorem T50 : C0.T 50 = ⟨2, 32, true, [.sc (.slice none 0 0), .sc (.int .i64 0)], .struct [(0, 1), (1, 1)], false, [22, 3]⟩ := by kernel_rfl
theorem T51 : C0.T 51 = ⟨2, 32, true, [.sc (.slice none 0 0), .sc (.int .i64 0)], .struct [(0, 1), (1, 1)], false, [22, 3]⟩ := by kernel_rfl
theorem T52 : C0.T 52 = ⟨1, 8, false, [.sc .nilFunc], .other, false, []⟩ := by kernel_rfl
theorem T53 : C0.T 53 = ⟨1, 8, false, [.sc .nilFunc], .other, false, []⟩ := by kernel_rfl
theorem T54 : C0.T 54 = ⟨1, 8, false, [.sc .nilFunc], .other, false, []⟩ := by kernel_rfl
theorem T55 : C0.T 55 = ⟨1, 8, false, [.sc .nilFunc], .other, false, []⟩ := by kernel_rfl
theorem T56 : C0.T 56 = ⟨1, 8, false, [.sc .nilFunc], .other, false, []⟩ := by kernel_rfl
theorem T57 : C0.T 57 = ⟨1, 8, false, [.sc .nilFunc], .other, false, []⟩ := by kernel_rfl
theorem T59 : C0.T 59 = ⟨1, 8, false, [.sc .nilFunc], .other, false, []⟩ := by kernel_rfl
theorem T60 : C0.T 60 = ⟨1, 8, false, [.sc .nilFunc], .other, false, []⟩ := by kernel_rfl
theorem T61 : C0.T 61 = ⟨1, 8, false, [.sc .nilFunc], .other, false, []⟩ := by kernel_rfl
theorem T62 : C0.T 62 = ⟨3, 24, true, [.sc (.int .i64 0), .sc (.int .i64 0), .sc (.int .i64 0)], .struct [(0, 1), (1, 1), (2, 1)], true, [3, 3, 3]⟩ := by kernel_rfl
theorem T63 : C0.T 63 = ⟨3, 24, true, [.sc (.int .i64 0), .sc (.int .i64 0), .sc (.int .i64 0)], .struct [(0, 1), (1, 1), (2, 1)], true, [3, 3, 3]⟩ := by kernel_rfl
theorem T65 : C0.T 65 = ⟨1, 8, false, [.sc .nilFunc], .other, false, []⟩ := by kernel_rfl
attribute [go_sem] T1 T2 T3 T4 T5 T6 T7 T8 T9 T10 T11 T12 T13 T14 T15 T16 T17 T18 T19 T20 T21 T22 T23 T24 T25 T27 T28 T29 T30 T31 T32 T33 T34 T35 T36 T37 T38 T39 T40 T41 T42 T43 T44 T45 T47 T48 T49 T50 T51 T52 T53 T54 T55 T56 T57 T59 T60 T61 T62 T63 T65
end Go.AM
