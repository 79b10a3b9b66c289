/- The types of the program, read off it. Conditions: none. -/
import Derived.Test.YtcnlhdaeeeolbaaDoorAmB6
import Derived.Test.YtcnlhdaeeeolbaaDoorAmB6
import Derived.Test.YtcnlhdaeeeolbaaDoorProg
import Derived.KernelRfl
set_option linter.unusedSimpArgs false
set_option linter.unusedVariables false
namespace Go.AM
open Go Go.Proofs
def gl_devSizes : List (List AV) := [[.sc (.int .i64 0)], [.sc (.int .i64 32)], [.sc (.int .i64 32)], [.sc (.int .i64 64)], [.sc (.int .i64 16)], [.sc (.int .i64 32)], [.sc (.int .i64 5)], [.sc (.int .i64 16)], [.sc (.int .i64 16)], [.sc (.int .i64 32)], [.sc (.int .i64 16)]]
def gl_devWords : List (List AV) := [[.sc (.string ⟨#[110, 97, 110]⟩)], [.sc (.string ⟨#[105, 110, 102]⟩)], [.sc (.string ⟨#[45, 105, 110, 102]⟩)], [.sc (.string ⟨#[45, 48, 46, 48]⟩)]]
noncomputable def C0 : Cx := ⟨tiOf Tryd.prog, fun n => if n = 0 then .fp 1 [[.fz 1 gl_devWords]] 0 0 else if n = 1 then .fp 1 [[.fz 1 gl_devSizes]] 0 0 else .junk⟩
theorem C0_G0 : C0.G 0 = .fp 1 [[.fz 1 gl_devWords]] 0 0 := rfl
theorem C0_G1 : C0.G 1 = .fp 1 [[.fz 1 gl_devSizes]] 0 0 := rfl
attribute [go_sem] C0_G0 C0_G1
set_option maxRecDepth 100000 in
theorem mixedOk : Tryd.prog.follows .mixedOrders = true := by kernel_rfl
theorem hP : PrOk Tryd.prog C0 := prOk _ _ mixedOk
theorem T1 : C0.T 1 = ⟨1, 8, false, [.sc .nilFunc], .other, false, []⟩ := by kernel_rfl
theorem T2 : C0.T 2 = ⟨1, 8, false, [.sc (.int .i64 0)], .int .i64, false, []⟩ := by kernel_rfl
theorem T3 : C0.T 3 = ⟨1, 8, false, [.sc (.int .i64 0)], .int .i64, false, []⟩ := by kernel_rfl
theorem T4 : C0.T 4 = ⟨1, 1, false, [.sc (.bool false)], .bool, false, []⟩ := by kernel_rfl
theorem T5 : C0.T 5 = ⟨1, 1, false, [.sc (.int .u8 0)], .int .u8, false, []⟩ := by kernel_rfl
theorem T6 : C0.T 6 = ⟨1, 1, false, [.sc (.int .u8 0)], .int .u8, false, []⟩ := by kernel_rfl
theorem T7 : C0.T 7 = ⟨4, 24, true, [.sc (.int .i64 0), .sc (.int .i64 0), .sc (.bool false), .sc (.int .u8 0)], .struct [(0, 1), (1, 1), (2, 1), (3, 1)], true, [2, 3, 4, 6]⟩ := by kernel_rfl
theorem T8 : C0.T 8 = ⟨4, 24, true, [.sc (.int .i64 0), .sc (.int .i64 0), .sc (.bool false), .sc (.int .u8 0)], .struct [(0, 1), (1, 1), (2, 1), (3, 1)], true, [2, 3, 4, 6]⟩ := by kernel_rfl
theorem T9 : C0.T 9 = ⟨1, 16, false, [.sc (.string (ByteArray.mk #[]))], .str, false, []⟩ := by kernel_rfl
theorem T10 : C0.T 10 = ⟨1, 16, false, [.sc (.string (ByteArray.mk #[]))], .str, false, []⟩ := by kernel_rfl
theorem T11 : C0.T 11 = ⟨1, 16, false, [.sc (.string (ByteArray.mk #[]))], .str, false, []⟩ := by kernel_rfl
theorem T12 : C0.T 12 = ⟨1, 8, false, [.sc (.int .u64 0)], .int .u64, false, []⟩ := by kernel_rfl
theorem T13 : C0.T 13 = ⟨2, 24, true, [.sc (.string (ByteArray.mk #[])), .sc (.int .u64 0)], .struct [(0, 1), (1, 1)], false, [9, 12]⟩ := by kernel_rfl
theorem T14 : C0.T 14 = ⟨2, 24, true, [.sc (.string (ByteArray.mk #[])), .sc (.int .u64 0)], .struct [(0, 1), (1, 1)], false, [9, 12]⟩ := by kernel_rfl
theorem T15 : C0.T 15 = ⟨1, 8, false, [.sc (.pointer none)], .other, false, []⟩ := by kernel_rfl
theorem T16 : C0.T 16 = ⟨1, 8, false, [.sc (.pointer none)], .other, false, []⟩ := by kernel_rfl
theorem T17 : C0.T 17 = ⟨1, 8, false, [.sc (.pointer none)], .other, false, []⟩ := by kernel_rfl
theorem T18 : C0.T 18 = ⟨1, 8, true, [.sc (.pointer none)], .struct [(0, 1)], false, [17]⟩ := by kernel_rfl
theorem T19 : C0.T 19 = ⟨1, 8, true, [.sc (.pointer none)], .struct [(0, 1)], false, [17]⟩ := by kernel_rfl
theorem T20 : C0.T 20 = ⟨1, 16, false, [.sc .nilIface], .other, false, []⟩ := by kernel_rfl
theorem T21 : C0.T 21 = ⟨1, 4, false, [.sc (.int .i32 0)], .int .i32, false, []⟩ := by kernel_rfl
theorem T22 : C0.T 22 = ⟨1, 24, false, [.sc (.slice none 0 0)], .slice 5, false, []⟩ := by kernel_rfl
theorem T23 : C0.T 23 = ⟨1, 24, false, [.sc (.slice none 0 0)], .slice 41, false, []⟩ := by kernel_rfl
theorem T25 : C0.T 25 = ⟨1, 8, false, [.sc .nilFunc], .other, false, []⟩ := by kernel_rfl
theorem T26 : C0.T 26 = ⟨1, 8, false, [.sc .nilFunc], .other, false, []⟩ := by kernel_rfl
theorem T27 : C0.T 27 = ⟨1, 8, false, [.sc .nilFunc], .other, false, []⟩ := by kernel_rfl
theorem T28 : C0.T 28 = ⟨1, 8, false, [.sc .nilFunc], .other, false, []⟩ := by kernel_rfl
theorem T29 : C0.T 29 = ⟨1, 8, false, [.sc .nilFunc], .other, false, []⟩ := by kernel_rfl
theorem T30 : C0.T 30 = ⟨1, 8, false, [.sc .nilFunc], .other, false, []⟩ := by kernel_rfl
theorem T31 : C0.T 31 = ⟨1, 8, false, [.sc .nilFunc], .other, false, []⟩ := by kernel_rfl
theorem T32 : C0.T 32 = ⟨1, 8, false, [.sc .nilFunc], .other, false, []⟩ := by kernel_rfl
theorem T34 : C0.T 34 = ⟨1, 8, false, [.sc .nilFunc], .other, false, []⟩ := by kernel_rfl
theorem T35 : C0.T 35 = ⟨1, 8, false, [.sc .nilFunc], .other, false, []⟩ := by kernel_rfl
theorem T36 : C0.T 36 = ⟨1, 8, false, [.sc .nilFunc], .other, false, []⟩ := by kernel_rfl
theorem T37 : C0.T 37 = ⟨1, 24, false, [.sc (.slice none 0 0)], .slice 54, false, []⟩ := by kernel_rfl
theorem T38 : C0.T 38 = ⟨2, 32, true, [.sc (.int .i64 0), .sc (.slice none 0 0)], .struct [(0, 1), (1, 1)], false, [3, 37]⟩ := by kernel_rfl
theorem T39 : C0.T 39 = ⟨2, 32, true, [.sc (.int .i64 0), .sc (.slice none 0 0)], .struct [(0, 1), (1, 1)], false, [3, 37]⟩ := by kernel_rfl
theorem T40 : C0.T 40 = ⟨3, 40, true, [.sc (.int .i64 0), .sc (.int .i64 0), .sc (.slice none 0 0)], .struct [(0, 1), (1, 2)], false, [3, 39]⟩ := by kernel_rfl
theorem T41 : C0.T 41 = ⟨3, 40, true, [.sc (.int .i64 0), .sc (.int .i64 0), .sc (.slice none 0 0)], .struct [(0, 1), (1, 2)], false, [3, 39]⟩ := by kernel_rfl
theorem T42 : C0.T 42 = ⟨1, 8, false, [.sc .nilFunc], .other, false, []⟩ := by kernel_rfl
theorem T43 : C0.T 43 = ⟨2, 16, true, [.sc (.int .i64 0), .sc (.int .i64 0)], .struct [(0, 1), (1, 1)], true, [3, 3]⟩ := by kernel_rfl
theorem T44 : C0.T 44 = ⟨2, 16, true, [.sc (.int .i64 0), .sc (.int .i64 0)], .struct [(0, 1), (1, 1)], true, [3, 3]⟩ := by kernel_rfl
theorem T46 : C0.T 46 = ⟨1, 8, false, [.sc .nilFunc], .other, false, []⟩ := by kernel_rfl
theorem T47 : C0.T 47 = ⟨2, 16, true, [.sc (.int .i64 0), .sc (.int .i64 0)], .struct [(0, 1), (1, 1)], true, [3, 3]⟩ := by kernel_rfl
theorem T48 : C0.T 48 = ⟨1, 8, false, [.sc .nilFunc], .other, false, []⟩ := by kernel_rfl
theorem T49 : C0.T 49 = ⟨1, 8, false, [.sc (.int .u64 0)], .int .u64, false, []⟩ := by kernel_rfl
theorem T50 : C0.T 50 = ⟨1, 8, false, [.sc .nilFunc], .other, false, []⟩ := by kernel_rfl
theorem T51 : C0.T 51 = ⟨1, 8, false, [.sc .nilFunc], .other, false, []⟩ := by kernel_rfl
theorem T52 : C0.T 52 = ⟨1, 8, false, [.sc .nilFunc], .other, false, []⟩ := by kernel_rfl
theorem T53 : C0.T 53 = ⟨3, 24, true, [.sc (.int .i64 0), .sc (.int .i64 0), .sc (.int .i64 0)], .struct [(0, 1), (1, 1), (2, 1)], true, [3, 3, 3]⟩ := by kernel_rfl
theorem T54 : C0.T 54 = ⟨3, 24, true, [.sc (.int .i64 0), .sc (.int .i64 0), .sc (.int .i64 0)], .struct [(0, 1), (1, 1), (2, 1)], true, [3, 3, 3]⟩ := by kernel_rfl
theorem T55 : C0.T 55 = ⟨1, 2, false, [.sc (.int .u16 0)], .int .u16, false, []⟩ := by kernel_rfl
theorem T56 : C0.T 56 = ⟨1, 8, false, [.sc .nilFunc], .other, false, []⟩ := by kernel_rfl
theorem T57 : C0.T 57 = ⟨1, 8, false, [.sc (.pointer none)], .other, false, []⟩ := by kernel_rfl
theorem T58 : C0.T 58 = ⟨2, 32, true, [.sc (.slice none 0 0), .sc (.int .i64 0)], .struct [(0, 1), (1, 1)], false, [22, 3]⟩ := by kernel_rfl
theorem T59 : C0.T 59 = ⟨2, 32, true, [.sc (.slice none 0 0), .sc (.int .i64 0)], .struct [(0, 1), (1, 1)], false, [22, 3]⟩ := by kernel_rfl
theorem T61 : C0.T 61 = ⟨1, 8, false, [.sc .nilFunc], .other, false, []⟩ := by kernel_rfl
theorem T62 : C0.T 62 = ⟨4, 24, true, [.sc (.int .i64 0), .sc (.int .i64 0), .sc (.bool false), .sc (.bool false)], .struct [(0, 1), (1, 1), (2, 1), (3, 1)], true, [3, 3, 4, 4]⟩ := by kernel_rfl
theorem T63 : C0.T 63 = ⟨4, 24, true, [.sc (.int .i64 0), .sc (.int .i64 0), .sc (.bool false), .sc (.bool false)], .struct [(0, 1), (1, 1), (2, 1), (3, 1)], true, [3, 3, 4, 4]⟩ := by kernel_rfl
theorem T64 : C0.T 64 = ⟨1, 8, false, [.sc .nilFunc], .other, false, []⟩ := by kernel_rfl
theorem T65 : C0.T 65 = ⟨1, 8, false, [.sc .nilFunc], .other, false, []⟩ := by kernel_rfl
theorem T66 : C0.T 66 = ⟨1, 8, false, [.sc (.pointer none)], .other, false, []⟩ := by kernel_rfl
theorem T67 : C0.T 67 = ⟨2, 32, true, [.sc (.slice none 0 0), .sc (.int .i64 0)], .struct [(0, 1), (1, 1)], false, [22, 3]⟩ := by kernel_rfl
theorem T68 : C0.T 68 = ⟨2, 32, true, [.sc (.slice none 0 0), .sc (.int .i64 0)], .struct [(0, 1), (1, 1)], false, [22, 3]⟩ := by kernel_rfl
theorem T69 : C0.T 69 = ⟨1, 8, false, [.sc .nilFunc], .other, false, []⟩ := by kernel_rfl
theorem T70 : C0.T 70 = ⟨1, 8, false, [.sc .nilFunc], .other, false, []⟩ := by kernel_rfl
theorem T71 : C0.T 71 = ⟨1, 8, false, [.sc .nilFunc], .other, false, []⟩ := by kernel_rfl
theorem T72 : C0.T 72 = ⟨1, 8, false, [.sc .nilFunc], .other, false, []⟩ := by kernel_rfl
theorem T73 : C0.T 73 = ⟨1, 8, false, [.sc .nilFunc], .other, false, []⟩ := by kernel_rfl
theorem T75 : C0.T 75 = ⟨1, 8, false, [.sc .nilFunc], .other, false, []⟩ := by kernel_rfl
theorem T76 : C0.T 76 = ⟨1, 8, false, [.sc .nilFunc], .other, false, []⟩ := by kernel_rfl
theorem T78 : C0.T 78 = ⟨1, 8, false, [.sc .nilFunc], .other, false, []⟩ := by kernel_rfl
theorem T79 : C0.T 79 = ⟨1, 8, false, [.sc .nilFunc], .other, false, []⟩ := by kernel_rfl
theorem T80 : C0.T 80 = ⟨1, 8, false, [.sc .nilFunc], .other, false, []⟩ := by kernel_rfl
theorem T81 : C0.T 81 = ⟨1, 8, false, [.sc .nilFunc], .other, false, []⟩ := by kernel_rfl
theorem T82 : C0.T 82 = ⟨1, 8, false, [.sc .nilFunc], .other, false, []⟩ := by kernel_rfl
theorem T83 : C0.T 83 = ⟨2, 16, true, [.sc (.int .i64 0), .sc (.int .i64 0)], .struct [(0, 1), (1, 1)], true, [3, 3]⟩ := by kernel_rfl
theorem T84 : C0.T 84 = ⟨2, 16, true, [.sc (.int .i64 0), .sc (.int .i64 0)], .struct [(0, 1), (1, 1)], true, [3, 3]⟩ := by kernel_rfl
theorem T85 : C0.T 85 = ⟨1, 8, false, [.sc .nilFunc], .other, false, []⟩ := by kernel_rfl
theorem T86 : C0.T 86 = ⟨1, 8, false, [.sc .nilFunc], .other, false, []⟩ := by kernel_rfl
theorem T87 : C0.T 87 = ⟨1, 8, false, [.sc .nilFunc], .other, false, []⟩ := by kernel_rfl
theorem T88 : C0.T 88 = ⟨1, 8, false, [.sc .nilFunc], .other, false, []⟩ := by kernel_rfl
theorem T89 : C0.T 89 = ⟨1, 8, false, [.sc .nilFunc], .other, false, []⟩ := by kernel_rfl
theorem T90 : C0.T 90 = ⟨1, 8, false, [.sc .nilFunc], .other, false, []⟩ := by kernel_rfl
theorem T91 : C0.T 91 = ⟨1, 8, false, [.sc .nilFunc], .other, false, []⟩ := by kernel_rfl
theorem T92 : C0.T 92 = ⟨1, 8, false, [.sc .nilFunc], .other, false, []⟩ := by kernel_rfl
theorem T93 : C0.T 93 = ⟨1, 8, false, [.sc .nilFunc], .other, false, []⟩ := by kernel_rfl
theorem T94 : C0.T 94 = ⟨1, 8, false, [.sc .nilFunc], .other, false, []⟩ := by kernel_rfl
theorem T95 : C0.T 95 = ⟨1, 8, false, [.sc .nilFunc], .other, false, []⟩ := by kernel_rfl
theorem T96 : C0.T 96 = ⟨1, 24, false, [.sc (.slice none 0 0)], .slice 3, false, []⟩ := by kernel_rfl
theorem T97 : C0.T 97 = ⟨1, 8, false, [.sc .nilFunc], .other, false, []⟩ := by kernel_rfl
theorem T98 : C0.T 98 = ⟨1, 24, false, [.sc (.slice none 0 0)], .slice 9, false, []⟩ := by kernel_rfl
theorem T99 : C0.T 99 = ⟨1, 8, false, [.sc .nilFunc], .other, false, []⟩ := by kernel_rfl
theorem T100 : C0.T 100 = ⟨1, 8, false, [.sc .nilFunc], .other, false, []⟩ := by kernel_rfl
theorem T101 : C0.T 101 = ⟨1, 8, false, [.sc .nilFunc], .other, false, []⟩ := by kernel_rfl
theorem T102 : C0.T 102 = ⟨4, 40, true, [.sc (.pointer none), .sc (.pointer none), .sc (.pointer none), .sc (.string (ByteArray.mk #[]))], .struct [(0, 1), (1, 1), (2, 1), (3, 1)], false, [17, 17, 17, 9]⟩ := by kernel_rfl
theorem T103 : C0.T 103 = ⟨4, 40, true, [.sc (.pointer none), .sc (.pointer none), .sc (.pointer none), .sc (.string (ByteArray.mk #[]))], .struct [(0, 1), (1, 1), (2, 1), (3, 1)], false, [17, 17, 17, 9]⟩ := by kernel_rfl
theorem T107 : C0.T 107 = ⟨1, 8, false, [.sc .nilFunc], .other, false, []⟩ := by kernel_rfl
theorem T108 : C0.T 108 = ⟨1, 4, false, [.sc (.int .u32 0)], .int .u32, false, []⟩ := by kernel_rfl
theorem T109 : C0.T 109 = ⟨1, 1, false, [.sc (.int .u8 0)], .int .u8, false, []⟩ := by kernel_rfl
theorem T110 : C0.T 110 = ⟨1, 1, false, [.sc (.int .u8 0)], .int .u8, false, []⟩ := by kernel_rfl
theorem T111 : C0.T 111 = ⟨1, 8, false, [.sc .nilFunc], .other, false, []⟩ := by kernel_rfl
theorem T112 : C0.T 112 = ⟨1, 8, false, [.sc (.pointer none)], .other, false, []⟩ := by kernel_rfl
theorem T113 : C0.T 113 = ⟨1, 4, false, [.sc (.int .i32 0)], .int .i32, false, []⟩ := by kernel_rfl
theorem T114 : C0.T 114 = ⟨1, 4, false, [.sc (.int .i32 0)], .int .i32, false, []⟩ := by kernel_rfl
theorem T115 : C0.T 115 = ⟨11, 48, true, [.sc (.int .u64 0), .sc (.int .u64 0), .sc (.int .u32 0), .sc (.int .u8 0), .sc (.int .u8 0), .sc (.int .u8 0), .sc (.int .u8 0), .sc .nilFunc, .sc (.pointer none), .sc (.int .i32 0), .sc (.int .i32 0)], .struct [(0, 1), (1, 1), (2, 1), (3, 1), (4, 1), (5, 1), (6, 1), (7, 1), (8, 1), (9, 1), (10, 1)], false, [12, 12, 108, 109, 5, 5, 110, 111, 112, 113, 114]⟩ := by kernel_rfl
theorem T116 : C0.T 116 = ⟨11, 48, true, [.sc (.int .u64 0), .sc (.int .u64 0), .sc (.int .u32 0), .sc (.int .u8 0), .sc (.int .u8 0), .sc (.int .u8 0), .sc (.int .u8 0), .sc .nilFunc, .sc (.pointer none), .sc (.int .i32 0), .sc (.int .i32 0)], .struct [(0, 1), (1, 1), (2, 1), (3, 1), (4, 1), (5, 1), (6, 1), (7, 1), (8, 1), (9, 1), (10, 1)], false, [12, 12, 108, 109, 5, 5, 110, 111, 112, 113, 114]⟩ := by kernel_rfl
theorem T117 : C0.T 117 = ⟨1, 8, false, [.sc (.pointer none)], .other, false, []⟩ := by kernel_rfl
attribute [go_sem] T1 T2 T3 T4 T5 T6 T7 T8 T9 T10 T11 T12 T13 T14 T15 T16 T17 T18 T19 T20 T21 T22 T23 T25 T26 T27 T28 T29 T30 T31 T32 T34 T35 T36 T37 T38 T39 T40 T41 T42 T43 T44 T46 T47 T48 T49 T50 T51 T52 T53 T54 T55 T56 T57 T58 T59 T61 T62 T63 T64 T65 T66 T67 T68 T69 T70 T71 T72 T73 T75 T76 T78 T79 T80 T81 T82 T83 T84 T85 T86 T87 T88 T89 T90 T91 T92 T93 T94 T95 T96 T97 T98 T99 T100 T101 T102 T103 T107 T108 T109 T110 T111 T112 T113 T114 T115 T116 T117
end Go.AM
