/-
  The code of the functions of QueueFalls, as the evaluator has it.
-/
import Derived.Test.YtnejnaoehcahbaaAeTop
import Derived.Test.YtnejnaoehcahbaaRows
import Derived.KernelRfl
namespace Go.Proofs.Ytnejnaoehcahbaa.q
open Go Go.Ae

def c7_0 : C := .reg [⟨some 6, none, .op (.mv (.const (.bool false)))⟩]

def c7_1 : C := .reg [⟨some 17, none, .op (.mv (.tmp 0))⟩,
    ⟨some 18, none, .op (.bin .rem (.tmp 17) (.const (.int .u8 200)))⟩,
    ⟨some 19, none, .op (.conv .i64 (.tmp 18))⟩,
    ⟨some 7, none, .op (.mv (.tmp 19))⟩]

def c7_2 : C := .reg [⟨some 21, none, .op (.mv (.tmp 7))⟩,
    ⟨some 22, none, .call 18 [.tmp 21]⟩,
    ⟨some 20, none, .op (.mv (.tmp 22))⟩,
    ⟨some 23, none, .op (.ext (.tmp 20) 0)⟩,
    ⟨some 24, none, .op (.ext (.tmp 20) 1)⟩,
    ⟨some 8, none, .op (.mv (.tmp 23))⟩,
    ⟨some 9, none, .op (.mv (.tmp 24))⟩]

def c7_3 : C := .reg [⟨some 25, none, .op (.mv (.tmp 9))⟩,
    ⟨some 26, none, .op (.bin .neq (.tmp 25) (.const (.int .i64 0)))⟩]

def c7_4 : C := .reg [⟨some 6, none, .op (.mv (.const (.bool false)))⟩]

def c7_5 : C := .reg [⟨some 10, none, .op (.mv (.const (.int .i64 0)))⟩]

def c7_6 : C := .reg [⟨some 27, none, .op (.mv (.tmp 10))⟩,
    ⟨some 28, none, .op (.mv (.tmp 1))⟩,
    ⟨some 29, none, .op (.len (.tmp 28))⟩,
    ⟨some 30, none, .op (.bin .lss (.tmp 27) (.tmp 29))⟩,
    ⟨some 31, none, .op (.mv (.tmp 30))⟩,
    ⟨some 32, (some (31, true)), .op (.mv (.tmp 10))⟩,
    ⟨some 33, (some (31, true)), .op (.bin .lss (.tmp 32) (.const (.int .i64 300)))⟩,
    ⟨some 34, none, .op (.pick (.tmp 31) (.tmp 33) (.const (.bool false)))⟩,
    ⟨some 35, none, .op (.mv (.tmp 34))⟩,
    ⟨some 36, (some (35, true)), .op (.mv (.tmp 7))⟩,
    ⟨some 37, (some (35, true)), .op (.bin .gtr (.tmp 36) (.const (.int .i64 0)))⟩,
    ⟨some 38, none, .op (.pick (.tmp 35) (.tmp 37) (.const (.bool false)))⟩]

def c7_7 : C := .reg [⟨some 41, none, .op (.mv (.tmp 8))⟩,
    ⟨some 42, none, .op (.mv (.tmp 1))⟩,
    ⟨some 43, none, .op (.mv (.tmp 10))⟩,
    ⟨some 44, none, .op (.ia 1 (.tmp 42) (.tmp 43))⟩,
    ⟨some 45, none, .op (.ld none (.tmp 44))⟩,
    ⟨some 46, none, .op (.conv .i64 (.tmp 45))⟩,
    ⟨some 47, none, .op (.mv (.tmp 7))⟩,
    ⟨some 48, none, .op (.bin .rem (.tmp 46) (.tmp 47))⟩,
    ⟨some 49, none, .op (.bin .add (.const (.int .i64 1)) (.tmp 48))⟩,
    ⟨some 50, none, .call 23 [.tmp 41, .tmp 49]⟩,
    ⟨some 51, none, .op (.bin .neq (.tmp 50) (.const (.int .i64 0)))⟩]

def c7_8 : C := .reg [⟨some 6, none, .op (.mv (.const (.bool false)))⟩]

def c7_9 : C := .reg [⟨some 52, none, .op (.mv (.tmp 10))⟩,
    ⟨some 53, none, .op (.bin .rem (.tmp 52) (.const (.int .i64 7)))⟩,
    ⟨some 54, none, .op (.mv (.tmp 2))⟩,
    ⟨some 55, none, .op (.bin .rem (.tmp 54) (.const (.int .u8 7)))⟩,
    ⟨some 56, none, .op (.conv .i64 (.tmp 55))⟩,
    ⟨some 57, none, .op (.bin .lss (.tmp 53) (.tmp 56))⟩]

def c7_10 : C := .reg [⟨some 58, none, .op (.mv (.tmp 8))⟩,
    ⟨some 59, none, .call 24 [.tmp 58]⟩]

def c7_11 : C := .reg [⟨some 39, none, .op (.mv (.tmp 10))⟩,
    ⟨some 40, none, .op (.bin .add (.tmp 39) (.const (.int .i64 1)))⟩,
    ⟨some 10, none, .op (.mv (.tmp 40))⟩]

def c7_12 : C := .reg [⟨some 11, none, .op (.mv (.const (.int .i64 0)))⟩]

def c7_13 : C := .reg [⟨some 12, none, .op (.mv (.const (.int .i64 0)))⟩]

def c7_14 : C := .reg [⟨some 60, none, .op (.mv (.tmp 12))⟩,
    ⟨some 61, none, .op (.mv (.tmp 7))⟩,
    ⟨some 62, none, .op (.bin .lss (.tmp 60) (.tmp 61))⟩]

def c7_15 : C := .reg [⟨some 66, none, .op (.mv (.tmp 8))⟩,
    ⟨some 67, none, .call 25 [.tmp 66]⟩,
    ⟨some 65, none, .op (.mv (.tmp 67))⟩,
    ⟨some 68, none, .op (.ext (.tmp 65) 0)⟩,
    ⟨some 69, none, .op (.ext (.tmp 65) 1)⟩,
    ⟨some 13, none, .op (.mv (.tmp 68))⟩,
    ⟨some 14, none, .op (.mv (.tmp 69))⟩]

def c7_16 : C := .reg [⟨some 70, none, .op (.mv (.tmp 14))⟩,
    ⟨some 71, none, .op (.un .not (.tmp 70))⟩,
    ⟨some 72, none, .op (.mv (.tmp 71))⟩,
    ⟨some 73, (some (72, false)), .op (.mv (.tmp 13))⟩,
    ⟨some 74, (some (72, false)), .op (.bin .lss (.tmp 73) (.const (.int .i64 1)))⟩,
    ⟨some 75, none, .op (.pick (.tmp 72) (.const (.bool true)) (.tmp 74))⟩,
    ⟨some 76, none, .op (.mv (.tmp 75))⟩,
    ⟨some 77, (some (76, false)), .op (.mv (.tmp 13))⟩,
    ⟨some 78, (some (76, false)), .op (.mv (.tmp 7))⟩,
    ⟨some 79, (some (76, false)), .op (.bin .gtr (.tmp 77) (.tmp 78))⟩,
    ⟨some 80, none, .op (.pick (.tmp 76) (.const (.bool true)) (.tmp 79))⟩,
    ⟨some 81, none, .op (.mv (.tmp 80))⟩,
    ⟨some 82, (some (81, false)), .op (.mv (.tmp 8))⟩,
    ⟨some 83, (some (81, false)), .op (.mv (.tmp 13))⟩,
    ⟨some 84, (some (81, false)), .call 26 [.tmp 82, .tmp 83]⟩,
    ⟨some 85, none, .op (.pick (.tmp 81) (.const (.bool true)) (.tmp 84))⟩,
    ⟨some 86, none, .op (.mv (.tmp 85))⟩,
    ⟨some 87, (some (86, false)), .op (.mv (.tmp 8))⟩,
    ⟨some 88, (some (86, false)), .call 27 [.tmp 87]⟩,
    ⟨some 89, (some (86, false)), .op (.mv (.tmp 7))⟩,
    ⟨some 90, (some (86, false)), .op (.bin .sub (.tmp 89) (.const (.int .i64 1)))⟩,
    ⟨some 91, (some (86, false)), .op (.mv (.tmp 12))⟩,
    ⟨some 92, (some (86, false)), .op (.bin .sub (.tmp 90) (.tmp 91))⟩,
    ⟨some 93, (some (86, false)), .op (.bin .neq (.tmp 88) (.tmp 92))⟩,
    ⟨some 94, none, .op (.pick (.tmp 86) (.const (.bool true)) (.tmp 93))⟩]

def c7_17 : C := .reg [⟨some 6, none, .op (.mv (.const (.bool false)))⟩]

def c7_18 : C := .reg [⟨some 95, none, .op (.mv (.tmp 11))⟩,
    ⟨some 96, none, .op (.bin .gtr (.tmp 95) (.const (.int .i64 0)))⟩,
    ⟨some 97, none, .op (.mv (.tmp 96))⟩,
    ⟨some 98, (some (97, true)), .op (.mv (.tmp 8))⟩,
    ⟨some 99, (some (97, true)), .op (.mv (.tmp 13))⟩,
    ⟨some 100, (some (97, true)), .call 28 [.tmp 98, .tmp 99]⟩,
    ⟨some 101, (some (97, true)), .op (.mv (.tmp 8))⟩,
    ⟨some 102, (some (97, true)), .op (.mv (.tmp 11))⟩,
    ⟨some 103, (some (97, true)), .call 28 [.tmp 101, .tmp 102]⟩,
    ⟨some 104, (some (97, true)), .op (.bin .gtr (.tmp 100) (.tmp 103))⟩,
    ⟨some 105, (some (97, true)), .op (.mv (.tmp 104))⟩,
    ⟨some 106, (some (105, false)), .op (.mv (.tmp 8))⟩,
    ⟨some 107, (some (105, false)), .op (.mv (.tmp 13))⟩,
    ⟨some 108, (some (105, false)), .call 28 [.tmp 106, .tmp 107]⟩,
    ⟨some 109, (some (105, false)), .op (.mv (.tmp 8))⟩,
    ⟨some 110, (some (105, false)), .op (.mv (.tmp 11))⟩,
    ⟨some 111, (some (105, false)), .call 28 [.tmp 109, .tmp 110]⟩,
    ⟨some 112, (some (105, false)), .op (.bin .eql (.tmp 108) (.tmp 111))⟩,
    ⟨some 113, (some (105, false)), .op (.mv (.tmp 112))⟩,
    ⟨some 114, (some (113, true)), .op (.mv (.tmp 13))⟩,
    ⟨some 115, (some (113, true)), .op (.mv (.tmp 11))⟩,
    ⟨some 116, (some (113, true)), .op (.bin .lss (.tmp 114) (.tmp 115))⟩,
    ⟨some 117, (some (105, false)), .op (.pick (.tmp 113) (.tmp 116) (.const (.bool false)))⟩,
    ⟨some 118, (some (97, true)), .op (.pick (.tmp 105) (.const (.bool true)) (.tmp 117))⟩,
    ⟨some 119, none, .op (.pick (.tmp 97) (.tmp 118) (.const (.bool false)))⟩]

def c7_19 : C := .reg [⟨some 6, none, .op (.mv (.const (.bool false)))⟩]

def c7_20 : C := .reg [⟨some 120, none, .op (.mv (.tmp 13))⟩,
    ⟨some 11, none, .op (.mv (.tmp 120))⟩]

def c7_21 : C := .reg [⟨some 63, none, .op (.mv (.tmp 12))⟩,
    ⟨some 64, none, .op (.bin .add (.tmp 63) (.const (.int .i64 1)))⟩,
    ⟨some 12, none, .op (.mv (.tmp 64))⟩]

def c7_22 : C := .reg [⟨some 122, none, .op (.mv (.tmp 8))⟩,
    ⟨some 123, none, .call 25 [.tmp 122]⟩,
    ⟨some 121, none, .op (.mv (.tmp 123))⟩,
    ⟨some 124, none, .op (.ext (.tmp 121) 0)⟩,
    ⟨some 125, none, .op (.ext (.tmp 121) 1)⟩,
    ⟨some 15, none, .op (.mv (.tmp 124))⟩,
    ⟨some 16, none, .op (.mv (.tmp 125))⟩]

def c7_23 : C := .reg [⟨some 126, none, .op (.mv (.tmp 16))⟩,
    ⟨some 127, none, .op (.un .not (.tmp 126))⟩,
    ⟨some 128, none, .op (.mv (.tmp 127))⟩,
    ⟨some 129, (some (128, true)), .call 20 []⟩,
    ⟨some 130, none, .op (.pick (.tmp 128) (.tmp 129) (.const (.bool false)))⟩,
    ⟨some 6, none, .op (.mv (.tmp 130))⟩]

def c7 : Fn' := ⟨(.seq c7_0 (.seq c7_1 (.seq c7_2 (.seq (.seq c7_3 (.cond (.tmp 26) (.seq c7_4 .ret) .skip)) (.seq (.seq c7_5 (.block 0 (.loop (.seq (.seq c7_6 (.cond (.tmp 38) .skip (.exit 0))) (.seq (.block 1 (.seq (.seq c7_7 (.cond (.tmp 51) (.seq c7_8 .ret) .skip)) (.seq c7_9 (.cond (.tmp 57) c7_10 .skip)))) c7_11))))) (.seq c7_12 (.seq (.seq c7_13 (.block 2 (.loop (.seq (.seq c7_14 (.cond (.tmp 62) .skip (.exit 2))) (.seq (.block 3 (.seq c7_15 (.seq (.seq c7_16 (.cond (.tmp 94) (.seq c7_17 .ret) .skip)) (.seq (.seq c7_18 (.cond (.tmp 119) (.seq c7_19 .ret) .skip)) c7_20)))) c7_21))))) (.seq c7_22 (.seq c7_23 .ret))))))))), [.tmp 6]⟩

theorem comp7 : compFn Try.prog 7 = some c7 := by kernel_rfl

def c18_0 : C := .reg [⟨some 2, none, .op (.mv (.const (.pointer none)))⟩,
    ⟨some 3, none, .op (.mv (.const (.int .i64 0)))⟩]

def c18_1 : C := .reg [⟨some 6, none, .op (.mv (.tmp 0))⟩,
    ⟨some 7, none, .op (.bin .lss (.tmp 6) (.const (.int .i64 0)))⟩,
    ⟨some 8, none, .op (.mv (.tmp 7))⟩,
    ⟨some 9, (some (8, false)), .op (.mv (.tmp 0))⟩,
    ⟨some 10, (some (8, false)), .op (.bin .gtr (.tmp 9) (.const (.int .i64 4194304)))⟩,
    ⟨some 11, none, .op (.pick (.tmp 8) (.const (.bool true)) (.tmp 10))⟩]

def c18_2 : C := .reg [⟨some 2, none, .op (.mv (.const (.pointer none)))⟩,
    ⟨some 3, none, .op (.mv (.const (.int .i64 2)))⟩]

def c18_3 : C := .regD 3 [⟨0, ⟨some 12, none, .op (.mv (.tmp 0))⟩, none, []⟩,
    ⟨1, ⟨some 13, none, .op (.bin .add (.tmp 12) (.const (.int .i64 1)))⟩, none, []⟩,
    ⟨3, ⟨some 15, none, .op (.mv (.tmp 0))⟩, none, []⟩,
    ⟨4, ⟨some 16, none, .op (.bin .add (.tmp 15) (.const (.int .i64 1)))⟩, none, []⟩,
    ⟨2, ⟨some 14, none, .op (.mkS [(.int .i64 0)] 8 (.tmp 13) (.tmp 13))⟩, some 0, []⟩,
    ⟨5, ⟨some 17, none, .op (.mkS [(.int .u64 0)] 8 (.tmp 16) (.tmp 16))⟩, some 1, []⟩,
    ⟨6, ⟨some 18, none, .op (.mk [(.slice none 0 0), (.slice none 0 0), (.slice none 0 0)] [(1, 1, .tmp 14), (2, 1, .tmp 17)])⟩, none, []⟩,
    ⟨7, ⟨some 19, none, .op (.mk [(.slice none 0 0), (.slice none 0 0), (.slice none 0 0), (.int .u64 0)] [(3, 1, .const (.int .u64 1)), (0, 3, .tmp 18)])⟩, none, []⟩,
    ⟨8, ⟨some 20, none, .op (.box (.tmp 19))⟩, some 2, []⟩,
    ⟨9, ⟨some 4, none, .op (.mv (.tmp 20))⟩, none, []⟩]

def c18_4 : C := .reg [⟨some 21, none, .op (.mv (.tmp 4))⟩,
    ⟨some 22, none, .op (.nn (.tmp 21))⟩,
    ⟨some 23, none, .op (.fa 0 (.tmp 22))⟩,
    ⟨some 24, none, .op (.fa 1 (.tmp 23))⟩,
    ⟨some 25, none, .op (.ld none (.tmp 24))⟩,
    ⟨some 26, none, .op (.ia 1 (.tmp 25) (.const (.int .i64 0)))⟩,
    ⟨none, none, .op (.st 1 (.tmp 26) (.const (.int .i64 (-1))))⟩]

def c18_5 : C := .reg [⟨some 27, none, .op (.mv (.tmp 0))⟩,
    ⟨some 28, none, .op (.mv (.const (.int .i64 0)))⟩]

def c18_6 : C := .reg [⟨some 29, none, .op (.bin .lss (.tmp 28) (.tmp 27))⟩]

def c18_7 : C := .reg [⟨some 30, none, .op (.mv (.tmp 28))⟩,
    ⟨some 5, none, .op (.mv (.tmp 30))⟩]

def c18_8 : C := .reg [⟨some 31, none, .op (.mv (.tmp 4))⟩,
    ⟨some 32, none, .op (.nn (.tmp 31))⟩,
    ⟨some 33, none, .op (.fa 0 (.tmp 32))⟩,
    ⟨some 34, none, .op (.mv (.tmp 5))⟩,
    ⟨some 35, none, .op (.bin .add (.tmp 34) (.const (.int .i64 1)))⟩,
    ⟨some 36, none, .op (.ifc 3 (.tmp 35))⟩,
    ⟨some 37, none, .call 38 [.tmp 33, .tmp 36]⟩]

def c18_9 : C := .reg [⟨some 38, none, .op (.bin .add (.tmp 28) (.const (.int .i64 1)))⟩,
    ⟨some 28, none, .op (.mv (.tmp 38))⟩]

def c18_10 : C := .reg [⟨some 39, none, .op (.mv (.tmp 4))⟩,
    ⟨some 2, none, .op (.mv (.tmp 39))⟩,
    ⟨some 3, none, .op (.mv (.const (.int .i64 0)))⟩]

def c18 : Fn' := ⟨(.seq c18_0 (.seq (.seq c18_1 (.cond (.tmp 11) (.seq c18_2 .ret) .skip)) (.seq c18_3 (.seq c18_4 (.seq (.seq c18_5 (.block 0 (.loop (.seq c18_6 (.seq (.cond (.tmp 29) .skip (.exit 0)) (.seq (.block 1 (.seq c18_7 c18_8)) c18_9)))))) (.seq c18_10 .ret)))))), [.tmp 2, .tmp 3]⟩

theorem comp18 : compFn Try.prog 18 = some c18 := by kernel_rfl

def c23_0 : C := .reg [⟨some 4, none, .op (.mv (.const (.int .i64 0)))⟩]

def c23_1 : C := .reg [⟨some 6, none, .op (.mv (.tmp 0))⟩,
    ⟨some 7, none, .op (.mv (.tmp 1))⟩,
    ⟨some 8, none, .call 46 [.tmp 6, .tmp 7]⟩,
    ⟨some 5, none, .op (.mv (.tmp 8))⟩]

def c23_2 : C := .reg [⟨some 9, none, .op (.mv (.tmp 5))⟩,
    ⟨some 10, none, .op (.bin .neq (.tmp 9) (.const (.int .i64 0)))⟩]

def c23_3 : C := .reg [⟨some 11, none, .op (.mv (.tmp 5))⟩,
    ⟨some 4, none, .op (.mv (.tmp 11))⟩]

def c23_4 : C := .regD 0 [⟨0, ⟨some 12, none, .op (.mv (.tmp 0))⟩, none, []⟩,
    ⟨1, ⟨some 13, none, .op (.nn (.tmp 12))⟩, none, []⟩,
    ⟨2, ⟨some 14, none, .op (.fa 0 (.tmp 13))⟩, none, []⟩,
    ⟨3, ⟨some 15, none, .op (.fa 2 (.tmp 14))⟩, none, []⟩,
    ⟨4, ⟨some 16, none, .op (.ld none (.tmp 15))⟩, none, []⟩,
    ⟨5, ⟨some 17, none, .op (.mv (.tmp 1))⟩, none, []⟩,
    ⟨6, ⟨some 18, none, .op (.ia 1 (.tmp 16) (.tmp 17))⟩, none, []⟩,
    ⟨7, ⟨some 19, none, .op (.ld none (.tmp 18))⟩, none, []⟩,
    ⟨8, ⟨some 20, none, .op (.mv (.tmp 0))⟩, none, []⟩,
    ⟨9, ⟨some 21, none, .op (.nn (.tmp 20))⟩, none, []⟩,
    ⟨10, ⟨some 22, none, .op (.fa 3 (.tmp 21))⟩, none, []⟩,
    ⟨11, ⟨some 23, none, .op (.ld none (.tmp 22))⟩, none, []⟩,
    ⟨12, ⟨some 24, none, .op (.bin .add (.tmp 19) (.tmp 23))⟩, none, []⟩,
    ⟨13, ⟨some 25, none, .op (.ia 1 (.tmp 16) (.tmp 17))⟩, none, []⟩,
    ⟨14, ⟨none, none, .op (.st 1 (.tmp 25) (.tmp 24))⟩, none, []⟩]

def c23_5 : C := .reg [⟨some 26, none, .op (.mv (.tmp 0))⟩,
    ⟨some 27, none, .op (.nn (.tmp 26))⟩,
    ⟨some 28, none, .op (.fa 0 (.tmp 27))⟩,
    ⟨some 29, none, .op (.fa 1 (.tmp 28))⟩,
    ⟨some 30, none, .op (.ld none (.tmp 29))⟩,
    ⟨some 31, none, .op (.mv (.tmp 1))⟩,
    ⟨some 32, none, .op (.ia 1 (.tmp 30) (.tmp 31))⟩,
    ⟨some 33, none, .op (.ld none (.tmp 32))⟩,
    ⟨some 34, none, .op (.bin .geq (.tmp 33) (.const (.int .i64 0)))⟩]

def c23_6 : C := .regD 0 [⟨0, ⟨some 35, none, .op (.mv (.tmp 0))⟩, none, []⟩,
    ⟨1, ⟨some 36, none, .op (.nn (.tmp 35))⟩, none, []⟩,
    ⟨2, ⟨some 37, none, .op (.fa 0 (.tmp 36))⟩, none, []⟩,
    ⟨3, ⟨some 38, none, .op (.ifc 82 (.tmp 37))⟩, none, []⟩,
    ⟨4, ⟨some 39, none, .op (.mv (.tmp 0))⟩, none, []⟩,
    ⟨5, ⟨some 40, none, .op (.nn (.tmp 39))⟩, none, []⟩,
    ⟨6, ⟨some 41, none, .op (.fa 0 (.tmp 40))⟩, none, []⟩,
    ⟨7, ⟨some 42, none, .op (.fa 1 (.tmp 41))⟩, none, []⟩,
    ⟨8, ⟨some 43, none, .op (.ld none (.tmp 42))⟩, none, []⟩,
    ⟨9, ⟨some 44, none, .op (.mv (.tmp 1))⟩, none, []⟩,
    ⟨10, ⟨some 45, none, .op (.ia 1 (.tmp 43) (.tmp 44))⟩, none, []⟩,
    ⟨11, ⟨some 46, none, .op (.ld none (.tmp 45))⟩, none, []⟩,
    ⟨12, ⟨some 47, none, .call 47 [.tmp 38, .tmp 46]⟩, none, []⟩]

def c23_7 : C := .reg [⟨some 48, none, .op (.mv (.tmp 0))⟩,
    ⟨some 49, none, .op (.nn (.tmp 48))⟩,
    ⟨some 50, none, .op (.fa 0 (.tmp 49))⟩,
    ⟨some 51, none, .op (.fa 2 (.tmp 50))⟩,
    ⟨some 52, none, .op (.ld none (.tmp 51))⟩,
    ⟨some 53, none, .op (.mv (.tmp 1))⟩,
    ⟨some 54, none, .op (.ia 1 (.tmp 52) (.tmp 53))⟩,
    ⟨some 55, none, .op (.ld none (.tmp 54))⟩,
    ⟨some 56, none, .op (.bin .gtr (.tmp 55) (.const (.int .u64 281474976710656)))⟩]

def c23_8 : C := .reg [⟨some 57, none, .op (.mv (.tmp 0))⟩,
    ⟨some 58, none, .call 48 [.tmp 57]⟩]

def c23_9 : C := .reg [⟨some 4, none, .op (.mv (.const (.int .i64 0)))⟩]

def c23 : Fn' := ⟨(.seq c23_0 (.seq (.seq c23_1 (.seq c23_2 (.cond (.tmp 10) (.seq c23_3 .ret) .skip))) (.seq c23_4 (.seq (.seq c23_5 (.cond (.tmp 34) c23_6 .skip)) (.seq (.seq c23_7 (.cond (.tmp 56) c23_8 .skip)) (.seq c23_9 .ret)))))), [.tmp 4]⟩

theorem comp23 : compFn Try.prog 23 = some c23 := by kernel_rfl

def c24_0 : C := .reg [⟨some 2, none, .op (.mv (.tmp 0))⟩,
    ⟨some 3, none, .call 49 [.tmp 2]⟩]

def c24_1 : C := .regD 0 [⟨0, ⟨some 4, none, .op (.mv (.tmp 0))⟩, none, []⟩,
    ⟨1, ⟨some 5, none, .op (.nn (.tmp 4))⟩, none, []⟩,
    ⟨2, ⟨some 6, none, .op (.fa 3 (.tmp 5))⟩, none, []⟩,
    ⟨3, ⟨some 7, none, .op (.ld none (.tmp 6))⟩, none, []⟩,
    ⟨4, ⟨some 8, none, .op (.mv (.tmp 0))⟩, none, []⟩,
    ⟨5, ⟨some 9, none, .op (.nn (.tmp 8))⟩, none, []⟩,
    ⟨6, ⟨some 10, none, .op (.fa 3 (.tmp 9))⟩, none, []⟩,
    ⟨7, ⟨some 11, none, .op (.ld none (.tmp 10))⟩, none, []⟩,
    ⟨8, ⟨some 12, none, .op (.bin .quo (.tmp 11) (.const (.int .u64 8)))⟩, none, []⟩,
    ⟨9, ⟨some 13, none, .op (.bin .add (.tmp 12) (.const (.int .u64 1)))⟩, none, []⟩,
    ⟨10, ⟨some 14, none, .op (.bin .add (.tmp 7) (.tmp 13))⟩, none, []⟩,
    ⟨11, ⟨some 15, none, .op (.nn (.tmp 4))⟩, none, []⟩,
    ⟨12, ⟨some 16, none, .op (.fa 3 (.tmp 15))⟩, none, []⟩,
    ⟨13, ⟨none, none, .op (.st 1 (.tmp 16) (.tmp 14))⟩, none, []⟩]

def c24_2 : C := .reg [⟨some 17, none, .op (.mv (.tmp 0))⟩,
    ⟨some 18, none, .op (.nn (.tmp 17))⟩,
    ⟨some 19, none, .op (.fa 3 (.tmp 18))⟩,
    ⟨some 20, none, .op (.ld none (.tmp 19))⟩,
    ⟨some 21, none, .op (.bin .gtr (.tmp 20) (.const (.int .u64 281474976710656)))⟩]

def c24_3 : C := .reg [⟨some 22, none, .op (.mv (.tmp 0))⟩,
    ⟨some 23, none, .call 48 [.tmp 22]⟩]

def c24 : Fn' := ⟨(.seq (.seq c24_0 (.cond (.tmp 3) .ret .skip)) (.seq c24_1 (.seq c24_2 (.cond (.tmp 21) c24_3 .skip)))), []⟩

theorem comp24 : compFn Try.prog 24 = some c24 := by kernel_rfl

def c25_0 : C := .reg [⟨some 2, none, .op (.mv (.const (.int .i64 0)))⟩,
    ⟨some 3, none, .op (.mv (.const (.bool false)))⟩]

def c25_1 : C := .reg [⟨some 4, none, .op (.mv (.tmp 0))⟩,
    ⟨some 5, none, .call 49 [.tmp 4]⟩,
    ⟨some 6, none, .op (.mv (.tmp 5))⟩,
    ⟨some 7, (some (6, false)), .op (.mv (.tmp 0))⟩,
    ⟨some 8, (some (6, false)), .op (.nn (.tmp 7))⟩,
    ⟨some 9, (some (6, false)), .op (.fa 0 (.tmp 8))⟩,
    ⟨some 10, (some (6, false)), .call 50 [.tmp 9]⟩,
    ⟨some 11, (some (6, false)), .op (.bin .eql (.tmp 10) (.const (.int .i64 0)))⟩,
    ⟨some 12, none, .op (.pick (.tmp 6) (.const (.bool true)) (.tmp 11))⟩]

def c25_2 : C := .reg [⟨some 2, none, .op (.mv (.const (.int .i64 0)))⟩,
    ⟨some 3, none, .op (.mv (.const (.bool false)))⟩]

def c25_3 : C := .reg [⟨some 13, none, .op (.mv (.tmp 0))⟩,
    ⟨some 14, none, .op (.nn (.tmp 13))⟩,
    ⟨some 15, none, .op (.fa 0 (.tmp 14))⟩,
    ⟨some 16, none, .op (.ifc 82 (.tmp 15))⟩,
    ⟨some 17, none, .call 51 [.tmp 16]⟩,
    ⟨some 18, none, .op (.ta 3 (.tmp 17))⟩,
    ⟨some 2, none, .op (.mv (.tmp 18))⟩,
    ⟨some 3, none, .op (.mv (.const (.bool true)))⟩]

def c25 : Fn' := ⟨(.seq c25_0 (.seq (.seq c25_1 (.cond (.tmp 12) (.seq c25_2 .ret) .skip)) (.seq c25_3 .ret))), [.tmp 2, .tmp 3]⟩

theorem comp25 : compFn Try.prog 25 = some c25 := by kernel_rfl

def c26_0 : C := .reg [⟨some 4, none, .op (.mv (.const (.bool false)))⟩]

def c26_1 : C := .reg [⟨some 5, none, .op (.mv (.tmp 0))⟩,
    ⟨some 6, none, .op (.mv (.tmp 1))⟩,
    ⟨some 7, none, .call 46 [.tmp 5, .tmp 6]⟩,
    ⟨some 8, none, .op (.bin .eql (.tmp 7) (.const (.int .i64 0)))⟩,
    ⟨some 9, none, .op (.mv (.tmp 8))⟩,
    ⟨some 10, (some (9, true)), .op (.mv (.tmp 0))⟩,
    ⟨some 11, (some (9, true)), .op (.nn (.tmp 10))⟩,
    ⟨some 12, (some (9, true)), .op (.fa 0 (.tmp 11))⟩,
    ⟨some 13, (some (9, true)), .op (.fa 1 (.tmp 12))⟩,
    ⟨some 14, (some (9, true)), .op (.ld none (.tmp 13))⟩,
    ⟨some 15, (some (9, true)), .op (.mv (.tmp 1))⟩,
    ⟨some 16, (some (9, true)), .op (.ia 1 (.tmp 14) (.tmp 15))⟩,
    ⟨some 17, (some (9, true)), .op (.ld none (.tmp 16))⟩,
    ⟨some 18, (some (9, true)), .op (.bin .geq (.tmp 17) (.const (.int .i64 0)))⟩,
    ⟨some 19, none, .op (.pick (.tmp 9) (.tmp 18) (.const (.bool false)))⟩,
    ⟨some 4, none, .op (.mv (.tmp 19))⟩]

def c26 : Fn' := ⟨(.seq c26_0 (.seq c26_1 .ret)), [.tmp 4]⟩

theorem comp26 : compFn Try.prog 26 = some c26 := by kernel_rfl

def c27_0 : C := .reg [⟨some 2, none, .op (.mv (.const (.int .i64 0)))⟩]

def c27_1 : C := .reg [⟨some 3, none, .op (.mv (.tmp 0))⟩,
    ⟨some 4, none, .call 49 [.tmp 3]⟩]

def c27_2 : C := .reg [⟨some 2, none, .op (.mv (.const (.int .i64 0)))⟩]

def c27_3 : C := .reg [⟨some 5, none, .op (.mv (.tmp 0))⟩,
    ⟨some 6, none, .op (.nn (.tmp 5))⟩,
    ⟨some 7, none, .op (.fa 0 (.tmp 6))⟩,
    ⟨some 8, none, .call 50 [.tmp 7]⟩,
    ⟨some 2, none, .op (.mv (.tmp 8))⟩]

def c27 : Fn' := ⟨(.seq c27_0 (.seq (.seq c27_1 (.cond (.tmp 4) (.seq c27_2 .ret) .skip)) (.seq c27_3 .ret))), [.tmp 2]⟩

theorem comp27 : compFn Try.prog 27 = some c27 := by kernel_rfl

def c28_0 : C := .reg [⟨some 4, none, .op (.mv (.const (.int .u64 0)))⟩]

def c28_1 : C := .reg [⟨some 5, none, .op (.mv (.tmp 0))⟩,
    ⟨some 6, none, .op (.mv (.tmp 1))⟩,
    ⟨some 7, none, .call 46 [.tmp 5, .tmp 6]⟩,
    ⟨some 8, none, .op (.bin .neq (.tmp 7) (.const (.int .i64 0)))⟩]

def c28_2 : C := .reg [⟨some 4, none, .op (.mv (.const (.int .u64 0)))⟩]

def c28_3 : C := .reg [⟨some 9, none, .op (.mv (.tmp 0))⟩,
    ⟨some 10, none, .op (.nn (.tmp 9))⟩,
    ⟨some 11, none, .op (.fa 0 (.tmp 10))⟩,
    ⟨some 12, none, .op (.fa 2 (.tmp 11))⟩,
    ⟨some 13, none, .op (.ld none (.tmp 12))⟩,
    ⟨some 14, none, .op (.mv (.tmp 1))⟩,
    ⟨some 15, none, .op (.ia 1 (.tmp 13) (.tmp 14))⟩,
    ⟨some 16, none, .op (.ld none (.tmp 15))⟩,
    ⟨some 4, none, .op (.mv (.tmp 16))⟩]

def c28 : Fn' := ⟨(.seq c28_0 (.seq (.seq c28_1 (.cond (.tmp 8) (.seq c28_2 .ret) .skip)) (.seq c28_3 .ret))), [.tmp 4]⟩

theorem comp28 : compFn Try.prog 28 = some c28 := by kernel_rfl

def c29_0 : C := .reg [⟨some 4, none, .op (.mv (.const (.int .i64 0)))⟩]

def c29_1 : C := .reg [⟨some 6, none, .op (.mv (.tmp 0))⟩,
    ⟨some 7, none, .op (.mv (.tmp 1))⟩,
    ⟨some 8, none, .call 46 [.tmp 6, .tmp 7]⟩,
    ⟨some 5, none, .op (.mv (.tmp 8))⟩]

def c29_2 : C := .reg [⟨some 9, none, .op (.mv (.tmp 5))⟩,
    ⟨some 10, none, .op (.bin .eql (.tmp 9) (.const (.int .i64 0)))⟩,
    ⟨some 11, none, .op (.mv (.tmp 10))⟩,
    ⟨some 12, (some (11, true)), .op (.mv (.tmp 0))⟩,
    ⟨some 13, (some (11, true)), .op (.nn (.tmp 12))⟩,
    ⟨some 14, (some (11, true)), .op (.fa 0 (.tmp 13))⟩,
    ⟨some 15, (some (11, true)), .op (.fa 1 (.tmp 14))⟩,
    ⟨some 16, (some (11, true)), .op (.ld none (.tmp 15))⟩,
    ⟨some 17, (some (11, true)), .op (.mv (.tmp 1))⟩,
    ⟨some 18, (some (11, true)), .op (.ia 1 (.tmp 16) (.tmp 17))⟩,
    ⟨some 19, (some (11, true)), .op (.ld none (.tmp 18))⟩,
    ⟨some 20, (some (11, true)), .op (.bin .lss (.tmp 19) (.const (.int .i64 0)))⟩,
    ⟨some 21, none, .op (.pick (.tmp 11) (.tmp 20) (.const (.bool false)))⟩]

def c29_3 : C := .reg [⟨some 22, none, .op (.mv (.tmp 0))⟩,
    ⟨some 23, none, .op (.nn (.tmp 22))⟩,
    ⟨some 24, none, .op (.fa 0 (.tmp 23))⟩,
    ⟨some 25, none, .op (.ifc 82 (.tmp 24))⟩,
    ⟨some 26, none, .op (.mv (.tmp 1))⟩,
    ⟨some 27, none, .op (.ifc 3 (.tmp 26))⟩,
    ⟨some 28, none, .call 52 [.tmp 25, .tmp 27]⟩]

def c29_4 : C := .reg [⟨some 29, none, .op (.mv (.tmp 5))⟩,
    ⟨some 4, none, .op (.mv (.tmp 29))⟩]

def c29 : Fn' := ⟨(.seq c29_0 (.seq c29_1 (.seq (.seq c29_2 (.cond (.tmp 21) c29_3 .skip)) (.seq c29_4 .ret)))), [.tmp 4]⟩

theorem comp29 : compFn Try.prog 29 = some c29 := by kernel_rfl

def c38_0 : C := .reg [⟨some 5, none, .op (.mv (.tmp 1))⟩,
    ⟨some 6, none, .op (.ta 3 (.tmp 5))⟩,
    ⟨some 4, none, .op (.mv (.tmp 6))⟩]

def c38_1 : C := .regD 0 [⟨0, ⟨some 7, none, .op (.mv (.tmp 0))⟩, none, []⟩,
    ⟨1, ⟨some 8, none, .op (.nn (.tmp 7))⟩, none, []⟩,
    ⟨2, ⟨some 9, none, .op (.fa 1 (.tmp 8))⟩, none, []⟩,
    ⟨3, ⟨some 10, none, .op (.ld none (.tmp 9))⟩, none, []⟩,
    ⟨4, ⟨some 11, none, .op (.mv (.tmp 4))⟩, none, []⟩,
    ⟨5, ⟨some 12, none, .op (.mv (.tmp 0))⟩, none, []⟩,
    ⟨6, ⟨some 13, none, .op (.nn (.tmp 12))⟩, none, []⟩,
    ⟨7, ⟨some 14, none, .op (.fa 0 (.tmp 13))⟩, none, []⟩,
    ⟨8, ⟨some 15, none, .op (.ld none (.tmp 14))⟩, none, []⟩,
    ⟨9, ⟨some 16, none, .op (.len (.tmp 15))⟩, none, []⟩,
    ⟨10, ⟨some 17, none, .op (.ia 1 (.tmp 10) (.tmp 11))⟩, none, []⟩,
    ⟨11, ⟨none, none, .op (.st 1 (.tmp 17) (.tmp 16))⟩, none, []⟩]

def c38_2 : C := .reg [⟨some 18, none, .op (.mv (.tmp 0))⟩,
    ⟨some 19, none, .op (.mv (.tmp 0))⟩,
    ⟨some 20, none, .op (.nn (.tmp 19))⟩,
    ⟨some 21, none, .op (.fa 0 (.tmp 20))⟩,
    ⟨some 22, none, .op (.ld none (.tmp 21))⟩,
    ⟨some 23, none, .op (.mv (.tmp 4))⟩,
    ⟨some 24, none, .op (.mkSl (reps 1 [(.int .i64 0)]) 1 [(0, 1, .tmp 23)])⟩,
    ⟨some 25, none, .op (.app 1 8 (.tmp 22) (.tmp 24))⟩,
    ⟨some 26, none, .op (.nn (.tmp 18))⟩,
    ⟨some 27, none, .op (.fa 0 (.tmp 26))⟩,
    ⟨none, none, .op (.st 1 (.tmp 27) (.tmp 25))⟩]

def c38 : Fn' := ⟨(.seq c38_0 (.seq c38_1 c38_2)), []⟩

theorem comp38 : compFn Try.prog 38 = some c38 := by kernel_rfl

def c46_0 : C := .reg [⟨some 4, none, .op (.mv (.const (.int .i64 0)))⟩]

def c46_1 : C := .reg [⟨some 6, none, .op (.mv (.tmp 0))⟩,
    ⟨some 7, none, .call 49 [.tmp 6]⟩,
    ⟨some 5, none, .op (.mv (.tmp 7))⟩]

def c46_2 : C := .reg [⟨some 4, none, .op (.mv (.const (.int .i64 1)))⟩]

def c46_3 : C := .reg [⟨some 9, none, .op (.mv (.tmp 1))⟩,
    ⟨some 10, none, .op (.bin .lss (.tmp 9) (.const (.int .i64 1)))⟩,
    ⟨some 11, none, .op (.mv (.tmp 10))⟩,
    ⟨some 12, (some (11, false)), .op (.mv (.tmp 1))⟩,
    ⟨some 13, (some (11, false)), .op (.mv (.tmp 0))⟩,
    ⟨some 14, (some (11, false)), .op (.nn (.tmp 13))⟩,
    ⟨some 15, (some (11, false)), .op (.fa 0 (.tmp 14))⟩,
    ⟨some 16, (some (11, false)), .op (.fa 2 (.tmp 15))⟩,
    ⟨some 17, (some (11, false)), .op (.ld none (.tmp 16))⟩,
    ⟨some 18, (some (11, false)), .op (.len (.tmp 17))⟩,
    ⟨some 19, (some (11, false)), .op (.bin .geq (.tmp 12) (.tmp 18))⟩,
    ⟨some 20, none, .op (.pick (.tmp 11) (.const (.bool true)) (.tmp 19))⟩,
    ⟨some 8, none, .op (.mv (.tmp 20))⟩]

def c46_4 : C := .reg [⟨some 4, none, .op (.mv (.const (.int .i64 2)))⟩]

def c46_5 : C := .reg [⟨some 4, none, .op (.mv (.const (.int .i64 0)))⟩]

def c46 : Fn' := ⟨(.seq c46_0 (.seq (.block 0 (.seq c46_1 (.cond (.tmp 5) (.seq c46_2 .ret) (.seq c46_3 (.cond (.tmp 8) (.seq c46_4 .ret) .skip))))) (.seq c46_5 .ret))), [.tmp 4]⟩

theorem comp46 : compFn Try.prog 46 = some c46 := by kernel_rfl

def c47_0 : C := .reg [⟨some 4, none, .op (.mv (.tmp 0))⟩,
    ⟨some 5, none, .op (.mv (.tmp 1))⟩,
    ⟨some 6, none, .op (.mv (.tmp 0))⟩,
    ⟨some 7, none, .inv (.tmp 6) [(17, 84, none), (41, 27, none), (44, 45, none), (82, 50, none)] []⟩,
    ⟨some 8, none, .call 63 [.tmp 4, .tmp 5, .tmp 7]⟩,
    ⟨some 9, none, .op (.un .not (.tmp 8))⟩]

def c47_1 : C := .reg [⟨some 10, none, .op (.mv (.tmp 0))⟩,
    ⟨some 11, none, .op (.mv (.tmp 1))⟩,
    ⟨some 12, none, .call 64 [.tmp 10, .tmp 11]⟩]

def c47 : Fn' := ⟨(.seq c47_0 (.cond (.tmp 9) c47_1 .skip)), []⟩

theorem comp47 : compFn Try.prog 47 = some c47 := by kernel_rfl

def c48_0 : C := .reg [⟨some 3, none, .op (.mv (.tmp 0))⟩,
    ⟨some 4, none, .op (.nn (.tmp 3))⟩,
    ⟨some 5, none, .op (.fa 0 (.tmp 4))⟩,
    ⟨some 6, none, .op (.fa 2 (.tmp 5))⟩,
    ⟨some 7, none, .op (.ld none (.tmp 6))⟩,
    ⟨some 8, none, .op (.len (.tmp 7))⟩,
    ⟨some 9, none, .op (.mv (.const (.int .i64 0)))⟩]

def c48_1 : C := .reg [⟨some 10, none, .op (.bin .lss (.tmp 9) (.tmp 8))⟩]

def c48_2 : C := .reg [⟨some 11, none, .op (.mv (.tmp 9))⟩,
    ⟨some 2, none, .op (.mv (.tmp 11))⟩]

def c48_3 : C := .reg [⟨some 12, none, .op (.mv (.tmp 0))⟩,
    ⟨some 13, none, .op (.nn (.tmp 12))⟩,
    ⟨some 14, none, .op (.fa 0 (.tmp 13))⟩,
    ⟨some 15, none, .op (.fa 2 (.tmp 14))⟩,
    ⟨some 16, none, .op (.ld none (.tmp 15))⟩,
    ⟨some 17, none, .op (.mv (.tmp 2))⟩,
    ⟨some 18, none, .op (.ia 1 (.tmp 16) (.tmp 17))⟩,
    ⟨some 19, none, .op (.ld none (.tmp 18))⟩,
    ⟨some 20, none, .op (.bin .shr (.tmp 19) (.const (.int .u64 24)))⟩,
    ⟨some 21, none, .op (.ia 1 (.tmp 16) (.tmp 17))⟩,
    ⟨none, none, .op (.st 1 (.tmp 21) (.tmp 20))⟩]

def c48_4 : C := .reg [⟨some 22, none, .op (.bin .add (.tmp 9) (.const (.int .i64 1)))⟩,
    ⟨some 9, none, .op (.mv (.tmp 22))⟩]

def c48_5 : C := .reg [⟨some 23, none, .op (.mv (.tmp 0))⟩,
    ⟨some 24, none, .op (.mv (.tmp 0))⟩,
    ⟨some 25, none, .op (.nn (.tmp 24))⟩,
    ⟨some 26, none, .op (.fa 3 (.tmp 25))⟩,
    ⟨some 27, none, .op (.ld none (.tmp 26))⟩,
    ⟨some 28, none, .op (.bin .shr (.tmp 27) (.const (.int .u64 24)))⟩,
    ⟨some 29, none, .op (.mm true (.tmp 28) [.const (.int .u64 1)])⟩,
    ⟨some 30, none, .op (.nn (.tmp 23))⟩,
    ⟨some 31, none, .op (.fa 3 (.tmp 30))⟩,
    ⟨none, none, .op (.st 1 (.tmp 31) (.tmp 29))⟩]

def c48_6 : C := .reg [⟨some 32, none, .op (.mv (.tmp 0))⟩,
    ⟨some 33, none, .op (.nn (.tmp 32))⟩,
    ⟨some 34, none, .op (.fa 0 (.tmp 33))⟩,
    ⟨some 35, none, .op (.ifc 82 (.tmp 34))⟩,
    ⟨some 36, none, .call 65 [.tmp 35]⟩]

def c48 : Fn' := ⟨(.seq (.seq c48_0 (.block 0 (.loop (.seq c48_1 (.seq (.cond (.tmp 10) .skip (.exit 0)) (.seq (.block 1 (.seq c48_2 c48_3)) c48_4)))))) (.seq c48_5 c48_6)), []⟩

theorem comp48 : compFn Try.prog 48 = some c48 := by kernel_rfl

def c49_0 : C := .reg [⟨some 2, none, .op (.mv (.const (.bool false)))⟩]

def c49_1 : C := .reg [⟨some 3, none, .op (.mv (.tmp 0))⟩,
    ⟨some 4, none, .op (.nil 0 false (.tmp 3) (.const (.pointer none)))⟩,
    ⟨some 5, none, .op (.mv (.tmp 4))⟩,
    ⟨some 6, (some (5, false)), .op (.mv (.tmp 0))⟩,
    ⟨some 7, (some (5, false)), .op (.nn (.tmp 6))⟩,
    ⟨some 8, (some (5, false)), .op (.fa 3 (.tmp 7))⟩,
    ⟨some 9, (some (5, false)), .op (.ld none (.tmp 8))⟩,
    ⟨some 10, (some (5, false)), .op (.bin .eql (.tmp 9) (.const (.int .u64 0)))⟩,
    ⟨some 11, none, .op (.pick (.tmp 5) (.const (.bool true)) (.tmp 10))⟩,
    ⟨some 2, none, .op (.mv (.tmp 11))⟩]

def c49 : Fn' := ⟨(.seq c49_0 (.seq c49_1 .ret)), [.tmp 2]⟩

theorem comp49 : compFn Try.prog 49 = some c49 := by kernel_rfl

def c50_0 : C := .reg [⟨some 2, none, .op (.mv (.const (.int .i64 0)))⟩]

def c50_1 : C := .reg [⟨some 3, none, .op (.mv (.tmp 0))⟩,
    ⟨some 4, none, .op (.nn (.tmp 3))⟩,
    ⟨some 5, none, .op (.fa 0 (.tmp 4))⟩,
    ⟨some 6, none, .op (.ld none (.tmp 5))⟩,
    ⟨some 7, none, .op (.len (.tmp 6))⟩,
    ⟨some 2, none, .op (.mv (.tmp 7))⟩]

def c50 : Fn' := ⟨(.seq c50_0 (.seq c50_1 .ret)), [.tmp 2]⟩

theorem comp50 : compFn Try.prog 50 = some c50 := by kernel_rfl

def c51_0 : C := .reg [⟨some 2, none, .op (.mv (.const (.nilIface)))⟩]

def c51_1 : C := .reg [⟨some 4, none, .op (.mv (.tmp 0))⟩,
    ⟨some 5, none, .inv (.tmp 4) [(17, 84, none), (41, 27, none), (44, 45, none), (82, 50, none)] []⟩,
    ⟨some 6, none, .op (.bin .sub (.tmp 5) (.const (.int .i64 1)))⟩,
    ⟨some 3, none, .op (.mv (.tmp 6))⟩]

def c51_2 : C := .reg [⟨some 7, none, .op (.mv (.tmp 0))⟩,
    ⟨some 8, none, .op (.mv (.tmp 3))⟩,
    ⟨some 9, none, .inv (.tmp 7) [(82, 90, none)] [.const (.int .i64 0), .tmp 8]⟩]

def c51_3 : C := .reg [⟨some 10, none, .op (.mv (.tmp 0))⟩,
    ⟨some 11, none, .op (.mv (.tmp 3))⟩,
    ⟨some 12, none, .call 63 [.tmp 10, .const (.int .i64 0), .tmp 11]⟩]

def c51_4 : C := .reg [⟨some 13, none, .op (.mv (.tmp 0))⟩,
    ⟨some 14, none, .inv (.tmp 13) [(82, 89, none)] []⟩,
    ⟨some 2, none, .op (.mv (.tmp 14))⟩]

def c51 : Fn' := ⟨(.seq c51_0 (.seq c51_1 (.seq c51_2 (.seq c51_3 (.seq c51_4 .ret))))), [.tmp 2]⟩

theorem comp51 : compFn Try.prog 51 = some c51 := by kernel_rfl

def c52_0 : C := .reg [⟨some 4, none, .op (.mv (.tmp 0))⟩,
    ⟨some 5, none, .op (.mv (.tmp 1))⟩,
    ⟨some 6, none, .inv (.tmp 4) [(82, 38, none)] [.tmp 5]⟩]

def c52_1 : C := .reg [⟨some 7, none, .op (.mv (.tmp 0))⟩,
    ⟨some 8, none, .op (.mv (.tmp 0))⟩,
    ⟨some 9, none, .inv (.tmp 8) [(17, 84, none), (41, 27, none), (44, 45, none), (82, 50, none)] []⟩,
    ⟨some 10, none, .op (.bin .sub (.tmp 9) (.const (.int .i64 1)))⟩,
    ⟨some 11, none, .call 64 [.tmp 7, .tmp 10]⟩]

def c52 : Fn' := ⟨(.seq c52_0 c52_1), []⟩

theorem comp52 : compFn Try.prog 52 = some c52 := by kernel_rfl

def c63_0 : C := .reg [⟨some 6, none, .op (.mv (.const (.bool false)))⟩]

def c63_1 : C := .reg [⟨some 11, none, .op (.mv (.tmp 1))⟩,
    ⟨some 7, none, .op (.mv (.tmp 11))⟩]

def c63_2 : C := .reg [⟨some 12, none, .op (.mv (.tmp 7))⟩,
    ⟨some 13, none, .op (.bin .mul (.const (.int .i64 2)) (.tmp 12))⟩,
    ⟨some 14, none, .op (.bin .add (.tmp 13) (.const (.int .i64 1)))⟩,
    ⟨some 8, none, .op (.mv (.tmp 14))⟩]

def c63_3 : C := .reg [⟨some 15, none, .op (.mv (.tmp 8))⟩,
    ⟨some 16, none, .op (.mv (.tmp 2))⟩,
    ⟨some 17, none, .op (.bin .geq (.tmp 15) (.tmp 16))⟩,
    ⟨some 18, none, .op (.mv (.tmp 17))⟩,
    ⟨some 19, (some (18, false)), .op (.mv (.tmp 8))⟩,
    ⟨some 20, (some (18, false)), .op (.bin .lss (.tmp 19) (.const (.int .i64 0)))⟩,
    ⟨some 21, none, .op (.pick (.tmp 18) (.const (.bool true)) (.tmp 20))⟩]

def c63_4 : C := .reg [⟨some 22, none, .op (.mv (.tmp 8))⟩,
    ⟨some 9, none, .op (.mv (.tmp 22))⟩]

def c63_5 : C := .reg [⟨some 23, none, .op (.mv (.tmp 8))⟩,
    ⟨some 24, none, .op (.bin .add (.tmp 23) (.const (.int .i64 1)))⟩,
    ⟨some 10, none, .op (.mv (.tmp 24))⟩]

def c63_6 : C := .reg [⟨some 25, none, .op (.mv (.tmp 10))⟩,
    ⟨some 26, none, .op (.mv (.tmp 2))⟩,
    ⟨some 27, none, .op (.bin .lss (.tmp 25) (.tmp 26))⟩,
    ⟨some 28, none, .op (.mv (.tmp 27))⟩,
    ⟨some 29, (some (28, true)), .op (.mv (.tmp 0))⟩,
    ⟨some 30, (some (28, true)), .op (.mv (.tmp 10))⟩,
    ⟨some 31, (some (28, true)), .op (.mv (.tmp 8))⟩,
    ⟨some 32, (some (28, true)), .inv (.tmp 29) [(82, 88, none)] [.tmp 30, .tmp 31]⟩,
    ⟨some 33, none, .op (.pick (.tmp 28) (.tmp 32) (.const (.bool false)))⟩]

def c63_7 : C := .reg [⟨some 34, none, .op (.mv (.tmp 10))⟩,
    ⟨some 9, none, .op (.mv (.tmp 34))⟩]

def c63_8 : C := .reg [⟨some 35, none, .op (.mv (.tmp 0))⟩,
    ⟨some 36, none, .op (.mv (.tmp 9))⟩,
    ⟨some 37, none, .op (.mv (.tmp 7))⟩,
    ⟨some 38, none, .inv (.tmp 35) [(82, 88, none)] [.tmp 36, .tmp 37]⟩,
    ⟨some 39, none, .op (.un .not (.tmp 38))⟩]

def c63_9 : C := .reg [⟨some 40, none, .op (.mv (.tmp 0))⟩,
    ⟨some 41, none, .op (.mv (.tmp 7))⟩,
    ⟨some 42, none, .op (.mv (.tmp 9))⟩,
    ⟨some 43, none, .inv (.tmp 40) [(82, 90, none)] [.tmp 41, .tmp 42]⟩]

def c63_10 : C := .reg [⟨some 44, none, .op (.mv (.tmp 9))⟩,
    ⟨some 7, none, .op (.mv (.tmp 44))⟩]

def c63_11 : C := .reg [⟨some 45, none, .op (.mv (.tmp 7))⟩,
    ⟨some 46, none, .op (.mv (.tmp 1))⟩,
    ⟨some 47, none, .op (.bin .gtr (.tmp 45) (.tmp 46))⟩,
    ⟨some 6, none, .op (.mv (.tmp 47))⟩]

def c63 : Fn' := ⟨(.seq c63_0 (.seq c63_1 (.seq (.block 0 (.loop (.block 1 (.seq c63_2 (.seq (.seq c63_3 (.cond (.tmp 21) (.exit 0) .skip)) (.seq c63_4 (.seq (.seq c63_5 (.seq c63_6 (.cond (.tmp 33) c63_7 .skip))) (.seq (.seq c63_8 (.cond (.tmp 39) (.exit 0) .skip)) (.seq c63_9 c63_10))))))))) (.seq c63_11 .ret)))), [.tmp 6]⟩

theorem comp63 : compFn Try.prog 63 = some c63 := by kernel_rfl

def c64_0 : C := .reg [⟨some 5, none, .op (.mv (.tmp 1))⟩,
    ⟨some 6, none, .op (.bin .sub (.tmp 5) (.const (.int .i64 1)))⟩,
    ⟨some 7, none, .op (.bin .quo (.tmp 6) (.const (.int .i64 2)))⟩,
    ⟨some 4, none, .op (.mv (.tmp 7))⟩]

def c64_1 : C := .reg [⟨some 8, none, .op (.mv (.tmp 4))⟩,
    ⟨some 9, none, .op (.mv (.tmp 1))⟩,
    ⟨some 10, none, .op (.bin .eql (.tmp 8) (.tmp 9))⟩,
    ⟨some 11, none, .op (.mv (.tmp 10))⟩,
    ⟨some 12, (some (11, false)), .op (.mv (.tmp 0))⟩,
    ⟨some 13, (some (11, false)), .op (.mv (.tmp 1))⟩,
    ⟨some 14, (some (11, false)), .op (.mv (.tmp 4))⟩,
    ⟨some 15, (some (11, false)), .inv (.tmp 12) [(82, 88, none)] [.tmp 13, .tmp 14]⟩,
    ⟨some 16, (some (11, false)), .op (.un .not (.tmp 15))⟩,
    ⟨some 17, none, .op (.pick (.tmp 11) (.const (.bool true)) (.tmp 16))⟩]

def c64_2 : C := .reg [⟨some 18, none, .op (.mv (.tmp 0))⟩,
    ⟨some 19, none, .op (.mv (.tmp 4))⟩,
    ⟨some 20, none, .op (.mv (.tmp 1))⟩,
    ⟨some 21, none, .inv (.tmp 18) [(82, 90, none)] [.tmp 19, .tmp 20]⟩]

def c64_3 : C := .reg [⟨some 22, none, .op (.mv (.tmp 4))⟩,
    ⟨some 1, none, .op (.mv (.tmp 22))⟩]

def c64 : Fn' := ⟨(.block 0 (.loop (.block 1 (.seq c64_0 (.seq (.seq c64_1 (.cond (.tmp 17) (.exit 0) .skip)) (.seq c64_2 c64_3)))))), []⟩

theorem comp64 : compFn Try.prog 64 = some c64 := by kernel_rfl

def c65_0 : C := .reg [⟨some 4, none, .op (.mv (.tmp 0))⟩,
    ⟨some 5, none, .inv (.tmp 4) [(17, 84, none), (41, 27, none), (44, 45, none), (82, 50, none)] []⟩,
    ⟨some 2, none, .op (.mv (.tmp 5))⟩]

def c65_1 : C := .reg [⟨some 6, none, .op (.mv (.tmp 2))⟩,
    ⟨some 7, none, .op (.bin .quo (.tmp 6) (.const (.int .i64 2)))⟩,
    ⟨some 8, none, .op (.bin .sub (.tmp 7) (.const (.int .i64 1)))⟩,
    ⟨some 3, none, .op (.mv (.tmp 8))⟩]

def c65_2 : C := .reg [⟨some 9, none, .op (.mv (.tmp 3))⟩,
    ⟨some 10, none, .op (.bin .geq (.tmp 9) (.const (.int .i64 0)))⟩]

def c65_3 : C := .reg [⟨some 13, none, .op (.mv (.tmp 0))⟩,
    ⟨some 14, none, .op (.mv (.tmp 3))⟩,
    ⟨some 15, none, .op (.mv (.tmp 2))⟩,
    ⟨some 16, none, .call 63 [.tmp 13, .tmp 14, .tmp 15]⟩]

def c65_4 : C := .reg [⟨some 11, none, .op (.mv (.tmp 3))⟩,
    ⟨some 12, none, .op (.bin .sub (.tmp 11) (.const (.int .i64 1)))⟩,
    ⟨some 3, none, .op (.mv (.tmp 12))⟩]

def c65 : Fn' := ⟨(.seq c65_0 (.seq c65_1 (.block 0 (.loop (.seq (.seq c65_2 (.cond (.tmp 10) .skip (.exit 0))) (.seq (.block 1 c65_3) c65_4)))))), []⟩

theorem comp65 : compFn Try.prog 65 = some c65 := by kernel_rfl

def c88_0 : C := .reg [⟨some 6, none, .op (.mv (.const (.bool false)))⟩]

def c88_1 : C := .regD 0 [⟨0, ⟨some 9, none, .op (.mv (.tmp 0))⟩, none, []⟩,
    ⟨1, ⟨some 10, none, .op (.nn (.tmp 9))⟩, none, []⟩,
    ⟨2, ⟨some 11, none, .op (.fa 0 (.tmp 10))⟩, none, []⟩,
    ⟨3, ⟨some 12, none, .op (.ld none (.tmp 11))⟩, none, []⟩,
    ⟨4, ⟨some 13, none, .op (.mv (.tmp 1))⟩, none, []⟩,
    ⟨5, ⟨some 14, none, .op (.ia 1 (.tmp 12) (.tmp 13))⟩, none, []⟩,
    ⟨6, ⟨some 15, none, .op (.ld none (.tmp 14))⟩, none, []⟩,
    ⟨7, ⟨some 16, none, .op (.mv (.tmp 0))⟩, none, []⟩,
    ⟨8, ⟨some 17, none, .op (.nn (.tmp 16))⟩, none, []⟩,
    ⟨9, ⟨some 18, none, .op (.fa 0 (.tmp 17))⟩, none, []⟩,
    ⟨10, ⟨some 19, none, .op (.ld none (.tmp 18))⟩, none, []⟩,
    ⟨11, ⟨some 20, none, .op (.mv (.tmp 2))⟩, none, []⟩,
    ⟨12, ⟨some 21, none, .op (.ia 1 (.tmp 19) (.tmp 20))⟩, none, []⟩,
    ⟨13, ⟨some 22, none, .op (.ld none (.tmp 21))⟩, none, []⟩,
    ⟨14, ⟨some 7, none, .op (.mv (.tmp 15))⟩, none, []⟩,
    ⟨15, ⟨some 8, none, .op (.mv (.tmp 22))⟩, none, []⟩]

def c88_2 : C := .regD 0 [⟨0, ⟨some 23, none, .op (.mv (.tmp 0))⟩, none, []⟩,
    ⟨1, ⟨some 24, none, .op (.nn (.tmp 23))⟩, none, []⟩,
    ⟨2, ⟨some 25, none, .op (.fa 2 (.tmp 24))⟩, none, []⟩,
    ⟨3, ⟨some 26, none, .op (.ld none (.tmp 25))⟩, none, []⟩,
    ⟨4, ⟨some 27, none, .op (.mv (.tmp 7))⟩, none, []⟩,
    ⟨5, ⟨some 28, none, .op (.ia 1 (.tmp 26) (.tmp 27))⟩, none, []⟩,
    ⟨6, ⟨some 29, none, .op (.ld none (.tmp 28))⟩, none, []⟩,
    ⟨7, ⟨some 30, none, .op (.mv (.tmp 0))⟩, none, []⟩,
    ⟨8, ⟨some 31, none, .op (.nn (.tmp 30))⟩, none, []⟩,
    ⟨9, ⟨some 32, none, .op (.fa 2 (.tmp 31))⟩, none, []⟩,
    ⟨10, ⟨some 33, none, .op (.ld none (.tmp 32))⟩, none, []⟩,
    ⟨11, ⟨some 34, none, .op (.mv (.tmp 8))⟩, none, []⟩,
    ⟨12, ⟨some 35, none, .op (.ia 1 (.tmp 33) (.tmp 34))⟩, none, []⟩,
    ⟨13, ⟨some 36, none, .op (.ld none (.tmp 35))⟩, none, []⟩,
    ⟨14, ⟨some 37, none, .op (.bin .neq (.tmp 29) (.tmp 36))⟩, none, []⟩]

def c88_3 : C := .regD 0 [⟨0, ⟨some 38, none, .op (.mv (.tmp 0))⟩, none, []⟩,
    ⟨1, ⟨some 39, none, .op (.nn (.tmp 38))⟩, none, []⟩,
    ⟨2, ⟨some 40, none, .op (.fa 2 (.tmp 39))⟩, none, []⟩,
    ⟨3, ⟨some 41, none, .op (.ld none (.tmp 40))⟩, none, []⟩,
    ⟨4, ⟨some 42, none, .op (.mv (.tmp 7))⟩, none, []⟩,
    ⟨5, ⟨some 43, none, .op (.ia 1 (.tmp 41) (.tmp 42))⟩, none, []⟩,
    ⟨6, ⟨some 44, none, .op (.ld none (.tmp 43))⟩, none, []⟩,
    ⟨7, ⟨some 45, none, .op (.mv (.tmp 0))⟩, none, []⟩,
    ⟨8, ⟨some 46, none, .op (.nn (.tmp 45))⟩, none, []⟩,
    ⟨9, ⟨some 47, none, .op (.fa 2 (.tmp 46))⟩, none, []⟩,
    ⟨10, ⟨some 48, none, .op (.ld none (.tmp 47))⟩, none, []⟩,
    ⟨11, ⟨some 49, none, .op (.mv (.tmp 8))⟩, none, []⟩,
    ⟨12, ⟨some 50, none, .op (.ia 1 (.tmp 48) (.tmp 49))⟩, none, []⟩,
    ⟨13, ⟨some 51, none, .op (.ld none (.tmp 50))⟩, none, []⟩,
    ⟨14, ⟨some 52, none, .op (.bin .gtr (.tmp 44) (.tmp 51))⟩, none, []⟩,
    ⟨15, ⟨some 6, none, .op (.mv (.tmp 52))⟩, none, []⟩]

def c88_4 : C := .reg [⟨some 53, none, .op (.mv (.tmp 7))⟩,
    ⟨some 54, none, .op (.mv (.tmp 8))⟩,
    ⟨some 55, none, .op (.bin .lss (.tmp 53) (.tmp 54))⟩,
    ⟨some 6, none, .op (.mv (.tmp 55))⟩]

def c88 : Fn' := ⟨(.seq c88_0 (.seq c88_1 (.seq (.seq c88_2 (.cond (.tmp 37) (.seq c88_3 .ret) .skip)) (.seq c88_4 .ret)))), [.tmp 6]⟩

theorem comp88 : compFn Try.prog 88 = some c88 := by kernel_rfl

def c89_0 : C := .reg [⟨some 2, none, .op (.mv (.const (.nilIface)))⟩]

def c89_1 : C := .reg [⟨some 5, none, .op (.mv (.tmp 0))⟩,
    ⟨some 6, none, .op (.nn (.tmp 5))⟩,
    ⟨some 7, none, .op (.fa 0 (.tmp 6))⟩,
    ⟨some 8, none, .op (.ld none (.tmp 7))⟩,
    ⟨some 9, none, .op (.len (.tmp 8))⟩,
    ⟨some 10, none, .op (.bin .sub (.tmp 9) (.const (.int .i64 1)))⟩,
    ⟨some 3, none, .op (.mv (.tmp 10))⟩]

def c89_2 : C := .reg [⟨some 11, none, .op (.mv (.tmp 0))⟩,
    ⟨some 12, none, .op (.nn (.tmp 11))⟩,
    ⟨some 13, none, .op (.fa 0 (.tmp 12))⟩,
    ⟨some 14, none, .op (.ld none (.tmp 13))⟩,
    ⟨some 15, none, .op (.mv (.tmp 3))⟩,
    ⟨some 16, none, .op (.ia 1 (.tmp 14) (.tmp 15))⟩,
    ⟨some 17, none, .op (.ld none (.tmp 16))⟩,
    ⟨some 4, none, .op (.mv (.tmp 17))⟩]

def c89_3 : C := .regD 0 [⟨0, ⟨some 18, none, .op (.mv (.tmp 0))⟩, none, []⟩,
    ⟨1, ⟨some 19, none, .op (.mv (.tmp 0))⟩, none, []⟩,
    ⟨2, ⟨some 20, none, .op (.nn (.tmp 19))⟩, none, []⟩,
    ⟨3, ⟨some 21, none, .op (.fa 1 (.tmp 20))⟩, none, []⟩,
    ⟨4, ⟨some 22, none, .op (.ld none (.tmp 21))⟩, none, []⟩,
    ⟨5, ⟨some 23, none, .op (.mv (.tmp 4))⟩, none, []⟩,
    ⟨6, ⟨some 24, none, .op (.mv (.tmp 0))⟩, none, []⟩,
    ⟨7, ⟨some 25, none, .op (.nn (.tmp 24))⟩, none, []⟩,
    ⟨8, ⟨some 26, none, .op (.fa 0 (.tmp 25))⟩, none, []⟩,
    ⟨9, ⟨some 27, none, .op (.ld none (.tmp 26))⟩, none, []⟩,
    ⟨10, ⟨some 28, none, .op (.mv (.tmp 3))⟩, none, []⟩,
    ⟨11, ⟨some 29, none, .op (.slc 1 (.tmp 27) none (some (.tmp 28)) none)⟩, none, []⟩,
    ⟨12, ⟨some 30, none, .op (.nn (.tmp 18))⟩, none, []⟩,
    ⟨13, ⟨some 31, none, .op (.fa 0 (.tmp 30))⟩, none, []⟩,
    ⟨14, ⟨none, none, .op (.st 1 (.tmp 31) (.tmp 29))⟩, none, []⟩,
    ⟨15, ⟨some 32, none, .op (.ia 1 (.tmp 22) (.tmp 23))⟩, none, []⟩,
    ⟨16, ⟨none, none, .op (.st 1 (.tmp 32) (.const (.int .i64 (-1))))⟩, none, []⟩]

def c89_4 : C := .reg [⟨some 33, none, .op (.mv (.tmp 4))⟩,
    ⟨some 34, none, .op (.ifc 3 (.tmp 33))⟩,
    ⟨some 2, none, .op (.mv (.tmp 34))⟩]

def c89 : Fn' := ⟨(.seq c89_0 (.seq c89_1 (.seq c89_2 (.seq c89_3 (.seq c89_4 .ret))))), [.tmp 2]⟩

theorem comp89 : compFn Try.prog 89 = some c89 := by kernel_rfl

def c90_0 : C := .regD 0 [⟨0, ⟨some 6, none, .op (.mv (.tmp 0))⟩, none, []⟩,
    ⟨1, ⟨some 7, none, .op (.nn (.tmp 6))⟩, none, []⟩,
    ⟨2, ⟨some 8, none, .op (.fa 0 (.tmp 7))⟩, none, []⟩,
    ⟨3, ⟨some 9, none, .op (.ld none (.tmp 8))⟩, none, []⟩,
    ⟨4, ⟨some 10, none, .op (.mv (.tmp 1))⟩, none, []⟩,
    ⟨5, ⟨some 11, none, .op (.mv (.tmp 0))⟩, none, []⟩,
    ⟨6, ⟨some 12, none, .op (.nn (.tmp 11))⟩, none, []⟩,
    ⟨7, ⟨some 13, none, .op (.fa 0 (.tmp 12))⟩, none, []⟩,
    ⟨8, ⟨some 14, none, .op (.ld none (.tmp 13))⟩, none, []⟩,
    ⟨9, ⟨some 15, none, .op (.mv (.tmp 2))⟩, none, []⟩,
    ⟨10, ⟨some 16, none, .op (.mv (.tmp 0))⟩, none, []⟩,
    ⟨11, ⟨some 17, none, .op (.nn (.tmp 16))⟩, none, []⟩,
    ⟨12, ⟨some 18, none, .op (.fa 0 (.tmp 17))⟩, none, []⟩,
    ⟨13, ⟨some 19, none, .op (.ld none (.tmp 18))⟩, none, []⟩,
    ⟨14, ⟨some 20, none, .op (.mv (.tmp 2))⟩, none, []⟩,
    ⟨15, ⟨some 21, none, .op (.ia 1 (.tmp 19) (.tmp 20))⟩, none, []⟩,
    ⟨16, ⟨some 22, none, .op (.ld none (.tmp 21))⟩, none, []⟩,
    ⟨17, ⟨some 23, none, .op (.mv (.tmp 0))⟩, none, []⟩,
    ⟨18, ⟨some 24, none, .op (.nn (.tmp 23))⟩, none, []⟩,
    ⟨19, ⟨some 25, none, .op (.fa 0 (.tmp 24))⟩, none, []⟩,
    ⟨20, ⟨some 26, none, .op (.ld none (.tmp 25))⟩, none, []⟩,
    ⟨21, ⟨some 27, none, .op (.mv (.tmp 1))⟩, none, []⟩,
    ⟨22, ⟨some 28, none, .op (.ia 1 (.tmp 26) (.tmp 27))⟩, none, []⟩,
    ⟨23, ⟨some 29, none, .op (.ld none (.tmp 28))⟩, none, []⟩,
    ⟨24, ⟨some 30, none, .op (.ia 1 (.tmp 9) (.tmp 10))⟩, none, []⟩,
    ⟨25, ⟨none, none, .op (.st 1 (.tmp 30) (.tmp 22))⟩, none, []⟩,
    ⟨26, ⟨some 31, none, .op (.ia 1 (.tmp 14) (.tmp 15))⟩, none, []⟩,
    ⟨27, ⟨none, none, .op (.st 1 (.tmp 31) (.tmp 29))⟩, none, []⟩]

def c90_1 : C := .regD 0 [⟨0, ⟨some 32, none, .op (.mv (.tmp 0))⟩, none, []⟩,
    ⟨1, ⟨some 33, none, .op (.nn (.tmp 32))⟩, none, []⟩,
    ⟨2, ⟨some 34, none, .op (.fa 1 (.tmp 33))⟩, none, []⟩,
    ⟨3, ⟨some 35, none, .op (.ld none (.tmp 34))⟩, none, []⟩,
    ⟨4, ⟨some 36, none, .op (.mv (.tmp 0))⟩, none, []⟩,
    ⟨5, ⟨some 37, none, .op (.nn (.tmp 36))⟩, none, []⟩,
    ⟨6, ⟨some 38, none, .op (.fa 0 (.tmp 37))⟩, none, []⟩,
    ⟨7, ⟨some 39, none, .op (.ld none (.tmp 38))⟩, none, []⟩,
    ⟨8, ⟨some 40, none, .op (.mv (.tmp 1))⟩, none, []⟩,
    ⟨9, ⟨some 41, none, .op (.ia 1 (.tmp 39) (.tmp 40))⟩, none, []⟩,
    ⟨10, ⟨some 42, none, .op (.ld none (.tmp 41))⟩, none, []⟩,
    ⟨11, ⟨some 43, none, .op (.mv (.tmp 0))⟩, none, []⟩,
    ⟨12, ⟨some 44, none, .op (.nn (.tmp 43))⟩, none, []⟩,
    ⟨13, ⟨some 45, none, .op (.fa 1 (.tmp 44))⟩, none, []⟩,
    ⟨14, ⟨some 46, none, .op (.ld none (.tmp 45))⟩, none, []⟩,
    ⟨15, ⟨some 47, none, .op (.mv (.tmp 0))⟩, none, []⟩,
    ⟨16, ⟨some 48, none, .op (.nn (.tmp 47))⟩, none, []⟩,
    ⟨17, ⟨some 49, none, .op (.fa 0 (.tmp 48))⟩, none, []⟩,
    ⟨18, ⟨some 50, none, .op (.ld none (.tmp 49))⟩, none, []⟩,
    ⟨19, ⟨some 51, none, .op (.mv (.tmp 2))⟩, none, []⟩,
    ⟨20, ⟨some 52, none, .op (.ia 1 (.tmp 50) (.tmp 51))⟩, none, []⟩,
    ⟨21, ⟨some 53, none, .op (.ld none (.tmp 52))⟩, none, []⟩,
    ⟨22, ⟨some 54, none, .op (.mv (.tmp 1))⟩, none, []⟩,
    ⟨23, ⟨some 55, none, .op (.mv (.tmp 2))⟩, none, []⟩,
    ⟨24, ⟨some 56, none, .op (.ia 1 (.tmp 35) (.tmp 42))⟩, none, []⟩,
    ⟨25, ⟨none, none, .op (.st 1 (.tmp 56) (.tmp 54))⟩, none, []⟩,
    ⟨26, ⟨some 57, none, .op (.ia 1 (.tmp 46) (.tmp 53))⟩, none, []⟩,
    ⟨27, ⟨none, none, .op (.st 1 (.tmp 57) (.tmp 55))⟩, none, []⟩]

def c90 : Fn' := ⟨(.seq c90_0 c90_1), []⟩

theorem comp90 : compFn Try.prog 90 = some c90 := by kernel_rfl

end Go.Proofs.Ytnejnaoehcahbaa.q
