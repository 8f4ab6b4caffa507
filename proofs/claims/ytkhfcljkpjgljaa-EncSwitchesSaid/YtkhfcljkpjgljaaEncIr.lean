/-
  The code of the functions of EncSwitches, as the evaluator has it.
-/
import Derived.Test.YtkhfcljkpjgljaaAeTop
import Derived.Test.YtkhfcljkpjgljaaRows
import Derived.KernelRfl
namespace Go.Proofs.Ytkhfcljkpjgljaa
open Go Go.Ae

def c3_0 : C := .reg [⟨some 2, none, .op (.box (.tmp 0))⟩,
    ⟨some 4, none, .op (.mv (.const (.bool false)))⟩]

def c3_1 : C := .reg [⟨some 17, none, .op (.ld (some 6) (.tmp 2))⟩,
    ⟨some 18, none, .op (.mv (.tmp 1))⟩,
    ⟨some 19, none, .op (.mm false (.tmp 18) [.const (.int .i64 61)])⟩,
    ⟨some 20, none, .call 10 [.tmp 17, .tmp 19]⟩]

def c3_2 : C := .reg [⟨some 21, none, .call 11 []⟩,
    ⟨some 4, none, .op (.mv (.tmp 21))⟩]

def c3_3 : C := .reg [⟨some 23, none, .op (.ld (some 6) (.tmp 2))⟩,
    ⟨some 24, none, .op (.mv (.tmp 1))⟩,
    ⟨some 25, none, .call 12 [.tmp 23, .tmp 24]⟩,
    ⟨some 22, none, .op (.mv (.tmp 25))⟩,
    ⟨some 26, none, .op (.ext (.tmp 22) 0)⟩,
    ⟨some 27, none, .op (.ext (.tmp 22) 1)⟩,
    ⟨some 5, none, .op (.mv (.tmp 26))⟩,
    ⟨some 6, none, .op (.mv (.tmp 27))⟩]

def c3_4 : C := .reg [⟨some 29, none, .op (.ld (some 6) (.tmp 2))⟩,
    ⟨some 30, none, .op (.mv (.tmp 1))⟩,
    ⟨some 31, none, .call 13 [.tmp 29, .tmp 30]⟩,
    ⟨some 28, none, .op (.mv (.tmp 31))⟩,
    ⟨some 32, none, .op (.ext (.tmp 28) 0)⟩,
    ⟨some 33, none, .op (.ext (.tmp 28) 1)⟩,
    ⟨some 34, none, .op (.ext (.tmp 28) 2)⟩,
    ⟨some 7, none, .op (.mv (.tmp 32))⟩,
    ⟨some 8, none, .op (.mv (.tmp 33))⟩,
    ⟨some 9, none, .op (.mv (.tmp 34))⟩]

def c3_5 : C := .reg [⟨some 36, none, .op (.ld (some 6) (.tmp 2))⟩,
    ⟨some 37, none, .op (.mv (.tmp 1))⟩,
    ⟨some 38, none, .call 14 [.tmp 36, .tmp 37]⟩,
    ⟨some 35, none, .op (.mv (.tmp 38))⟩,
    ⟨some 39, none, .op (.ext (.tmp 35) 0)⟩,
    ⟨some 40, none, .op (.ext (.tmp 35) 1)⟩,
    ⟨some 10, none, .op (.mv (.tmp 39))⟩,
    ⟨some 11, none, .op (.mv (.tmp 40))⟩]

def c3_6 : C := .reg [⟨some 41, none, .op (.mv (.tmp 6))⟩,
    ⟨some 42, none, .op (.mv (.tmp 9))⟩,
    ⟨some 43, none, .op (.bin .neq (.tmp 41) (.tmp 42))⟩,
    ⟨some 44, none, .op (.mv (.tmp 43))⟩,
    ⟨some 45, (some (44, false)), .op (.mv (.tmp 6))⟩,
    ⟨some 46, (some (44, false)), .op (.mv (.tmp 11))⟩,
    ⟨some 47, (some (44, false)), .op (.bin .neq (.tmp 45) (.tmp 46))⟩,
    ⟨some 48, none, .op (.pick (.tmp 44) (.const (.bool true)) (.tmp 47))⟩,
    ⟨some 49, none, .op (.mv (.tmp 48))⟩,
    ⟨some 50, (some (49, false)), .op (.mv (.tmp 5))⟩,
    ⟨some 51, (some (49, false)), .op (.len (.tmp 50))⟩,
    ⟨some 52, (some (49, false)), .op (.mv (.tmp 7))⟩,
    ⟨some 53, (some (49, false)), .op (.len (.tmp 52))⟩,
    ⟨some 54, (some (49, false)), .op (.bin .neq (.tmp 51) (.tmp 53))⟩,
    ⟨some 55, none, .op (.pick (.tmp 49) (.const (.bool true)) (.tmp 54))⟩]

def c3_7 : C := .reg [⟨some 4, none, .op (.mv (.const (.bool false)))⟩]

def c3_8 : C := .reg [⟨some 56, none, .op (.mv (.tmp 6))⟩,
    ⟨some 57, none, .op (.bin .neq (.tmp 56) (.const (.int .i64 0)))⟩]

def c3_9 : C := .reg [⟨some 58, none, .op (.mv (.tmp 8))⟩,
    ⟨some 59, none, .op (.bin .eql (.tmp 58) (.const (.int .i64 0)))⟩,
    ⟨some 60, none, .op (.mv (.tmp 59))⟩,
    ⟨some 61, (some (60, true)), .call 11 []⟩,
    ⟨some 62, none, .op (.pick (.tmp 60) (.tmp 61) (.const (.bool false)))⟩,
    ⟨some 4, none, .op (.mv (.tmp 62))⟩]

def c3_10 : C := .reg [⟨some 63, none, .op (.fa 2 (.tmp 2))⟩,
    ⟨some 64, none, .op (.ld none (.tmp 63))⟩,
    ⟨some 65, none, .op (.len (.tmp 64))⟩,
    ⟨some 66, none, .op (.mkS [(.int .i64 0)] 8 (.tmp 65) (.tmp 65))⟩,
    ⟨some 12, none, .op (.mv (.tmp 66))⟩]

def c3_11 : C := .reg [⟨some 67, none, .op (.mv (.tmp 5))⟩,
    ⟨some 68, none, .op (.len (.tmp 67))⟩,
    ⟨some 69, none, .op (.mv (.const (.int .i64 0)))⟩]

def c3_12 : C := .reg [⟨some 70, none, .op (.bin .lss (.tmp 69) (.tmp 68))⟩]

def c3_13 : C := .reg [⟨some 71, none, .op (.mv (.tmp 69))⟩,
    ⟨some 13, none, .op (.mv (.tmp 71))⟩]

def c3_14 : C := .reg [⟨some 72, none, .op (.mv (.tmp 5))⟩,
    ⟨some 73, none, .op (.mv (.tmp 13))⟩,
    ⟨some 74, none, .op (.ia 1 (.tmp 72) (.tmp 73))⟩,
    ⟨some 75, none, .op (.ld none (.tmp 74))⟩,
    ⟨some 76, none, .op (.len (.tmp 75))⟩,
    ⟨some 14, none, .op (.mv (.tmp 76))⟩]

def c3_15 : C := .regD 0 [⟨0, ⟨some 77, none, .op (.mv (.tmp 5))⟩, none, []⟩,
    ⟨1, ⟨some 78, none, .op (.mv (.tmp 13))⟩, none, []⟩,
    ⟨2, ⟨some 79, none, .op (.ia 1 (.tmp 77) (.tmp 78))⟩, none, []⟩,
    ⟨3, ⟨some 80, none, .op (.ld none (.tmp 79))⟩, none, []⟩,
    ⟨4, ⟨some 81, none, .op (.mv (.tmp 7))⟩, none, []⟩,
    ⟨5, ⟨some 82, none, .op (.mv (.tmp 13))⟩, none, []⟩,
    ⟨6, ⟨some 83, none, .op (.ia 1 (.tmp 81) (.tmp 82))⟩, none, []⟩,
    ⟨7, ⟨some 84, none, .op (.ld none (.tmp 83))⟩, none, []⟩,
    ⟨8, ⟨some 85, none, .call 15 [.tmp 80, .tmp 84]⟩, none, []⟩]

def c3_16 : C := .regD 0 [⟨0, ⟨some 86, none, .op (.mv (.tmp 7))⟩, none, []⟩,
    ⟨1, ⟨some 87, none, .op (.mv (.tmp 13))⟩, none, []⟩,
    ⟨2, ⟨some 88, none, .op (.ia 1 (.tmp 86) (.tmp 87))⟩, none, []⟩,
    ⟨3, ⟨some 89, none, .op (.ld none (.tmp 88))⟩, none, []⟩,
    ⟨4, ⟨some 90, none, .op (.len (.tmp 89))⟩, none, []⟩,
    ⟨5, ⟨some 91, none, .op (.mv (.tmp 14))⟩, none, []⟩,
    ⟨6, ⟨some 92, none, .op (.bin .add (.tmp 91) (.const (.int .i64 1)))⟩, none, []⟩,
    ⟨7, ⟨some 93, none, .op (.bin .neq (.tmp 90) (.tmp 92))⟩, none, []⟩,
    ⟨8, ⟨some 94, none, .op (.mv (.tmp 93))⟩, none, []⟩,
    ⟨9, ⟨some 95, (some (94, false)), .op (.mv (.tmp 7))⟩, none, []⟩,
    ⟨10, ⟨some 96, (some (94, false)), .op (.mv (.tmp 13))⟩, none, []⟩,
    ⟨11, ⟨some 97, (some (94, false)), .op (.ia 1 (.tmp 95) (.tmp 96))⟩, none, []⟩,
    ⟨12, ⟨some 98, (some (94, false)), .op (.ld none (.tmp 97))⟩, none, []⟩,
    ⟨13, ⟨some 99, (some (94, false)), .op (.mv (.tmp 14))⟩, none, []⟩,
    ⟨14, ⟨some 100, (some (94, false)), .op (.slc 1 (.tmp 98) none (some (.tmp 99)) none)⟩, none, []⟩,
    ⟨15, ⟨some 101, (some (94, false)), .op (.mv (.tmp 5))⟩, none, []⟩,
    ⟨16, ⟨some 102, (some (94, false)), .op (.mv (.tmp 13))⟩, none, []⟩,
    ⟨17, ⟨some 103, (some (94, false)), .op (.ia 1 (.tmp 101) (.tmp 102))⟩, none, []⟩,
    ⟨18, ⟨some 104, (some (94, false)), .op (.ld none (.tmp 103))⟩, none, []⟩,
    ⟨19, ⟨some 105, (some (94, false)), .call 15 [.tmp 100, .tmp 104]⟩, none, []⟩,
    ⟨20, ⟨some 106, (some (94, false)), .op (.un .not (.tmp 105))⟩, none, []⟩,
    ⟨21, ⟨some 107, none, .op (.pick (.tmp 94) (.const (.bool true)) (.tmp 106))⟩, none, []⟩,
    ⟨22, ⟨some 108, none, .op (.mv (.tmp 107))⟩, none, []⟩,
    ⟨23, ⟨some 109, (some (108, false)), .op (.mv (.tmp 7))⟩, none, []⟩,
    ⟨24, ⟨some 110, (some (108, false)), .op (.mv (.tmp 13))⟩, none, []⟩,
    ⟨25, ⟨some 111, (some (108, false)), .op (.ia 1 (.tmp 109) (.tmp 110))⟩, none, []⟩,
    ⟨26, ⟨some 112, (some (108, false)), .op (.ld none (.tmp 111))⟩, none, []⟩,
    ⟨27, ⟨some 113, (some (108, false)), .op (.mv (.tmp 14))⟩, none, []⟩,
    ⟨28, ⟨some 114, (some (108, false)), .op (.ia 1 (.tmp 112) (.tmp 113))⟩, none, []⟩,
    ⟨29, ⟨some 115, (some (108, false)), .op (.ld none (.tmp 114))⟩, none, []⟩,
    ⟨30, ⟨some 116, (some (108, false)), .op (.mv (.tmp 8))⟩, none, []⟩,
    ⟨31, ⟨some 117, (some (108, false)), .op (.bin .lss (.tmp 115) (.tmp 116))⟩, none, []⟩,
    ⟨32, ⟨some 118, none, .op (.pick (.tmp 108) (.const (.bool true)) (.tmp 117))⟩, none, []⟩,
    ⟨33, ⟨some 119, none, .op (.mv (.tmp 118))⟩, none, []⟩,
    ⟨34, ⟨some 120, (some (119, false)), .op (.mv (.tmp 7))⟩, none, []⟩,
    ⟨35, ⟨some 121, (some (119, false)), .op (.mv (.tmp 13))⟩, none, []⟩,
    ⟨36, ⟨some 122, (some (119, false)), .op (.ia 1 (.tmp 120) (.tmp 121))⟩, none, []⟩,
    ⟨37, ⟨some 123, (some (119, false)), .op (.ld none (.tmp 122))⟩, none, []⟩,
    ⟨38, ⟨some 124, (some (119, false)), .op (.mv (.tmp 14))⟩, none, []⟩,
    ⟨39, ⟨some 125, (some (119, false)), .op (.ia 1 (.tmp 123) (.tmp 124))⟩, none, []⟩,
    ⟨40, ⟨some 126, (some (119, false)), .op (.ld none (.tmp 125))⟩, none, []⟩,
    ⟨41, ⟨some 127, (some (119, false)), .op (.mv (.tmp 8))⟩, none, []⟩,
    ⟨42, ⟨some 128, (some (119, false)), .op (.mv (.tmp 12))⟩, none, []⟩,
    ⟨43, ⟨some 129, (some (119, false)), .op (.len (.tmp 128))⟩, none, []⟩,
    ⟨44, ⟨some 130, (some (119, false)), .op (.bin .add (.tmp 127) (.tmp 129))⟩, none, []⟩,
    ⟨45, ⟨some 131, (some (119, false)), .op (.bin .geq (.tmp 126) (.tmp 130))⟩, none, []⟩,
    ⟨46, ⟨some 132, none, .op (.pick (.tmp 119) (.const (.bool true)) (.tmp 131))⟩, none, []⟩]

def c3_17 : C := .reg [⟨some 4, none, .op (.mv (.const (.bool false)))⟩]

def c3_18 : C := .reg [⟨some 133, none, .op (.mv (.tmp 12))⟩,
    ⟨some 134, none, .op (.mv (.tmp 7))⟩,
    ⟨some 135, none, .op (.mv (.tmp 13))⟩,
    ⟨some 136, none, .op (.ia 1 (.tmp 134) (.tmp 135))⟩,
    ⟨some 137, none, .op (.ld none (.tmp 136))⟩,
    ⟨some 138, none, .op (.mv (.tmp 14))⟩,
    ⟨some 139, none, .op (.ia 1 (.tmp 137) (.tmp 138))⟩,
    ⟨some 140, none, .op (.ld none (.tmp 139))⟩,
    ⟨some 141, none, .op (.mv (.tmp 8))⟩,
    ⟨some 142, none, .op (.bin .sub (.tmp 140) (.tmp 141))⟩,
    ⟨some 143, none, .op (.ia 1 (.tmp 133) (.tmp 142))⟩,
    ⟨some 144, none, .op (.ld none (.tmp 143))⟩,
    ⟨some 145, none, .op (.bin .add (.tmp 144) (.const (.int .i64 1)))⟩,
    ⟨some 146, none, .op (.ia 1 (.tmp 133) (.tmp 142))⟩,
    ⟨none, none, .op (.st 1 (.tmp 146) (.tmp 145))⟩]

def c3_19 : C := .reg [⟨some 147, none, .op (.bin .add (.tmp 69) (.const (.int .i64 1)))⟩,
    ⟨some 69, none, .op (.mv (.tmp 147))⟩]

def c3_20 : C := .reg [⟨some 148, none, .op (.mv (.tmp 12))⟩,
    ⟨some 149, none, .op (.len (.tmp 148))⟩,
    ⟨some 150, none, .op (.mv (.const (.int .i64 0)))⟩]

def c3_21 : C := .reg [⟨some 151, none, .op (.bin .lss (.tmp 150) (.tmp 149))⟩]

def c3_22 : C := .reg [⟨some 152, none, .op (.ia 1 (.tmp 148) (.tmp 150))⟩,
    ⟨some 153, none, .op (.ld none (.tmp 152))⟩,
    ⟨some 16, none, .op (.mv (.tmp 153))⟩]

def c3_23 : C := .reg [⟨some 154, none, .op (.mv (.tmp 16))⟩,
    ⟨some 155, none, .op (.mv (.tmp 1))⟩,
    ⟨some 156, none, .op (.bin .mul (.const (.int .i64 3)) (.tmp 155))⟩,
    ⟨some 157, none, .op (.bin .neq (.tmp 154) (.tmp 156))⟩]

def c3_24 : C := .reg [⟨some 4, none, .op (.mv (.const (.bool false)))⟩]

def c3_25 : C := .reg [⟨some 158, none, .op (.bin .add (.tmp 150) (.const (.int .i64 1)))⟩,
    ⟨some 150, none, .op (.mv (.tmp 158))⟩]

def c3_26 : C := .reg [⟨some 159, none, .op (.mv (.tmp 8))⟩,
    ⟨some 160, none, .op (.mv (.tmp 10))⟩,
    ⟨some 161, none, .op (.bin .add (.tmp 160) (.const (.int .i64 1)))⟩,
    ⟨some 162, none, .op (.bin .eql (.tmp 159) (.tmp 161))⟩,
    ⟨some 163, none, .op (.mv (.tmp 162))⟩,
    ⟨some 164, (some (163, true)), .call 11 []⟩,
    ⟨some 165, none, .op (.pick (.tmp 163) (.tmp 164) (.const (.bool false)))⟩,
    ⟨some 4, none, .op (.mv (.tmp 165))⟩]

def c3 : Fn' := ⟨(.seq c3_0 (.seq (.seq c3_1 (.cond (.tmp 20) (.seq c3_2 .ret) .skip)) (.seq c3_3 (.seq c3_4 (.seq c3_5 (.seq (.seq c3_6 (.cond (.tmp 55) (.seq c3_7 .ret) .skip)) (.seq (.seq c3_8 (.cond (.tmp 57) (.seq c3_9 .ret) .skip)) (.seq c3_10 (.seq (.seq c3_11 (.block 0 (.loop (.seq c3_12 (.seq (.cond (.tmp 70) .skip (.exit 0)) (.seq (.block 1 (.seq c3_13 (.seq c3_14 (.seq (.seq c3_15 (.cond (.tmp 85) (.exit 1) .skip)) (.seq (.seq c3_16 (.cond (.tmp 132) (.seq c3_17 .ret) .skip)) c3_18))))) c3_19)))))) (.seq (.seq c3_20 (.block 2 (.loop (.seq c3_21 (.seq (.cond (.tmp 151) .skip (.exit 2)) (.seq (.block 3 (.seq c3_22 (.seq c3_23 (.cond (.tmp 157) (.seq c3_24 .ret) .skip)))) c3_25)))))) (.seq c3_26 .ret))))))))))), [.tmp 4]⟩

theorem comp3 : compFn Try.prog 3 = some c3 := by kernel_rfl

def c10_0 : C := .reg [⟨some 2, none, .op (.box (.tmp 0))⟩,
    ⟨some 4, none, .op (.mv (.const (.bool false)))⟩]

def c10_1 : C := .reg [⟨some 5, none, .op (.fa 0 (.tmp 2))⟩,
    ⟨some 6, none, .op (.ld none (.tmp 5))⟩,
    ⟨some 7, none, .op (.bin .gtr (.tmp 6) (.const (.int .i64 200)))⟩,
    ⟨some 8, none, .op (.mv (.tmp 7))⟩,
    ⟨some 9, (some (8, false)), .op (.fa 1 (.tmp 2))⟩,
    ⟨some 10, (some (8, false)), .op (.ld none (.tmp 9))⟩,
    ⟨some 11, (some (8, false)), .op (.len (.tmp 10))⟩,
    ⟨some 12, (some (8, false)), .op (.bin .gtr (.tmp 11) (.const (.int .i64 200)))⟩,
    ⟨some 13, none, .op (.pick (.tmp 8) (.const (.bool true)) (.tmp 12))⟩,
    ⟨some 14, none, .op (.mv (.tmp 13))⟩,
    ⟨some 15, (some (14, false)), .op (.fa 2 (.tmp 2))⟩,
    ⟨some 16, (some (14, false)), .op (.ld none (.tmp 15))⟩,
    ⟨some 17, (some (14, false)), .op (.len (.tmp 16))⟩,
    ⟨some 18, (some (14, false)), .op (.bin .gtr (.tmp 17) (.const (.int .i64 200)))⟩,
    ⟨some 19, none, .op (.pick (.tmp 14) (.const (.bool true)) (.tmp 18))⟩,
    ⟨some 20, none, .op (.mv (.tmp 19))⟩,
    ⟨some 21, (some (20, false)), .op (.fa 5 (.tmp 2))⟩,
    ⟨some 22, (some (20, false)), .op (.ld none (.tmp 21))⟩,
    ⟨some 23, (some (20, false)), .op (.len (.tmp 22))⟩,
    ⟨some 24, (some (20, false)), .op (.bin .gtr (.tmp 23) (.const (.int .i64 200)))⟩,
    ⟨some 25, none, .op (.pick (.tmp 20) (.const (.bool true)) (.tmp 24))⟩,
    ⟨some 26, none, .op (.mv (.tmp 25))⟩,
    ⟨some 27, (some (26, false)), .op (.mv (.tmp 1))⟩,
    ⟨some 28, (some (26, false)), .op (.bin .gtr (.tmp 27) (.const (.int .i64 60)))⟩,
    ⟨some 29, none, .op (.pick (.tmp 26) (.const (.bool true)) (.tmp 28))⟩,
    ⟨some 4, none, .op (.mv (.tmp 29))⟩]

def c10 : Fn' := ⟨(.seq c10_0 (.seq c10_1 .ret)), [.tmp 4]⟩

theorem comp10 : compFn Try.prog 10 = some c10 := by kernel_rfl

def c12_0 : C := .reg [⟨some 2, none, .op (.box (.tmp 0))⟩,
    ⟨some 4, none, .op (.mv (.const (.slice none 0 0)))⟩,
    ⟨some 5, none, .op (.mv (.const (.int .i64 0)))⟩]

def c12_1 : C := .reg [⟨some 6, none, .op (.ld (some 6) (.tmp 2))⟩,
    ⟨some 7, none, .op (.mv (.tmp 1))⟩,
    ⟨some 8, none, .call 54 [.tmp 6, .tmp 7, .func 55]⟩,
    ⟨some 9, none, .op (.ext (.tmp 8) 0)⟩,
    ⟨some 10, none, .op (.ext (.tmp 8) 1)⟩,
    ⟨some 4, none, .op (.mv (.tmp 9))⟩,
    ⟨some 5, none, .op (.mv (.tmp 10))⟩]

def c12 : Fn' := ⟨(.seq c12_0 (.seq c12_1 .ret)), [.tmp 4, .tmp 5]⟩

theorem comp12 : compFn Try.prog 12 = some c12 := by kernel_rfl

def c13_0 : C := .reg [⟨some 2, none, .op (.box (.tmp 0))⟩,
    ⟨some 4, none, .op (.mv (.const (.slice none 0 0)))⟩,
    ⟨some 5, none, .op (.new [(.int .i64 0)])⟩,
    ⟨some 6, none, .op (.mv (.const (.int .i64 0)))⟩]

def c13_1 : C := .reg [⟨some 9, none, .op (.ld (some 6) (.tmp 2))⟩,
    ⟨some 10, none, .op (.mv (.tmp 1))⟩,
    ⟨some 11, none, .call 14 [.tmp 9, .tmp 10]⟩,
    ⟨some 8, none, .op (.mv (.tmp 11))⟩,
    ⟨some 12, none, .op (.ext (.tmp 8) 0)⟩,
    ⟨some 13, none, .op (.ext (.tmp 8) 1)⟩,
    ⟨some 7, none, .op (.mv (.tmp 12))⟩,
    ⟨some 6, none, .op (.mv (.tmp 13))⟩]

def c13_2 : C := .reg [⟨some 14, none, .op (.mv (.tmp 6))⟩,
    ⟨some 15, none, .op (.bin .neq (.tmp 14) (.const (.int .i64 0)))⟩]

def c13_3 : C := .reg [⟨some 16, none, .op (.mv (.tmp 6))⟩,
    ⟨some 4, none, .op (.mv (.const (.slice none 0 0)))⟩,
    ⟨none, none, .op (.st 1 (.tmp 5) (.const (.int .i64 0)))⟩,
    ⟨some 6, none, .op (.mv (.tmp 16))⟩]

def c13_4 : C := .reg [⟨some 17, none, .op (.mv (.tmp 7))⟩,
    ⟨some 18, none, .op (.bin .add (.tmp 17) (.const (.int .i64 1)))⟩,
    ⟨none, none, .op (.st 1 (.tmp 5) (.tmp 18))⟩]

def c13_5 : C := .reg [⟨some 20, none, .op (.ld (some 6) (.tmp 2))⟩,
    ⟨some 21, none, .op (.mv (.tmp 1))⟩,
    ⟨some 22, none, .op (.fn 56 [] [.tmp 5])⟩,
    ⟨some 23, none, .call 54 [.tmp 20, .tmp 21, .tmp 22]⟩,
    ⟨some 19, none, .op (.mv (.tmp 23))⟩,
    ⟨some 24, none, .op (.ext (.tmp 19) 0)⟩,
    ⟨some 25, none, .op (.ext (.tmp 19) 1)⟩,
    ⟨some 4, none, .op (.mv (.tmp 24))⟩,
    ⟨some 6, none, .op (.mv (.tmp 25))⟩]

def c13_6 : C := .reg [⟨some 26, none, .op (.mv (.tmp 6))⟩,
    ⟨some 27, none, .op (.bin .neq (.tmp 26) (.const (.int .i64 0)))⟩]

def c13_7 : C := .reg [⟨some 28, none, .op (.mv (.tmp 6))⟩,
    ⟨some 4, none, .op (.mv (.const (.slice none 0 0)))⟩,
    ⟨none, none, .op (.st 1 (.tmp 5) (.const (.int .i64 0)))⟩,
    ⟨some 6, none, .op (.mv (.tmp 28))⟩]

def c13_8 : C := .regD 0 [⟨0, ⟨some 29, none, .op (.mv (.tmp 4))⟩, none, []⟩,
    ⟨1, ⟨some 30, none, .op (.ld none (.tmp 5))⟩, none, []⟩,
    ⟨2, ⟨some 4, none, .op (.mv (.tmp 29))⟩, none, []⟩,
    ⟨3, ⟨none, none, .op (.st 1 (.tmp 5) (.tmp 30))⟩, none, []⟩,
    ⟨4, ⟨some 6, none, .op (.mv (.const (.int .i64 0)))⟩, none, []⟩]

def c13 : Fn' := ⟨(.seq c13_0 (.seq c13_1 (.seq (.seq c13_2 (.cond (.tmp 15) (.seq c13_3 .ret) .skip)) (.seq c13_4 (.seq (.seq c13_5 (.seq c13_6 (.cond (.tmp 27) (.seq c13_7 .ret) .skip))) (.seq c13_8 .ret)))))), [.tmp 4, .cell 5 none, .tmp 6]⟩

theorem comp13 : compFn Try.prog 13 = some c13 := by kernel_rfl

def c14_0 : C := .reg [⟨some 2, none, .op (.box (.tmp 0))⟩,
    ⟨some 4, none, .op (.mv (.const (.int .i64 0)))⟩,
    ⟨some 5, none, .op (.mv (.const (.int .i64 0)))⟩]

def c14_1 : C := .reg [⟨some 6, none, .op (.ld (some 6) (.tmp 2))⟩,
    ⟨some 7, none, .op (.mv (.tmp 1))⟩,
    ⟨some 8, none, .call 57 [.tmp 6, .tmp 7]⟩,
    ⟨some 9, none, .op (.un .not (.tmp 8))⟩]

def c14_2 : C := .reg [⟨some 4, none, .op (.mv (.const (.int .i64 0)))⟩,
    ⟨some 5, none, .op (.mv (.const (.int .i64 2)))⟩]

def c14_3 : C := .reg [⟨some 10, none, .op (.mv (.tmp 1))⟩,
    ⟨some 11, none, .op (.ld (some 6) (.tmp 2))⟩,
    ⟨some 12, none, .call 49 [.tmp 11]⟩,
    ⟨some 13, none, .op (.bin .mul (.tmp 10) (.tmp 12))⟩,
    ⟨some 14, none, .op (.bin .add (.const (.int .i64 1)) (.tmp 13))⟩,
    ⟨some 4, none, .op (.mv (.tmp 14))⟩,
    ⟨some 5, none, .op (.mv (.const (.int .i64 0)))⟩]

def c14 : Fn' := ⟨(.seq c14_0 (.seq (.seq c14_1 (.cond (.tmp 9) (.seq c14_2 .ret) .skip)) (.seq c14_3 .ret))), [.tmp 4, .tmp 5]⟩

theorem comp14 : compFn Try.prog 14 = some c14 := by kernel_rfl

def c15_0 : C := .reg [⟨some 4, none, .op (.mv (.const (.bool false)))⟩]

def c15_1 : C := .reg [⟨some 7, none, .op (.mv (.tmp 0))⟩,
    ⟨some 8, none, .op (.len (.tmp 7))⟩,
    ⟨some 9, none, .op (.mv (.const (.int .i64 0)))⟩]

def c15_2 : C := .reg [⟨some 10, none, .op (.bin .lss (.tmp 9) (.tmp 8))⟩]

def c15_3 : C := .reg [⟨some 11, none, .op (.mv (.tmp 9))⟩,
    ⟨some 12, none, .op (.ia 1 (.tmp 7) (.tmp 9))⟩,
    ⟨some 13, none, .op (.ld none (.tmp 12))⟩,
    ⟨some 5, none, .op (.mv (.tmp 11))⟩,
    ⟨some 6, none, .op (.mv (.tmp 13))⟩]

def c15_4 : C := .reg [⟨some 14, none, .op (.mv (.tmp 5))⟩,
    ⟨some 15, none, .op (.mv (.tmp 1))⟩,
    ⟨some 16, none, .op (.len (.tmp 15))⟩,
    ⟨some 17, none, .op (.bin .geq (.tmp 14) (.tmp 16))⟩,
    ⟨some 18, none, .op (.mv (.tmp 17))⟩,
    ⟨some 19, (some (18, false)), .op (.mv (.tmp 1))⟩,
    ⟨some 20, (some (18, false)), .op (.mv (.tmp 5))⟩,
    ⟨some 21, (some (18, false)), .op (.ia 1 (.tmp 19) (.tmp 20))⟩,
    ⟨some 22, (some (18, false)), .op (.ld none (.tmp 21))⟩,
    ⟨some 23, (some (18, false)), .op (.mv (.tmp 6))⟩,
    ⟨some 24, (some (18, false)), .op (.bin .neq (.tmp 22) (.tmp 23))⟩,
    ⟨some 25, none, .op (.pick (.tmp 18) (.const (.bool true)) (.tmp 24))⟩]

def c15_5 : C := .reg [⟨some 4, none, .op (.mv (.const (.bool false)))⟩]

def c15_6 : C := .reg [⟨some 26, none, .op (.bin .add (.tmp 9) (.const (.int .i64 1)))⟩,
    ⟨some 9, none, .op (.mv (.tmp 26))⟩]

def c15_7 : C := .reg [⟨some 27, none, .op (.mv (.tmp 0))⟩,
    ⟨some 28, none, .op (.len (.tmp 27))⟩,
    ⟨some 29, none, .op (.mv (.tmp 1))⟩,
    ⟨some 30, none, .op (.len (.tmp 29))⟩,
    ⟨some 31, none, .op (.bin .eql (.tmp 28) (.tmp 30))⟩,
    ⟨some 4, none, .op (.mv (.tmp 31))⟩]

def c15 : Fn' := ⟨(.seq c15_0 (.seq (.seq c15_1 (.block 0 (.loop (.seq c15_2 (.seq (.cond (.tmp 10) .skip (.exit 0)) (.seq (.block 1 (.seq c15_3 (.seq c15_4 (.cond (.tmp 25) (.seq c15_5 .ret) .skip)))) c15_6)))))) (.seq c15_7 .ret))), [.tmp 4]⟩

theorem comp15 : compFn Try.prog 15 = some c15 := by kernel_rfl

def c42_0 : C := .reg [⟨some 1, none, .op (.box (.tmp 0))⟩,
    ⟨some 2, none, .op (.mv (.const (.bool false)))⟩]

def c42_1 : C := .reg [⟨some 11, none, .op (.fa 0 (.tmp 1))⟩,
    ⟨some 12, none, .op (.ld none (.tmp 11))⟩,
    ⟨some 13, none, .op (.bin .lss (.tmp 12) (.const (.int .i64 0)))⟩,
    ⟨some 14, none, .op (.mv (.tmp 13))⟩,
    ⟨some 15, (some (14, false)), .op (.fa 0 (.tmp 1))⟩,
    ⟨some 16, (some (14, false)), .op (.ld none (.tmp 15))⟩,
    ⟨some 17, (some (14, false)), .op (.bin .gtr (.tmp 16) (.const (.int .i64 16384)))⟩,
    ⟨some 18, none, .op (.pick (.tmp 14) (.const (.bool true)) (.tmp 17))⟩,
    ⟨some 19, none, .op (.mv (.tmp 18))⟩,
    ⟨some 20, (some (19, false)), .op (.ld (some 6) (.tmp 1))⟩,
    ⟨some 21, (some (19, false)), .call 93 [.tmp 20]⟩,
    ⟨some 22, (some (19, false)), .op (.bin .gtr (.tmp 21) (.const (.int .i64 16384)))⟩,
    ⟨some 23, none, .op (.pick (.tmp 19) (.const (.bool true)) (.tmp 22))⟩]

def c42_2 : C := .reg [⟨some 2, none, .op (.mv (.const (.bool false)))⟩]

def c42_3 : C := .reg [⟨some 24, none, .op (.fn 94 [] [.tmp 1])⟩,
    ⟨some 3, none, .op (.mv (.tmp 24))⟩]

def c42_4 : C := .reg [⟨some 25, none, .op (.fa 3 (.tmp 1))⟩,
    ⟨some 26, none, .op (.ld none (.tmp 25))⟩,
    ⟨some 27, none, .op (.fa 4 (.tmp 1))⟩,
    ⟨some 28, none, .op (.ld none (.tmp 27))⟩,
    ⟨some 29, none, .op (.fa 5 (.tmp 1))⟩,
    ⟨some 30, none, .op (.ld none (.tmp 29))⟩,
    ⟨some 31, none, .op (.mkSl (reps 3 [(.slice none 0 0)]) 3 [(0, 1, .tmp 26), (1, 1, .tmp 28), (2, 1, .tmp 30)])⟩,
    ⟨some 32, none, .op (.len (.tmp 31))⟩,
    ⟨some 33, none, .op (.mv (.const (.int .i64 0)))⟩]

def c42_5 : C := .reg [⟨some 34, none, .op (.bin .lss (.tmp 33) (.tmp 32))⟩]

def c42_6 : C := .reg [⟨some 35, none, .op (.ia 1 (.tmp 31) (.tmp 33))⟩,
    ⟨some 36, none, .op (.ld none (.tmp 35))⟩,
    ⟨some 5, none, .op (.mv (.tmp 36))⟩]

def c42_7 : C := .reg [⟨some 37, none, .op (.mv (.tmp 5))⟩,
    ⟨some 38, none, .op (.len (.tmp 37))⟩,
    ⟨some 39, none, .op (.bin .gtr (.tmp 38) (.const (.int .i64 1024)))⟩,
    ⟨some 40, none, .op (.mv (.tmp 39))⟩,
    ⟨some 41, (some (40, false)), .op (.mv (.tmp 5))⟩,
    ⟨some 42, (some (40, false)), .op (.mv (.tmp 3))⟩,
    ⟨some 43, (some (40, false)), .call 95 [.tmp 41, .tmp 42]⟩,
    ⟨some 44, none, .op (.pick (.tmp 40) (.const (.bool true)) (.tmp 43))⟩]

def c42_8 : C := .reg [⟨some 2, none, .op (.mv (.const (.bool false)))⟩]

def c42_9 : C := .reg [⟨some 45, none, .op (.bin .add (.tmp 33) (.const (.int .i64 1)))⟩,
    ⟨some 33, none, .op (.mv (.tmp 45))⟩]

def c42_10 : C := .reg [⟨some 46, none, .op (.fa 1 (.tmp 1))⟩,
    ⟨some 47, none, .op (.ld none (.tmp 46))⟩,
    ⟨some 48, none, .op (.len (.tmp 47))⟩,
    ⟨some 49, none, .op (.mv (.const (.int .i64 0)))⟩]

def c42_11 : C := .reg [⟨some 50, none, .op (.bin .lss (.tmp 49) (.tmp 48))⟩]

def c42_12 : C := .reg [⟨some 51, none, .op (.ia 2 (.tmp 47) (.tmp 49))⟩,
    ⟨some 52, none, .op (.ld (some 2) (.tmp 51))⟩,
    ⟨some 7, none, .op (.new [(.int .u32 0), (.int .u8 0)])⟩,
    ⟨none, none, .op (.st 2 (.tmp 7) (.tmp 52))⟩]

def c42_13 : C := .reg [⟨some 53, none, .op (.fa 1 (.tmp 7))⟩,
    ⟨some 54, none, .op (.ld none (.tmp 53))⟩,
    ⟨some 55, none, .op (.bin .gtr (.tmp 54) (.const (.int .u8 2)))⟩,
    ⟨some 56, none, .op (.mv (.tmp 55))⟩,
    ⟨some 57, (some (56, false)), .op (.mv (.tmp 3))⟩,
    ⟨some 58, (some (56, false)), .op (.fa 0 (.tmp 7))⟩,
    ⟨some 59, (some (56, false)), .op (.ld none (.tmp 58))⟩,
    ⟨some 60, (some (56, false)), .callv (.tmp 57) [.tmp 59]⟩,
    ⟨some 61, none, .op (.pick (.tmp 56) (.const (.bool true)) (.tmp 60))⟩]

def c42_14 : C := .reg [⟨some 2, none, .op (.mv (.const (.bool false)))⟩]

def c42_15 : C := .reg [⟨some 62, none, .op (.bin .add (.tmp 49) (.const (.int .i64 1)))⟩,
    ⟨some 49, none, .op (.mv (.tmp 62))⟩]

def c42_16 : C := .reg [⟨some 63, none, .op (.fa 0 (.tmp 1))⟩,
    ⟨some 64, none, .op (.ld none (.tmp 63))⟩,
    ⟨some 65, none, .op (.fa 1 (.tmp 1))⟩,
    ⟨some 66, none, .op (.ld none (.tmp 65))⟩,
    ⟨some 67, none, .op (.len (.tmp 66))⟩,
    ⟨some 68, none, .op (.bin .add (.tmp 64) (.tmp 67))⟩,
    ⟨some 69, none, .op (.conv .u32 (.tmp 68))⟩,
    ⟨some 8, none, .op (.mv (.tmp 69))⟩]

def c42_17 : C := .reg [⟨some 70, none, .op (.fa 2 (.tmp 1))⟩,
    ⟨some 71, none, .op (.ld none (.tmp 70))⟩,
    ⟨some 72, none, .op (.len (.tmp 71))⟩,
    ⟨some 73, none, .op (.mv (.const (.int .i64 0)))⟩]

def c42_18 : C := .reg [⟨some 74, none, .op (.bin .lss (.tmp 73) (.tmp 72))⟩]

def c42_19 : C := .reg [⟨some 75, none, .op (.ia 2 (.tmp 71) (.tmp 73))⟩,
    ⟨some 76, none, .op (.ld (some 2) (.tmp 75))⟩,
    ⟨some 10, none, .op (.new [(.int .u32 0), (.int .u32 0)])⟩,
    ⟨none, none, .op (.st 2 (.tmp 10) (.tmp 76))⟩]

def c42_20 : C := .reg [⟨some 77, none, .op (.mv (.tmp 8))⟩,
    ⟨some 78, none, .op (.bin .add (.tmp 77) (.const (.int .u32 1)))⟩,
    ⟨some 8, none, .op (.mv (.tmp 78))⟩]

def c42_21 : C := .reg [⟨some 79, none, .op (.fa 0 (.tmp 10))⟩,
    ⟨some 80, none, .op (.ld none (.tmp 79))⟩,
    ⟨some 81, none, .op (.bin .shr (.tmp 80) (.const (.int .u64 1)))⟩,
    ⟨some 82, none, .op (.mv (.tmp 8))⟩,
    ⟨some 83, none, .op (.bin .geq (.tmp 81) (.tmp 82))⟩,
    ⟨some 84, none, .op (.mv (.tmp 83))⟩,
    ⟨some 85, (some (84, false)), .op (.fa 0 (.tmp 10))⟩,
    ⟨some 86, (some (84, false)), .op (.ld none (.tmp 85))⟩,
    ⟨some 87, (some (84, false)), .op (.fa 1 (.tmp 10))⟩,
    ⟨some 88, (some (84, false)), .op (.ld none (.tmp 87))⟩,
    ⟨some 89, (some (84, false)), .op (.bin .lss (.tmp 86) (.tmp 88))⟩,
    ⟨some 90, none, .op (.pick (.tmp 84) (.const (.bool true)) (.tmp 89))⟩]

def c42_22 : C := .reg [⟨some 2, none, .op (.mv (.const (.bool false)))⟩]

def c42_23 : C := .reg [⟨some 91, none, .op (.bin .add (.tmp 73) (.const (.int .i64 1)))⟩,
    ⟨some 73, none, .op (.mv (.tmp 91))⟩]

def c42_24 : C := .reg [⟨some 2, none, .op (.mv (.const (.bool true)))⟩]

def c42 : Fn' := ⟨(.seq c42_0 (.seq (.seq c42_1 (.cond (.tmp 23) (.seq c42_2 .ret) .skip)) (.seq c42_3 (.seq (.seq c42_4 (.block 0 (.loop (.seq c42_5 (.seq (.cond (.tmp 34) .skip (.exit 0)) (.seq (.block 1 (.seq c42_6 (.seq c42_7 (.cond (.tmp 44) (.seq c42_8 .ret) .skip)))) c42_9)))))) (.seq (.seq c42_10 (.block 2 (.loop (.seq c42_11 (.seq (.cond (.tmp 50) .skip (.exit 2)) (.seq (.block 3 (.seq c42_12 (.seq c42_13 (.cond (.tmp 61) (.seq c42_14 .ret) .skip)))) c42_15)))))) (.seq c42_16 (.seq (.seq c42_17 (.block 4 (.loop (.seq c42_18 (.seq (.cond (.tmp 74) .skip (.exit 4)) (.seq (.block 5 (.seq c42_19 (.seq c42_20 (.seq c42_21 (.cond (.tmp 90) (.seq c42_22 .ret) .skip))))) c42_23)))))) (.seq c42_24 .ret)))))))), [.tmp 2]⟩

theorem comp42 : compFn Try.prog 42 = some c42 := by kernel_rfl

def c49_0 : C := .reg [⟨some 1, none, .op (.box (.tmp 0))⟩,
    ⟨some 2, none, .op (.mv (.const (.int .i64 0)))⟩]

def c49_1 : C := .reg [⟨some 3, none, .op (.ld (some 6) (.tmp 1))⟩,
    ⟨some 4, none, .call 42 [.tmp 3]⟩,
    ⟨some 5, none, .op (.un .not (.tmp 4))⟩]

def c49_2 : C := .reg [⟨some 2, none, .op (.mv (.const (.int .i64 0)))⟩]

def c49_3 : C := .reg [⟨some 6, none, .op (.ld (some 6) (.tmp 1))⟩,
    ⟨some 7, none, .call 93 [.tmp 6]⟩,
    ⟨some 2, none, .op (.mv (.tmp 7))⟩]

def c49 : Fn' := ⟨(.seq c49_0 (.seq (.seq c49_1 (.cond (.tmp 5) (.seq c49_2 .ret) .skip)) (.seq c49_3 .ret))), [.tmp 2]⟩

theorem comp49 : compFn Try.prog 49 = some c49 := by kernel_rfl

def c54_0 : C := .reg [⟨some 3, none, .op (.box (.tmp 0))⟩,
    ⟨some 5, none, .op (.box (.tmp 2))⟩,
    ⟨some 6, none, .op (.mv (.const (.slice none 0 0)))⟩,
    ⟨some 7, none, .op (.mv (.const (.int .i64 0)))⟩]

def c54_1 : C := .reg [⟨some 12, none, .op (.ld (some 6) (.tmp 3))⟩,
    ⟨some 13, none, .call 69 [.tmp 12]⟩,
    ⟨some 8, none, .op (.new [(.int .i64 0), (.slice none 0 0), (.slice none 0 0), (.slice none 0 0), (.slice none 0 0), (.slice none 0 0), (.int .i64 0)])⟩,
    ⟨none, none, .op (.st 7 (.tmp 8) (.tmp 13))⟩]

def c54_2 : C := .reg [⟨some 14, none, .op (.ld (some 7) (.tmp 8))⟩,
    ⟨some 15, none, .op (.mv (.tmp 1))⟩,
    ⟨some 16, none, .call 73 [.tmp 14, .tmp 15]⟩,
    ⟨some 9, none, .op (.mv (.tmp 16))⟩]

def c54_3 : C := .reg [⟨some 17, none, .op (.mv (.tmp 9))⟩,
    ⟨some 18, none, .op (.bin .neq (.tmp 17) (.const (.int .i64 0)))⟩]

def c54_4 : C := .reg [⟨some 19, none, .op (.mv (.tmp 9))⟩,
    ⟨some 6, none, .op (.mv (.const (.slice none 0 0)))⟩,
    ⟨some 7, none, .op (.mv (.tmp 19))⟩]

def c54_5 : C := .reg [⟨some 20, none, .op (.mkSl (reps 1 [(.int .i64 0)]) 1 [(0, 1, .const (.int .i64 1))])⟩,
    ⟨some 21, none, .op (.mkSl (reps 1 [(.slice none 0 0)]) 1 [(0, 1, .tmp 20)])⟩,
    ⟨some 10, none, .op (.new [(.slice none 0 0)])⟩,
    ⟨none, none, .op (.st 1 (.tmp 10) (.tmp 21))⟩]

def c54_6 : C := .reg [⟨some 22, none, .op (.mv (.tmp 1))⟩,
    ⟨some 23, none, .op (.mv (.const (.int .i64 0)))⟩]

def c54_7 : C := .reg [⟨some 24, none, .op (.bin .lss (.tmp 23) (.tmp 22))⟩]

def c54_8 : C := .reg [⟨some 25, none, .op (.mv (.tmp 23))⟩,
    ⟨some 11, none, .op (.mv (.tmp 25))⟩]

def c54_9 : C := .reg [⟨some 26, none, .op (.ld (some 7) (.tmp 8))⟩,
    ⟨some 27, none, .op (.mv (.tmp 11))⟩,
    ⟨some 28, none, .op (.fn 110 [] [.tmp 10])⟩,
    ⟨some 29, none, .call 109 [.tmp 26, .tmp 27, .tmp 28]⟩]

def c54_10 : C := .reg [⟨some 30, none, .op (.ld (some 7) (.tmp 8))⟩,
    ⟨some 31, none, .op (.mv (.tmp 11))⟩,
    ⟨some 32, none, .op (.fn 112 [] [.tmp 10, .tmp 5])⟩,
    ⟨some 33, none, .call 111 [.tmp 30, .tmp 31, .tmp 32]⟩]

def c54_11 : C := .reg [⟨some 34, none, .op (.bin .add (.tmp 23) (.const (.int .i64 1)))⟩,
    ⟨some 23, none, .op (.mv (.tmp 34))⟩]

def c54_12 : C := .reg [⟨some 35, none, .op (.ld none (.tmp 10))⟩,
    ⟨some 6, none, .op (.mv (.tmp 35))⟩,
    ⟨some 7, none, .op (.mv (.const (.int .i64 0)))⟩]

def c54 : Fn' := ⟨(.seq c54_0 (.seq c54_1 (.seq (.seq c54_2 (.seq c54_3 (.cond (.tmp 18) (.seq c54_4 .ret) .skip))) (.seq c54_5 (.seq (.seq c54_6 (.block 0 (.loop (.seq c54_7 (.seq (.cond (.tmp 24) .skip (.exit 0)) (.seq (.block 1 (.seq c54_8 (.seq c54_9 c54_10))) c54_11)))))) (.seq c54_12 .ret)))))), [.tmp 6, .tmp 7]⟩

theorem comp54 : compFn Try.prog 54 = some c54 := by kernel_rfl

def c55_0 : C := .reg [⟨some 2, none, .op (.mv (.const (.slice none 0 0)))⟩]

def c55_1 : C := .reg [⟨some 2, none, .op (.mv (.const (.slice none 0 0)))⟩]

def c55 : Fn' := ⟨(.seq c55_0 (.seq c55_1 .ret)), [.tmp 2]⟩

theorem comp55 : compFn Try.prog 55 = some c55 := by kernel_rfl

def c56_0 : C := .reg [⟨some 3, none, .op (.mv (.const (.slice none 0 0)))⟩]

def c56_1 : C := .reg [⟨some 4, none, .op (.ld none (.tmp 1))⟩,
    ⟨some 5, none, .op (.mv (.tmp 0))⟩,
    ⟨some 6, none, .op (.bin .add (.tmp 4) (.tmp 5))⟩,
    ⟨some 7, none, .op (.mkSl (reps 1 [(.int .i64 0)]) 1 [(0, 1, .tmp 6)])⟩,
    ⟨some 3, none, .op (.mv (.tmp 7))⟩]

def c56 : Fn' := ⟨(.seq c56_0 (.seq c56_1 .ret)), [.tmp 3]⟩

theorem comp56 : compFn Try.prog 56 = some c56 := by kernel_rfl

def c57_0 : C := .reg [⟨some 2, none, .op (.box (.tmp 0))⟩,
    ⟨some 4, none, .op (.mv (.const (.bool false)))⟩]

def c57_1 : C := .reg [⟨some 5, none, .op (.ld (some 6) (.tmp 2))⟩,
    ⟨some 6, none, .call 42 [.tmp 5]⟩,
    ⟨some 7, none, .op (.mv (.tmp 6))⟩,
    ⟨some 8, (some (7, true)), .op (.mv (.tmp 1))⟩,
    ⟨some 9, (some (7, true)), .op (.bin .gtr (.tmp 8) (.const (.int .i64 0)))⟩,
    ⟨some 10, none, .op (.pick (.tmp 7) (.tmp 9) (.const (.bool false)))⟩,
    ⟨some 11, none, .op (.mv (.tmp 10))⟩,
    ⟨some 12, (some (11, true)), .op (.mv (.tmp 1))⟩,
    ⟨some 13, (some (11, true)), .op (.bin .leq (.tmp 12) (.const (.int .i64 256)))⟩,
    ⟨some 14, none, .op (.pick (.tmp 11) (.tmp 13) (.const (.bool false)))⟩,
    ⟨some 4, none, .op (.mv (.tmp 14))⟩]

def c57 : Fn' := ⟨(.seq c57_0 (.seq c57_1 .ret)), [.tmp 4]⟩

theorem comp57 : compFn Try.prog 57 = some c57 := by kernel_rfl

def c69_0 : C := .reg [⟨some 1, none, .op (.box (.tmp 0))⟩,
    ⟨some 2, none, .op (.new [(.int .i64 0), (.slice none 0 0), (.slice none 0 0), (.slice none 0 0), (.slice none 0 0), (.slice none 0 0), (.int .i64 0)])⟩]

def c69_1 : C := .regD 0 [⟨0, ⟨some 3, none, .op (.ld (some 6) (.tmp 1))⟩, none, []⟩,
    ⟨1, ⟨some 4, none, .op (.ld (some 6) (.tmp 1))⟩, none, []⟩,
    ⟨2, ⟨some 5, none, .call 49 [.tmp 4]⟩, none, [(some 6, .tmp 1, 3, none)]⟩,
    ⟨3, ⟨some 6, none, .op (.mk [(.int .i64 0), (.slice none 0 0), (.slice none 0 0), (.slice none 0 0), (.slice none 0 0), (.slice none 0 0), (.int .i64 0)] [(0, 6, .tmp 3), (6, 1, .tmp 5)])⟩, none, []⟩,
    ⟨4, ⟨none, none, .op (.st 7 (.tmp 2) (.tmp 6))⟩, none, []⟩]

def c69 : Fn' := ⟨(.seq c69_0 (.seq c69_1 .ret)), [.cell 2 (some 7)]⟩

theorem comp69 : compFn Try.prog 69 = some c69 := by kernel_rfl

def c70_0 : C := .reg [⟨some 3, none, .op (.box (.tmp 0))⟩,
    ⟨some 6, none, .op (.mv (.const (.int .i64 0)))⟩]

def c70_1 : C := .reg [⟨some 7, none, .op (.mv (.const (.int .i64 (-1))))⟩]

def c70_2 : C := .reg [⟨some 9, none, .op (.mv (.tmp 1))⟩,
    ⟨some 10, none, .op (.bin .shr (.tmp 9) (.const (.int .u64 1)))⟩,
    ⟨some 11, none, .op (.conv .i64 (.tmp 10))⟩,
    ⟨some 8, none, .op (.mv (.tmp 11))⟩]

def c70_3 : C := .reg [⟨some 12, none, .op (.mv (.tmp 8))⟩,
    ⟨some 13, none, .op (.bin .gtr (.tmp 12) (.const (.int .i64 0)))⟩]

def c70_4 : C := .reg [⟨some 14, none, .op (.mv (.tmp 2))⟩,
    ⟨some 15, none, .op (.fa 6 (.tmp 3))⟩,
    ⟨some 16, none, .op (.ld none (.tmp 15))⟩,
    ⟨some 17, none, .op (.bin .mul (.tmp 14) (.tmp 16))⟩,
    ⟨some 18, none, .op (.bin .add (.const (.int .i64 1)) (.tmp 17))⟩,
    ⟨some 19, none, .op (.mv (.tmp 8))⟩,
    ⟨some 20, none, .op (.bin .add (.tmp 18) (.tmp 19))⟩,
    ⟨some 7, none, .op (.mv (.tmp 20))⟩]

def c70_5 : C := .reg [⟨some 21, none, .op (.mv (.tmp 1))⟩,
    ⟨some 22, none, .op (.bin .and (.tmp 21) (.const (.int .u32 1)))⟩,
    ⟨some 23, none, .op (.bin .gtr (.tmp 22) (.const (.int .u32 0)))⟩]

def c70_6 : C := .reg [⟨some 24, none, .op (.mv (.tmp 7))⟩,
    ⟨some 25, none, .op (.un .neg (.tmp 24))⟩,
    ⟨some 6, none, .op (.mv (.tmp 25))⟩]

def c70_7 : C := .reg [⟨some 26, none, .op (.mv (.tmp 7))⟩,
    ⟨some 6, none, .op (.mv (.tmp 26))⟩]

def c70 : Fn' := ⟨(.seq c70_0 (.seq c70_1 (.seq (.seq c70_2 (.seq c70_3 (.cond (.tmp 13) c70_4 .skip))) (.seq (.seq c70_5 (.cond (.tmp 23) (.seq c70_6 .ret) .skip)) (.seq c70_7 .ret))))), [.tmp 6]⟩

theorem comp70 : compFn Try.prog 70 = some c70 := by kernel_rfl

def c73_0 : C := .reg [⟨some 2, none, .op (.box (.tmp 0))⟩,
    ⟨some 4, none, .op (.mv (.const (.int .i64 0)))⟩]

def c73_1 : C := .reg [⟨some 6, none, .op (.fa 0 (.tmp 2))⟩,
    ⟨some 7, none, .op (.ld (some 6) (.tmp 6))⟩,
    ⟨some 8, none, .op (.mv (.tmp 1))⟩,
    ⟨some 9, none, .call 57 [.tmp 7, .tmp 8]⟩,
    ⟨some 10, none, .op (.un .not (.tmp 9))⟩]

def c73_2 : C := .reg [⟨some 4, none, .op (.mv (.const (.int .i64 2)))⟩]

def c73_3 : C := .reg [⟨some 11, none, .op (.mv (.tmp 1))⟩,
    ⟨some 12, none, .op (.bin .mul (.const (.int .i64 3)) (.tmp 11))⟩,
    ⟨some 13, none, .op (.fa 0 (.tmp 2))⟩,
    ⟨some 14, none, .op (.fa 2 (.tmp 13))⟩,
    ⟨some 15, none, .op (.ld none (.tmp 14))⟩,
    ⟨some 16, none, .op (.len (.tmp 15))⟩,
    ⟨some 17, none, .op (.bin .mul (.tmp 12) (.tmp 16))⟩,
    ⟨some 18, none, .op (.bin .add (.const (.int .i64 1)) (.tmp 17))⟩,
    ⟨some 19, none, .op (.mv (.tmp 1))⟩,
    ⟨some 20, none, .op (.bin .sub (.tmp 19) (.const (.int .i64 1)))⟩,
    ⟨some 21, none, .op (.bin .mul (.const (.int .i64 2)) (.tmp 20))⟩,
    ⟨some 22, none, .op (.fa 0 (.tmp 2))⟩,
    ⟨some 23, none, .op (.fa 1 (.tmp 22))⟩,
    ⟨some 24, none, .op (.ld none (.tmp 23))⟩,
    ⟨some 25, none, .op (.len (.tmp 24))⟩,
    ⟨some 26, none, .op (.bin .mul (.tmp 21) (.tmp 25))⟩,
    ⟨some 27, none, .op (.bin .add (.tmp 18) (.tmp 26))⟩,
    ⟨some 5, none, .op (.new [(.int .i64 0)])⟩,
    ⟨none, none, .op (.st 1 (.tmp 5) (.tmp 27))⟩]

def c73_4 : C := .reg [⟨some 28, none, .op (.ld (some 7) (.tmp 2))⟩,
    ⟨some 29, none, .op (.fn 129 [] [.tmp 5])⟩,
    ⟨some 30, none, .call 109 [.tmp 28, .const (.int .i64 0), .tmp 29]⟩]

def c73_5 : C := .reg [⟨some 31, none, .op (.ld none (.tmp 5))⟩,
    ⟨some 32, none, .op (.bin .gtr (.tmp 31) (.const (.int .i64 1048576)))⟩]

def c73_6 : C := .reg [⟨some 4, none, .op (.mv (.const (.int .i64 3)))⟩]

def c73_7 : C := .reg [⟨some 4, none, .op (.mv (.const (.int .i64 0)))⟩]

def c73 : Fn' := ⟨(.seq c73_0 (.seq (.seq c73_1 (.cond (.tmp 10) (.seq c73_2 .ret) .skip)) (.seq c73_3 (.seq c73_4 (.seq (.seq c73_5 (.cond (.tmp 32) (.seq c73_6 .ret) .skip)) (.seq c73_7 .ret)))))), [.tmp 4]⟩

theorem comp73 : compFn Try.prog 73 = some c73 := by kernel_rfl

def c76_0 : C := .reg [⟨some 2, none, .op (.box (.tmp 0))⟩,
    ⟨some 4, none, .op (.mv (.const (.int .u32 0)))⟩]

def c76_1 : C := .reg [⟨some 5, none, .op (.fa 0 (.tmp 2))⟩,
    ⟨some 6, none, .op (.fa 0 (.tmp 5))⟩,
    ⟨some 7, none, .op (.ld none (.tmp 6))⟩,
    ⟨some 8, none, .op (.bin .add (.const (.int .i64 1)) (.tmp 7))⟩,
    ⟨some 9, none, .op (.mv (.tmp 1))⟩,
    ⟨some 10, none, .op (.bin .add (.tmp 8) (.tmp 9))⟩,
    ⟨some 11, none, .op (.conv .u32 (.tmp 10))⟩,
    ⟨some 12, none, .op (.bin .shl (.tmp 11) (.const (.int .u64 1)))⟩,
    ⟨some 4, none, .op (.mv (.tmp 12))⟩]

def c76 : Fn' := ⟨(.seq c76_0 (.seq c76_1 .ret)), [.tmp 4]⟩

theorem comp76 : compFn Try.prog 76 = some c76 := by kernel_rfl

def c93_0 : C := .reg [⟨some 1, none, .op (.box (.tmp 0))⟩,
    ⟨some 2, none, .op (.mv (.const (.int .i64 0)))⟩]

def c93_1 : C := .reg [⟨some 3, none, .op (.fa 0 (.tmp 1))⟩,
    ⟨some 4, none, .op (.ld none (.tmp 3))⟩,
    ⟨some 5, none, .op (.fa 1 (.tmp 1))⟩,
    ⟨some 6, none, .op (.ld none (.tmp 5))⟩,
    ⟨some 7, none, .op (.len (.tmp 6))⟩,
    ⟨some 8, none, .op (.bin .add (.tmp 4) (.tmp 7))⟩,
    ⟨some 9, none, .op (.fa 2 (.tmp 1))⟩,
    ⟨some 10, none, .op (.ld none (.tmp 9))⟩,
    ⟨some 11, none, .op (.len (.tmp 10))⟩,
    ⟨some 12, none, .op (.bin .add (.tmp 8) (.tmp 11))⟩,
    ⟨some 2, none, .op (.mv (.tmp 12))⟩]

def c93 : Fn' := ⟨(.seq c93_0 (.seq c93_1 .ret)), [.tmp 2]⟩

theorem comp93 : compFn Try.prog 93 = some c93 := by kernel_rfl

def c94_0 : C := .reg [⟨some 3, none, .op (.mv (.const (.bool false)))⟩]

def c94_1 : C := .reg [⟨some 4, none, .op (.mv (.tmp 0))⟩,
    ⟨some 5, none, .op (.bin .shr (.tmp 4) (.const (.int .u64 1)))⟩,
    ⟨some 6, none, .op (.conv .i64 (.tmp 5))⟩,
    ⟨some 7, none, .op (.ld (some 6) (.tmp 1))⟩,
    ⟨some 8, none, .call 93 [.tmp 7]⟩,
    ⟨some 9, none, .op (.bin .gtr (.tmp 6) (.tmp 8))⟩,
    ⟨some 3, none, .op (.mv (.tmp 9))⟩]

def c94 : Fn' := ⟨(.seq c94_0 (.seq c94_1 .ret)), [.tmp 3]⟩

theorem comp94 : compFn Try.prog 94 = some c94 := by kernel_rfl

def c95_0 : C := .reg [⟨some 4, none, .op (.mv (.const (.bool false)))⟩]

def c95_1 : C := .reg [⟨some 5, none, .op (.mv (.tmp 0))⟩,
    ⟨some 6, none, .op (.mv (.tmp 1))⟩,
    ⟨some 7, none, .call 133 [.tmp 5, .tmp 6]⟩,
    ⟨some 8, none, .op (.bin .geq (.tmp 7) (.const (.int .i64 0)))⟩,
    ⟨some 4, none, .op (.mv (.tmp 8))⟩]

def c95 : Fn' := ⟨(.seq c95_0 (.seq c95_1 .ret)), [.tmp 4]⟩

theorem comp95 : compFn Try.prog 95 = some c95 := by kernel_rfl

def c109_0 : C := .reg [⟨some 3, none, .op (.box (.tmp 0))⟩]

def c109_1 : C := .reg [⟨some 10, none, .op (.fa 0 (.tmp 3))⟩,
    ⟨some 11, none, .op (.fa 1 (.tmp 10))⟩,
    ⟨some 12, none, .op (.ld none (.tmp 11))⟩,
    ⟨some 13, none, .op (.len (.tmp 12))⟩,
    ⟨some 14, none, .op (.mv (.const (.int .i64 0)))⟩]

def c109_2 : C := .reg [⟨some 15, none, .op (.bin .lss (.tmp 14) (.tmp 13))⟩]

def c109_3 : C := .reg [⟨some 16, none, .op (.mv (.tmp 14))⟩,
    ⟨some 17, none, .op (.ia 2 (.tmp 12) (.tmp 14))⟩,
    ⟨some 18, none, .op (.ld (some 2) (.tmp 17))⟩,
    ⟨some 7, none, .op (.new [(.int .u32 0), (.int .u8 0)])⟩,
    ⟨some 6, none, .op (.mv (.tmp 16))⟩,
    ⟨none, none, .op (.st 2 (.tmp 7) (.tmp 18))⟩]

def c109_4 : C := .regD 0 [⟨0, ⟨some 19, none, .op (.ld (some 7) (.tmp 3))⟩, none, []⟩,
    ⟨1, ⟨some 20, none, .op (.ld (some 7) (.tmp 3))⟩, none, []⟩,
    ⟨2, ⟨some 21, none, .op (.mv (.tmp 6))⟩, none, []⟩,
    ⟨4, ⟨some 23, none, .op (.mv (.tmp 1))⟩, none, []⟩,
    ⟨3, ⟨some 22, none, .call 76 [.tmp 20, .tmp 21]⟩, none, [(some 7, .tmp 3, 19, none)]⟩,
    ⟨5, ⟨some 24, none, .call 70 [.tmp 19, .tmp 22, .tmp 23]⟩, none, []⟩,
    ⟨6, ⟨some 8, none, .op (.mv (.tmp 24))⟩, none, []⟩]

def c109_5 : C := .reg [⟨some 26, none, .op (.mv (.tmp 1))⟩,
    ⟨some 27, none, .op (.bin .gtr (.tmp 26) (.const (.int .i64 0)))⟩,
    ⟨some 25, none, .op (.mv (.tmp 27))⟩]

def c109_6 : C := .reg [⟨some 28, none, .op (.ld (some 7) (.tmp 3))⟩,
    ⟨some 29, none, .op (.fa 0 (.tmp 7))⟩,
    ⟨some 30, none, .op (.ld none (.tmp 29))⟩,
    ⟨some 31, none, .op (.mv (.tmp 1))⟩,
    ⟨some 32, none, .op (.bin .sub (.tmp 31) (.const (.int .i64 1)))⟩,
    ⟨some 33, none, .call 70 [.tmp 28, .tmp 30, .tmp 32]⟩,
    ⟨some 9, none, .op (.mv (.tmp 33))⟩]

def c109_7 : C := .reg [⟨some 34, none, .op (.mv (.tmp 2))⟩,
    ⟨some 35, none, .op (.mv (.tmp 8))⟩,
    ⟨some 36, none, .op (.un .neg (.tmp 35))⟩,
    ⟨some 37, none, .op (.mv (.tmp 9))⟩,
    ⟨some 38, none, .op (.mkSl (reps 2 [(.int .i64 0)]) 2 [(0, 1, .tmp 36), (1, 1, .tmp 37)])⟩,
    ⟨some 39, none, .callv (.tmp 34) [.tmp 38]⟩]

def c109_8 : C := .reg [⟨some 40, none, .op (.mv (.tmp 2))⟩,
    ⟨some 41, none, .op (.mv (.tmp 8))⟩,
    ⟨some 42, none, .op (.mv (.tmp 9))⟩,
    ⟨some 43, none, .op (.un .neg (.tmp 42))⟩,
    ⟨some 44, none, .op (.mkSl (reps 2 [(.int .i64 0)]) 2 [(0, 1, .tmp 41), (1, 1, .tmp 43)])⟩,
    ⟨some 45, none, .callv (.tmp 40) [.tmp 44]⟩]

def c109_9 : C := .reg [⟨some 47, none, .op (.fa 1 (.tmp 7))⟩,
    ⟨some 48, none, .op (.ld none (.tmp 47))⟩,
    ⟨some 49, none, .op (.bin .eql (.tmp 48) (.const (.int .u8 0)))⟩,
    ⟨some 46, none, .op (.mv (.tmp 49))⟩]

def c109_10 : C := .reg [⟨some 50, none, .op (.mv (.tmp 2))⟩,
    ⟨some 51, none, .op (.mv (.tmp 8))⟩,
    ⟨some 52, none, .op (.un .neg (.tmp 51))⟩,
    ⟨some 53, none, .op (.mkSl (reps 1 [(.int .i64 0)]) 1 [(0, 1, .tmp 52)])⟩,
    ⟨some 54, none, .callv (.tmp 50) [.tmp 53]⟩]

def c109_11 : C := .reg [⟨some 56, none, .op (.fa 1 (.tmp 7))⟩,
    ⟨some 57, none, .op (.ld none (.tmp 56))⟩,
    ⟨some 58, none, .op (.bin .eql (.tmp 57) (.const (.int .u8 1)))⟩,
    ⟨some 55, none, .op (.mv (.tmp 58))⟩]

def c109_12 : C := .reg [⟨some 59, none, .op (.mv (.tmp 2))⟩,
    ⟨some 60, none, .op (.mv (.tmp 8))⟩,
    ⟨some 61, none, .op (.mkSl (reps 1 [(.int .i64 0)]) 1 [(0, 1, .tmp 60)])⟩,
    ⟨some 62, none, .callv (.tmp 59) [.tmp 61]⟩]

def c109_13 : C := .reg [⟨some 63, none, .op (.bin .add (.tmp 14) (.const (.int .i64 1)))⟩,
    ⟨some 14, none, .op (.mv (.tmp 63))⟩]

def c109 : Fn' := ⟨(.seq c109_0 (.seq c109_1 (.block 0 (.loop (.seq c109_2 (.seq (.cond (.tmp 15) .skip (.exit 0)) (.seq (.block 1 (.seq c109_3 (.seq c109_4 (.block 2 (.seq c109_5 (.cond (.tmp 25) (.seq c109_6 (.seq c109_7 c109_8)) (.seq c109_9 (.cond (.tmp 46) c109_10 (.seq c109_11 (.cond (.tmp 55) c109_12 .skip)))))))))) c109_13))))))), []⟩

theorem comp109 : compFn Try.prog 109 = some c109 := by kernel_rfl

def c110_0 : C := .reg [⟨some 3, none, .op (.ld none (.tmp 1))⟩,
    ⟨some 4, none, .op (.mv (.tmp 0))⟩,
    ⟨some 5, none, .op (.mkSl (reps 1 [(.slice none 0 0)]) 1 [(0, 1, .tmp 4)])⟩,
    ⟨some 6, none, .op (.app 1 24 (.tmp 3) (.tmp 5))⟩,
    ⟨none, none, .op (.st 1 (.tmp 1) (.tmp 6))⟩]

def c110 : Fn' := ⟨c110_0, []⟩

theorem comp110 : compFn Try.prog 110 = some c110 := by kernel_rfl

def c111_0 : C := .reg [⟨some 3, none, .op (.box (.tmp 0))⟩]

def c111_1 : C := .reg [⟨some 11, none, .op (.fa 0 (.tmp 3))⟩,
    ⟨some 12, none, .op (.fa 2 (.tmp 11))⟩,
    ⟨some 13, none, .op (.ld none (.tmp 12))⟩,
    ⟨some 14, none, .op (.len (.tmp 13))⟩,
    ⟨some 15, none, .op (.mv (.const (.int .i64 0)))⟩]

def c111_2 : C := .reg [⟨some 16, none, .op (.bin .lss (.tmp 15) (.tmp 14))⟩]

def c111_3 : C := .reg [⟨some 17, none, .op (.mv (.tmp 15))⟩,
    ⟨some 18, none, .op (.ia 2 (.tmp 13) (.tmp 15))⟩,
    ⟨some 19, none, .op (.ld (some 2) (.tmp 18))⟩,
    ⟨some 7, none, .op (.new [(.int .u32 0), (.int .u32 0)])⟩,
    ⟨some 6, none, .op (.mv (.tmp 17))⟩,
    ⟨none, none, .op (.st 2 (.tmp 7) (.tmp 19))⟩]

def c111_4 : C := .regD 0 [⟨0, ⟨some 20, none, .op (.ld (some 7) (.tmp 3))⟩, none, []⟩,
    ⟨1, ⟨some 21, none, .op (.ld (some 7) (.tmp 3))⟩, none, []⟩,
    ⟨2, ⟨some 22, none, .op (.mv (.tmp 6))⟩, none, []⟩,
    ⟨4, ⟨some 24, none, .op (.mv (.tmp 1))⟩, none, []⟩,
    ⟨6, ⟨some 26, none, .op (.ld (some 7) (.tmp 3))⟩, none, []⟩,
    ⟨7, ⟨some 27, none, .op (.fa 0 (.tmp 7))⟩, none, []⟩,
    ⟨8, ⟨some 28, none, .op (.ld none (.tmp 27))⟩, none, []⟩,
    ⟨9, ⟨some 29, none, .op (.mv (.tmp 1))⟩, none, []⟩,
    ⟨11, ⟨some 31, none, .op (.ld (some 7) (.tmp 3))⟩, none, []⟩,
    ⟨12, ⟨some 32, none, .op (.fa 1 (.tmp 7))⟩, none, []⟩,
    ⟨13, ⟨some 33, none, .op (.ld none (.tmp 32))⟩, none, []⟩,
    ⟨14, ⟨some 34, none, .op (.mv (.tmp 1))⟩, none, []⟩,
    ⟨3, ⟨some 23, none, .call 137 [.tmp 21, .tmp 22]⟩, none, [(none, .tmp 32, 33, none), (some 7, .tmp 3, 31, none), (none, .tmp 27, 28, none), (some 7, .tmp 3, 26, none), (some 7, .tmp 3, 20, none)]⟩,
    ⟨5, ⟨some 25, none, .call 70 [.tmp 20, .tmp 23, .tmp 24]⟩, none, [(none, .tmp 32, 33, none), (some 7, .tmp 3, 31, none), (none, .tmp 27, 28, none), (some 7, .tmp 3, 26, none)]⟩,
    ⟨10, ⟨some 30, none, .call 70 [.tmp 26, .tmp 28, .tmp 29]⟩, none, [(none, .tmp 32, 33, none), (some 7, .tmp 3, 31, none)]⟩,
    ⟨15, ⟨some 35, none, .call 70 [.tmp 31, .tmp 33, .tmp 34]⟩, none, []⟩,
    ⟨16, ⟨some 8, none, .op (.mv (.tmp 25))⟩, none, []⟩,
    ⟨17, ⟨some 9, none, .op (.mv (.tmp 30))⟩, none, []⟩,
    ⟨18, ⟨some 10, none, .op (.mv (.tmp 35))⟩, none, []⟩]

def c111_5 : C := .reg [⟨some 36, none, .op (.mv (.tmp 2))⟩,
    ⟨some 37, none, .op (.mv (.tmp 6))⟩,
    ⟨some 38, none, .op (.mv (.tmp 8))⟩,
    ⟨some 39, none, .op (.un .neg (.tmp 38))⟩,
    ⟨some 40, none, .op (.mv (.tmp 9))⟩,
    ⟨some 41, none, .op (.mkSl (reps 2 [(.int .i64 0)]) 2 [(0, 1, .tmp 39), (1, 1, .tmp 40)])⟩,
    ⟨some 42, none, .callv (.tmp 36) [.tmp 37, .tmp 41]⟩]

def c111_6 : C := .reg [⟨some 43, none, .op (.mv (.tmp 2))⟩,
    ⟨some 44, none, .op (.mv (.tmp 6))⟩,
    ⟨some 45, none, .op (.mv (.tmp 8))⟩,
    ⟨some 46, none, .op (.un .neg (.tmp 45))⟩,
    ⟨some 47, none, .op (.mv (.tmp 10))⟩,
    ⟨some 48, none, .op (.mkSl (reps 2 [(.int .i64 0)]) 2 [(0, 1, .tmp 46), (1, 1, .tmp 47)])⟩,
    ⟨some 49, none, .callv (.tmp 43) [.tmp 44, .tmp 48]⟩]

def c111_7 : C := .reg [⟨some 50, none, .op (.mv (.tmp 2))⟩,
    ⟨some 51, none, .op (.mv (.tmp 6))⟩,
    ⟨some 52, none, .op (.mv (.tmp 8))⟩,
    ⟨some 53, none, .op (.mv (.tmp 9))⟩,
    ⟨some 54, none, .op (.un .neg (.tmp 53))⟩,
    ⟨some 55, none, .op (.mv (.tmp 10))⟩,
    ⟨some 56, none, .op (.un .neg (.tmp 55))⟩,
    ⟨some 57, none, .op (.mkSl (reps 3 [(.int .i64 0)]) 3 [(0, 1, .tmp 52), (1, 1, .tmp 54), (2, 1, .tmp 56)])⟩,
    ⟨some 58, none, .callv (.tmp 50) [.tmp 51, .tmp 57]⟩]

def c111_8 : C := .reg [⟨some 59, none, .op (.bin .add (.tmp 15) (.const (.int .i64 1)))⟩,
    ⟨some 15, none, .op (.mv (.tmp 59))⟩]

def c111 : Fn' := ⟨(.seq c111_0 (.seq c111_1 (.block 0 (.loop (.seq c111_2 (.seq (.cond (.tmp 16) .skip (.exit 0)) (.seq (.block 1 (.seq c111_3 (.seq c111_4 (.seq c111_5 (.seq c111_6 c111_7))))) c111_8))))))), []⟩

theorem comp111 : compFn Try.prog 111 = some c111 := by kernel_rfl

def c112_0 : C := .regD 1 [⟨0, ⟨some 6, none, .op (.ld none (.tmp 2))⟩, none, []⟩,
    ⟨1, ⟨some 7, none, .op (.mv (.tmp 1))⟩, none, []⟩,
    ⟨2, ⟨some 8, none, .op (.ld none (.tmp 3))⟩, none, []⟩,
    ⟨3, ⟨some 9, none, .op (.mv (.tmp 0))⟩, none, []⟩,
    ⟨4, ⟨some 10, none, .callv (.tmp 8) [.tmp 9]⟩, none, [(none, .tmp 2, 6, none)]⟩,
    ⟨5, ⟨some 11, none, .op (.app 1 8 (.tmp 7) (.tmp 10))⟩, none, [(none, .tmp 2, 6, none)]⟩,
    ⟨6, ⟨some 12, none, .op (.mkSl (reps 1 [(.slice none 0 0)]) 1 [(0, 1, .tmp 11)])⟩, some 0, []⟩,
    ⟨7, ⟨some 13, none, .op (.app 1 24 (.tmp 6) (.tmp 12))⟩, none, []⟩,
    ⟨8, ⟨none, none, .op (.st 1 (.tmp 2) (.tmp 13))⟩, none, []⟩]

def c112 : Fn' := ⟨c112_0, []⟩

theorem comp112 : compFn Try.prog 112 = some c112 := by kernel_rfl

def c129_0 : C := .reg [⟨some 3, none, .op (.ld none (.tmp 1))⟩,
    ⟨some 4, none, .op (.bin .add (.tmp 3) (.const (.int .i64 1)))⟩,
    ⟨none, none, .op (.st 1 (.tmp 1) (.tmp 4))⟩]

def c129 : Fn' := ⟨c129_0, []⟩

theorem comp129 : compFn Try.prog 129 = some c129 := by kernel_rfl

def c133_0 : C := .reg [⟨some 4, none, .op (.mv (.const (.int .i64 0)))⟩]

def c133_1 : C := .reg [⟨some 6, none, .op (.mv (.tmp 0))⟩,
    ⟨some 7, none, .op (.len (.tmp 6))⟩,
    ⟨some 8, none, .op (.mv (.const (.int .i64 0)))⟩]

def c133_2 : C := .reg [⟨some 9, none, .op (.bin .lss (.tmp 8) (.tmp 7))⟩]

def c133_3 : C := .reg [⟨some 10, none, .op (.mv (.tmp 8))⟩,
    ⟨some 5, none, .op (.mv (.tmp 10))⟩]

def c133_4 : C := .reg [⟨some 11, none, .op (.mv (.tmp 1))⟩,
    ⟨some 12, none, .op (.mv (.tmp 0))⟩,
    ⟨some 13, none, .op (.mv (.tmp 5))⟩,
    ⟨some 14, none, .op (.ia 1 (.tmp 12) (.tmp 13))⟩,
    ⟨some 15, none, .op (.ld none (.tmp 14))⟩,
    ⟨some 16, none, .callv (.tmp 11) [.tmp 15]⟩]

def c133_5 : C := .reg [⟨some 17, none, .op (.mv (.tmp 5))⟩,
    ⟨some 4, none, .op (.mv (.tmp 17))⟩]

def c133_6 : C := .reg [⟨some 18, none, .op (.bin .add (.tmp 8) (.const (.int .i64 1)))⟩,
    ⟨some 8, none, .op (.mv (.tmp 18))⟩]

def c133_7 : C := .reg [⟨some 4, none, .op (.mv (.const (.int .i64 (-1))))⟩]

def c133 : Fn' := ⟨(.seq c133_0 (.seq (.seq c133_1 (.block 0 (.loop (.seq c133_2 (.seq (.cond (.tmp 9) .skip (.exit 0)) (.seq (.block 1 (.seq c133_3 (.seq c133_4 (.cond (.tmp 16) (.seq c133_5 .ret) .skip)))) c133_6)))))) (.seq c133_7 .ret))), [.tmp 4]⟩

theorem comp133 : compFn Try.prog 133 = some c133 := by kernel_rfl

def c137_0 : C := .reg [⟨some 2, none, .op (.box (.tmp 0))⟩,
    ⟨some 4, none, .op (.mv (.const (.int .u32 0)))⟩]

def c137_1 : C := .reg [⟨some 5, none, .op (.ld (some 7) (.tmp 2))⟩,
    ⟨some 6, none, .op (.fa 0 (.tmp 2))⟩,
    ⟨some 7, none, .op (.fa 1 (.tmp 6))⟩,
    ⟨some 8, none, .op (.ld none (.tmp 7))⟩,
    ⟨some 9, none, .op (.len (.tmp 8))⟩,
    ⟨some 10, none, .op (.mv (.tmp 1))⟩,
    ⟨some 11, none, .op (.bin .add (.tmp 9) (.tmp 10))⟩,
    ⟨some 12, none, .call 76 [.tmp 5, .tmp 11]⟩,
    ⟨some 4, none, .op (.mv (.tmp 12))⟩]

def c137 : Fn' := ⟨(.seq c137_0 (.seq c137_1 .ret)), [.tmp 4]⟩

theorem comp137 : compFn Try.prog 137 = some c137 := by kernel_rfl

end Go.Proofs.Ytkhfcljkpjgljaa
