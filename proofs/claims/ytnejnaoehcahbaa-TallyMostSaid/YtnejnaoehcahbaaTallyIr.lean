/-
  The code of the functions of the laws of tally, as the evaluator has it.
-/
import Derived.Test.YtnejnaoehcahbaaAeTop
import Derived.Test.YtnejnaoehcahbaaRows
import Derived.KernelRfl
namespace Go.Proofs.Ytnejnaoehcahbaa
open Go Go.Ae

def c3_0 : C := .reg [⟨some 6, none, .op (.mv (.const (.bool false)))⟩]

def c3_1 : C := .reg [⟨some 7, none, .op (.mv (.const (.slice none 0 0)))⟩]

def c3_2 : C := .reg [⟨some 20, none, .op (.mv (.tmp 7))⟩,
    ⟨some 21, none, .op (.mv (.tmp 0))⟩,
    ⟨some 22, none, .op (.app 1 8 (.tmp 20) (.tmp 21))⟩,
    ⟨some 7, none, .op (.mv (.tmp 22))⟩]

def c3_3 : C := .reg [⟨some 24, none, .op (.mv (.tmp 7))⟩,
    ⟨some 25, none, .op (.mv (.tmp 1))⟩,
    ⟨some 26, none, .op (.mv (.tmp 2))⟩,
    ⟨some 27, none, .call 9 [.tmp 24, .tmp 25, .tmp 26]⟩,
    ⟨some 23, none, .op (.mv (.tmp 27))⟩,
    ⟨some 28, none, .op (.ext (.tmp 23) 0)⟩,
    ⟨some 29, none, .op (.ext (.tmp 23) 1)⟩,
    ⟨some 30, none, .op (.ext (.tmp 23) 2)⟩,
    ⟨some 31, none, .op (.ext (.tmp 23) 3)⟩,
    ⟨some 8, none, .op (.mv (.tmp 28))⟩,
    ⟨some 9, none, .op (.mv (.tmp 29))⟩,
    ⟨some 10, none, .op (.mv (.tmp 30))⟩,
    ⟨some 11, none, .op (.mv (.tmp 31))⟩]

def c3_4 : C := .reg [⟨some 32, none, .op (.mv (.tmp 2))⟩,
    ⟨some 33, none, .op (.bin .lss (.tmp 32) (.const (.int .i64 1)))⟩,
    ⟨some 34, none, .op (.mv (.tmp 33))⟩,
    ⟨some 35, (some (34, false)), .op (.mv (.tmp 2))⟩,
    ⟨some 36, (some (34, false)), .op (.bin .gtr (.tmp 35) (.const (.int .i64 4194304)))⟩,
    ⟨some 37, none, .op (.pick (.tmp 34) (.const (.bool true)) (.tmp 36))⟩,
    ⟨some 38, none, .op (.mv (.tmp 37))⟩,
    ⟨some 39, (some (38, false)), .op (.mv (.tmp 0))⟩,
    ⟨some 40, (some (38, false)), .op (.len (.tmp 39))⟩,
    ⟨some 41, (some (38, false)), .op (.bin .gtr (.tmp 40) (.const (.int .i64 4096)))⟩,
    ⟨some 42, none, .op (.pick (.tmp 38) (.const (.bool true)) (.tmp 41))⟩,
    ⟨some 43, none, .op (.mv (.tmp 42))⟩,
    ⟨some 44, (some (43, false)), .op (.mv (.tmp 1))⟩,
    ⟨some 45, (some (43, false)), .op (.bin .lss (.tmp 44) (.const (.int .i64 0)))⟩,
    ⟨some 46, none, .op (.pick (.tmp 43) (.const (.bool true)) (.tmp 45))⟩,
    ⟨some 12, none, .op (.mv (.tmp 46))⟩]

def c3_5 : C := .reg [⟨some 13, none, .op (.mv (.const (.int .i64 0)))⟩]

def c3_6 : C := .reg [⟨some 47, none, .op (.mv (.tmp 13))⟩,
    ⟨some 48, none, .op (.mv (.tmp 0))⟩,
    ⟨some 49, none, .op (.len (.tmp 48))⟩,
    ⟨some 50, none, .op (.bin .lss (.tmp 47) (.tmp 49))⟩]

def c3_7 : C := .reg [⟨some 53, none, .op (.mv (.tmp 12))⟩,
    ⟨some 54, none, .op (.mv (.tmp 53))⟩,
    ⟨some 55, (some (54, false)), .op (.mv (.tmp 0))⟩,
    ⟨some 56, (some (54, false)), .op (.mv (.tmp 13))⟩,
    ⟨some 57, (some (54, false)), .op (.ia 1 (.tmp 55) (.tmp 56))⟩,
    ⟨some 58, (some (54, false)), .op (.ld none (.tmp 57))⟩,
    ⟨some 59, (some (54, false)), .op (.bin .eql (.tmp 58) (.const (.int .i64 0)))⟩,
    ⟨some 60, none, .op (.pick (.tmp 54) (.const (.bool true)) (.tmp 59))⟩,
    ⟨some 61, none, .op (.mv (.tmp 60))⟩,
    ⟨some 62, (some (61, false)), .op (.mv (.tmp 0))⟩,
    ⟨some 63, (some (61, false)), .op (.mv (.tmp 13))⟩,
    ⟨some 64, (some (61, false)), .op (.ia 1 (.tmp 62) (.tmp 63))⟩,
    ⟨some 65, (some (61, false)), .op (.ld none (.tmp 64))⟩,
    ⟨some 66, (some (61, false)), .op (.mv (.tmp 2))⟩,
    ⟨some 67, (some (61, false)), .op (.bin .geq (.tmp 65) (.tmp 66))⟩,
    ⟨some 68, none, .op (.pick (.tmp 61) (.const (.bool true)) (.tmp 67))⟩,
    ⟨some 69, none, .op (.mv (.tmp 68))⟩,
    ⟨some 70, (some (69, false)), .op (.mv (.tmp 0))⟩,
    ⟨some 71, (some (69, false)), .op (.mv (.tmp 13))⟩,
    ⟨some 72, (some (69, false)), .op (.ia 1 (.tmp 70) (.tmp 71))⟩,
    ⟨some 73, (some (69, false)), .op (.ld none (.tmp 72))⟩,
    ⟨some 74, (some (69, false)), .op (.mv (.tmp 2))⟩,
    ⟨some 75, (some (69, false)), .op (.un .neg (.tmp 74))⟩,
    ⟨some 76, (some (69, false)), .op (.bin .leq (.tmp 73) (.tmp 75))⟩,
    ⟨some 77, none, .op (.pick (.tmp 69) (.const (.bool true)) (.tmp 76))⟩,
    ⟨some 12, none, .op (.mv (.tmp 77))⟩]

def c3_8 : C := .reg [⟨some 51, none, .op (.mv (.tmp 13))⟩,
    ⟨some 52, none, .op (.bin .add (.tmp 51) (.const (.int .i64 1)))⟩,
    ⟨some 13, none, .op (.mv (.tmp 52))⟩]

def c3_9 : C := .reg [⟨some 78, none, .op (.mv (.tmp 7))⟩,
    ⟨some 79, none, .op (.mv (.tmp 0))⟩,
    ⟨some 80, none, .call 10 [.tmp 78, .tmp 79]⟩,
    ⟨some 81, none, .op (.un .not (.tmp 80))⟩,
    ⟨some 82, none, .op (.mv (.tmp 81))⟩,
    ⟨some 83, (some (82, false)), .op (.mv (.tmp 12))⟩,
    ⟨some 84, (some (82, false)), .op (.mv (.tmp 11))⟩,
    ⟨some 85, (some (82, false)), .op (.bin .eql (.tmp 84) (.const (.int .i64 2)))⟩,
    ⟨some 86, (some (82, false)), .op (.beq true (.tmp 83) (.tmp 85))⟩,
    ⟨some 87, none, .op (.pick (.tmp 82) (.const (.bool true)) (.tmp 86))⟩]

def c3_10 : C := .reg [⟨some 6, none, .op (.mv (.const (.bool false)))⟩]

def c3_11 : C := .reg [⟨some 88, none, .op (.mv (.tmp 11))⟩,
    ⟨some 89, none, .op (.bin .neq (.tmp 88) (.const (.int .i64 0)))⟩]

def c3_12 : C := .reg [⟨some 90, none, .op (.mv (.tmp 8))⟩,
    ⟨some 91, none, .op (.len (.tmp 90))⟩,
    ⟨some 92, none, .op (.bin .eql (.tmp 91) (.const (.int .i64 0)))⟩,
    ⟨some 93, none, .op (.mv (.tmp 92))⟩,
    ⟨some 94, (some (93, true)), .op (.mv (.tmp 9))⟩,
    ⟨some 95, (some (93, true)), .op (.len (.tmp 94))⟩,
    ⟨some 96, (some (93, true)), .op (.bin .eql (.tmp 95) (.const (.int .i64 0)))⟩,
    ⟨some 97, none, .op (.pick (.tmp 93) (.tmp 96) (.const (.bool false)))⟩,
    ⟨some 98, none, .op (.mv (.tmp 97))⟩,
    ⟨some 99, (some (98, true)), .op (.mv (.tmp 10))⟩,
    ⟨some 100, (some (98, true)), .op (.bin .eql (.tmp 99) (.const (.int .i64 0)))⟩,
    ⟨some 101, none, .op (.pick (.tmp 98) (.tmp 100) (.const (.bool false)))⟩,
    ⟨some 102, none, .op (.mv (.tmp 101))⟩,
    ⟨some 103, (some (102, true)), .op (.mv (.tmp 11))⟩,
    ⟨some 104, (some (102, true)), .op (.bin .eql (.tmp 103) (.const (.int .i64 2)))⟩,
    ⟨some 105, (some (102, true)), .op (.mv (.tmp 104))⟩,
    ⟨some 106, (some (105, false)), .op (.mv (.tmp 11))⟩,
    ⟨some 107, (some (105, false)), .op (.bin .eql (.tmp 106) (.const (.int .i64 3)))⟩,
    ⟨some 108, (some (105, false)), .op (.mv (.tmp 107))⟩,
    ⟨some 109, (some (108, true)), .op (.mv (.tmp 0))⟩,
    ⟨some 110, (some (108, true)), .op (.len (.tmp 109))⟩,
    ⟨some 111, (some (108, true)), .op (.bin .gtr (.tmp 110) (.const (.int .i64 8)))⟩,
    ⟨some 112, (some (108, true)), .op (.mv (.tmp 111))⟩,
    ⟨some 113, (some (112, false)), .op (.mv (.tmp 2))⟩,
    ⟨some 114, (some (112, false)), .op (.bin .gtr (.tmp 113) (.const (.int .i64 4193304)))⟩,
    ⟨some 115, (some (108, true)), .op (.pick (.tmp 112) (.const (.bool true)) (.tmp 114))⟩,
    ⟨some 116, (some (105, false)), .op (.pick (.tmp 108) (.tmp 115) (.const (.bool false)))⟩,
    ⟨some 117, (some (102, true)), .op (.pick (.tmp 105) (.const (.bool true)) (.tmp 116))⟩,
    ⟨some 118, none, .op (.pick (.tmp 102) (.tmp 117) (.const (.bool false)))⟩,
    ⟨some 119, none, .op (.mv (.tmp 118))⟩,
    ⟨some 120, (some (119, true)), .call 11 []⟩,
    ⟨some 121, none, .op (.pick (.tmp 119) (.tmp 120) (.const (.bool false)))⟩,
    ⟨some 6, none, .op (.mv (.tmp 121))⟩]

def c3_13 : C := .reg [⟨some 122, none, .op (.mv (.tmp 2))⟩,
    ⟨some 123, none, .op (.bin .gtr (.tmp 122) (.const (.int .i64 7)))⟩,
    ⟨some 124, none, .op (.mv (.tmp 123))⟩,
    ⟨some 125, (some (124, false)), .op (.mv (.tmp 0))⟩,
    ⟨some 126, (some (124, false)), .op (.len (.tmp 125))⟩,
    ⟨some 127, (some (124, false)), .op (.bin .gtr (.tmp 126) (.const (.int .i64 8)))⟩,
    ⟨some 128, none, .op (.pick (.tmp 124) (.const (.bool true)) (.tmp 127))⟩]

def c3_14 : C := .reg [⟨some 129, none, .call 11 []⟩,
    ⟨some 6, none, .op (.mv (.tmp 129))⟩]

def c3_15 : C := .reg [⟨some 130, none, .op (.mv (.tmp 9))⟩,
    ⟨some 131, none, .op (.len (.tmp 130))⟩,
    ⟨some 132, none, .op (.mv (.tmp 1))⟩,
    ⟨some 133, none, .op (.mv (.tmp 0))⟩,
    ⟨some 134, none, .op (.len (.tmp 133))⟩,
    ⟨some 135, none, .op (.mm false (.tmp 132) [.tmp 134])⟩,
    ⟨some 136, none, .op (.bin .neq (.tmp 131) (.tmp 135))⟩,
    ⟨some 137, none, .op (.mv (.tmp 136))⟩,
    ⟨some 138, (some (137, false)), .op (.mv (.tmp 10))⟩,
    ⟨some 139, (some (137, false)), .op (.mv (.tmp 2))⟩,
    ⟨some 140, (some (137, false)), .op (.bin .lss (.tmp 138) (.tmp 139))⟩,
    ⟨some 141, none, .op (.pick (.tmp 137) (.const (.bool true)) (.tmp 140))⟩,
    ⟨some 142, none, .op (.mv (.tmp 141))⟩,
    ⟨some 143, (some (142, false)), .op (.mv (.tmp 8))⟩,
    ⟨some 144, (some (142, false)), .op (.mv (.tmp 10))⟩,
    ⟨some 145, (some (142, false)), .op (.bin .sub (.tmp 144) (.const (.int .i64 1)))⟩,
    ⟨some 146, (some (142, false)), .call 12 [.tmp 143, .tmp 145]⟩,
    ⟨some 147, (some (142, false)), .op (.un .not (.tmp 146))⟩,
    ⟨some 148, none, .op (.pick (.tmp 142) (.const (.bool true)) (.tmp 147))⟩,
    ⟨some 149, none, .op (.mv (.tmp 148))⟩,
    ⟨some 150, (some (149, false)), .op (.mv (.tmp 9))⟩,
    ⟨some 151, (some (149, false)), .op (.mkSl (reps 1 [(.slice none 0 0)]) 1 [(0, 1, .tmp 150)])⟩,
    ⟨some 152, (some (149, false)), .op (.mv (.tmp 10))⟩,
    ⟨some 153, (some (149, false)), .op (.bin .sub (.tmp 152) (.const (.int .i64 1)))⟩,
    ⟨some 154, (some (149, false)), .call 12 [.tmp 151, .tmp 153]⟩,
    ⟨some 155, (some (149, false)), .op (.un .not (.tmp 154))⟩,
    ⟨some 156, none, .op (.pick (.tmp 149) (.const (.bool true)) (.tmp 155))⟩]

def c3_16 : C := .reg [⟨some 6, none, .op (.mv (.const (.bool false)))⟩]

def c3_17 : C := .reg [⟨some 14, none, .op (.mv (.const (.int .i64 0)))⟩]

def c3_18 : C := .reg [⟨some 157, none, .op (.mv (.tmp 14))⟩,
    ⟨some 158, none, .op (.mv (.tmp 2))⟩,
    ⟨some 159, none, .op (.bin .sub (.tmp 158) (.const (.int .i64 1)))⟩,
    ⟨some 160, none, .op (.conv .u64 (.tmp 159))⟩,
    ⟨some 161, none, .op (.bin .shl (.const (.int .i64 1)) (.tmp 160))⟩,
    ⟨some 162, none, .op (.bin .lss (.tmp 157) (.tmp 161))⟩]

def c3_19 : C := .reg [⟨some 165, none, .op (.mv (.tmp 14))⟩,
    ⟨some 166, none, .op (.mv (.tmp 2))⟩,
    ⟨some 167, none, .op (.bin .sub (.tmp 166) (.const (.int .i64 1)))⟩,
    ⟨some 168, none, .call 13 [.tmp 165, .tmp 167]⟩,
    ⟨some 15, none, .op (.mv (.tmp 168))⟩]

def c3_20 : C := .reg [⟨some 169, none, .op (.mv (.tmp 15))⟩,
    ⟨some 170, none, .op (.mv (.tmp 2))⟩,
    ⟨some 171, none, .call 14 [.tmp 169, .tmp 170]⟩,
    ⟨some 16, none, .op (.mv (.tmp 171))⟩]

def c3_21 : C := .reg [⟨some 172, none, .op (.mv (.tmp 8))⟩,
    ⟨some 173, none, .op (.mv (.tmp 16))⟩,
    ⟨some 174, none, .op (.mv (.tmp 10))⟩,
    ⟨some 175, none, .op (.bin .sub (.tmp 174) (.const (.int .i64 1)))⟩,
    ⟨some 176, none, .call 15 [.tmp 172, .tmp 173, .tmp 175]⟩,
    ⟨some 177, none, .op (.un .not (.tmp 176))⟩]

def c3_22 : C := .reg [⟨some 6, none, .op (.mv (.const (.bool false)))⟩]

def c3_23 : C := .reg [⟨some 17, none, .op (.mv (.const (.int .i64 0)))⟩]

def c3_24 : C := .reg [⟨some 178, none, .op (.mv (.tmp 17))⟩,
    ⟨some 179, none, .op (.mv (.tmp 9))⟩,
    ⟨some 180, none, .op (.len (.tmp 179))⟩,
    ⟨some 181, none, .op (.bin .lss (.tmp 178) (.tmp 180))⟩]

def c3_25 : C := .reg [⟨some 184, none, .op (.mv (.tmp 9))⟩,
    ⟨some 185, none, .op (.mv (.tmp 17))⟩,
    ⟨some 186, none, .op (.ia 1 (.tmp 184) (.tmp 185))⟩,
    ⟨some 187, none, .op (.ld none (.tmp 186))⟩,
    ⟨some 18, none, .op (.mv (.tmp 187))⟩]

def c3_26 : C := .reg [⟨some 188, none, .op (.mv (.tmp 0))⟩,
    ⟨some 189, none, .op (.mv (.tmp 15))⟩,
    ⟨some 190, none, .call 16 [.tmp 188, .tmp 189]⟩,
    ⟨some 191, none, .op (.mv (.tmp 17))⟩,
    ⟨some 192, none, .op (.bin .gtr (.tmp 190) (.tmp 191))⟩]

def c3_27 : C := .reg [⟨some 193, none, .op (.mv (.tmp 9))⟩,
    ⟨some 194, none, .op (.mv (.tmp 17))⟩,
    ⟨some 195, none, .op (.ia 1 (.tmp 193) (.tmp 194))⟩,
    ⟨some 196, none, .op (.ld none (.tmp 195))⟩,
    ⟨some 197, none, .op (.un .neg (.tmp 196))⟩,
    ⟨some 18, none, .op (.mv (.tmp 197))⟩]

def c3_28 : C := .reg [⟨some 19, none, .op (.mv (.const (.slice none 0 0)))⟩]

def c3_29 : C := .reg [⟨some 198, none, .op (.mv (.tmp 19))⟩,
    ⟨some 199, none, .op (.mv (.tmp 16))⟩,
    ⟨some 200, none, .op (.app 1 8 (.tmp 198) (.tmp 199))⟩,
    ⟨some 19, none, .op (.mv (.tmp 200))⟩]

def c3_30 : C := .reg [⟨some 201, none, .op (.mv (.tmp 8))⟩,
    ⟨some 202, none, .op (.mv (.tmp 19))⟩,
    ⟨some 203, none, .op (.mv (.tmp 18))⟩,
    ⟨some 204, none, .op (.mkSl (reps 1 [(.int .i64 0)]) 1 [(0, 1, .tmp 203)])⟩,
    ⟨some 205, none, .op (.app 1 8 (.tmp 202) (.tmp 204))⟩,
    ⟨some 206, none, .op (.mv (.tmp 10))⟩,
    ⟨some 207, none, .op (.bin .sub (.tmp 206) (.const (.int .i64 1)))⟩,
    ⟨some 208, none, .call 15 [.tmp 201, .tmp 205, .tmp 207]⟩]

def c3_31 : C := .reg [⟨some 6, none, .op (.mv (.const (.bool false)))⟩]

def c3_32 : C := .reg [⟨some 182, none, .op (.mv (.tmp 17))⟩,
    ⟨some 183, none, .op (.bin .add (.tmp 182) (.const (.int .i64 1)))⟩,
    ⟨some 17, none, .op (.mv (.tmp 183))⟩]

def c3_33 : C := .reg [⟨some 163, none, .op (.mv (.tmp 14))⟩,
    ⟨some 164, none, .op (.bin .add (.tmp 163) (.const (.int .i64 1)))⟩,
    ⟨some 14, none, .op (.mv (.tmp 164))⟩]

def c3_34 : C := .reg [⟨some 209, none, .call 11 []⟩,
    ⟨some 6, none, .op (.mv (.tmp 209))⟩]

def c3 : Fn' := ⟨(.seq c3_0 (.seq c3_1 (.seq c3_2 (.seq c3_3 (.seq c3_4 (.seq (.seq c3_5 (.block 0 (.loop (.seq (.seq c3_6 (.cond (.tmp 50) .skip (.exit 0))) (.seq (.block 1 c3_7) c3_8))))) (.seq (.seq c3_9 (.cond (.tmp 87) (.seq c3_10 .ret) .skip)) (.seq (.seq c3_11 (.cond (.tmp 89) (.seq c3_12 .ret) .skip)) (.seq (.seq c3_13 (.cond (.tmp 128) (.seq c3_14 .ret) .skip)) (.seq (.seq c3_15 (.cond (.tmp 156) (.seq c3_16 .ret) .skip)) (.seq (.seq c3_17 (.block 2 (.loop (.seq (.seq c3_18 (.cond (.tmp 162) .skip (.exit 2))) (.seq (.block 3 (.seq c3_19 (.seq c3_20 (.seq (.seq c3_21 (.cond (.tmp 177) (.seq c3_22 .ret) .skip)) (.seq c3_23 (.block 4 (.loop (.seq (.seq c3_24 (.cond (.tmp 181) .skip (.exit 4))) (.seq (.block 5 (.seq c3_25 (.seq (.seq c3_26 (.cond (.tmp 192) c3_27 .skip)) (.seq c3_28 (.seq c3_29 (.seq c3_30 (.cond (.tmp 208) (.seq c3_31 .ret) .skip))))))) c3_32))))))))) c3_33))))) (.seq c3_34 .ret)))))))))))), [.tmp 6]⟩

theorem comp3 : compFn Try.prog 3 = some c3 := by kernel_rfl

def c4_0 : C := .reg [⟨some 6, none, .op (.mv (.const (.bool false)))⟩]

def c4_1 : C := .reg [⟨some 17, none, .op (.mv (.tmp 1))⟩,
    ⟨some 18, none, .op (.bin .lss (.tmp 17) (.const (.int .i64 0)))⟩]

def c4_2 : C := .reg [⟨some 20, none, .op (.mv (.tmp 0))⟩,
    ⟨some 21, none, .op (.mv (.tmp 1))⟩,
    ⟨some 22, none, .call 17 [.tmp 20, .tmp 21]⟩,
    ⟨some 19, none, .op (.mv (.tmp 22))⟩,
    ⟨some 23, none, .op (.ext (.tmp 19) 0)⟩,
    ⟨some 24, none, .op (.ext (.tmp 19) 1)⟩,
    ⟨some 7, none, .op (.mv (.tmp 23))⟩,
    ⟨some 8, none, .op (.mv (.tmp 24))⟩]

def c4_3 : C := .reg [⟨some 25, none, .op (.mv (.tmp 7))⟩,
    ⟨some 26, none, .op (.len (.tmp 25))⟩,
    ⟨some 27, none, .op (.bin .eql (.tmp 26) (.const (.int .i64 0)))⟩,
    ⟨some 28, none, .op (.mv (.tmp 27))⟩,
    ⟨some 29, (some (28, true)), .op (.mv (.tmp 8))⟩,
    ⟨some 30, (some (28, true)), .op (.bin .eql (.tmp 29) (.const (.int .i64 2)))⟩,
    ⟨some 31, none, .op (.pick (.tmp 28) (.tmp 30) (.const (.bool false)))⟩,
    ⟨some 32, none, .op (.mv (.tmp 31))⟩,
    ⟨some 33, (some (32, true)), .call 11 []⟩,
    ⟨some 34, none, .op (.pick (.tmp 32) (.tmp 33) (.const (.bool false)))⟩,
    ⟨some 6, none, .op (.mv (.tmp 34))⟩]

def c4_4 : C := .reg [⟨some 35, none, .op (.mv (.tmp 2))⟩,
    ⟨some 36, none, .op (.bin .gtr (.tmp 35) (.const (.int .i64 7)))⟩,
    ⟨some 37, none, .op (.mv (.tmp 36))⟩,
    ⟨some 38, (some (37, false)), .op (.mv (.tmp 0))⟩,
    ⟨some 39, (some (37, false)), .op (.len (.tmp 38))⟩,
    ⟨some 40, (some (37, false)), .op (.bin .gtr (.tmp 39) (.const (.int .i64 8)))⟩,
    ⟨some 41, none, .op (.pick (.tmp 37) (.const (.bool true)) (.tmp 40))⟩,
    ⟨some 42, none, .op (.mv (.tmp 41))⟩,
    ⟨some 43, (some (42, false)), .op (.mv (.tmp 1))⟩,
    ⟨some 44, (some (42, false)), .op (.bin .gtr (.tmp 43) (.const (.int .i64 20)))⟩,
    ⟨some 45, none, .op (.pick (.tmp 42) (.const (.bool true)) (.tmp 44))⟩]

def c4_5 : C := .reg [⟨some 46, none, .call 11 []⟩,
    ⟨some 6, none, .op (.mv (.tmp 46))⟩]

def c4_6 : C := .reg [⟨some 48, none, .op (.mv (.tmp 0))⟩,
    ⟨some 49, none, .op (.mv (.tmp 1))⟩,
    ⟨some 50, none, .op (.bin .add (.tmp 49) (.const (.int .i64 1)))⟩,
    ⟨some 51, none, .op (.mv (.tmp 2))⟩,
    ⟨some 52, none, .call 9 [.tmp 48, .tmp 50, .tmp 51]⟩,
    ⟨some 47, none, .op (.mv (.tmp 52))⟩,
    ⟨some 53, none, .op (.ext (.tmp 47) 0)⟩,
    ⟨some 54, none, .op (.ext (.tmp 47) 1)⟩,
    ⟨some 55, none, .op (.ext (.tmp 47) 2)⟩,
    ⟨some 56, none, .op (.ext (.tmp 47) 3)⟩,
    ⟨some 9, none, .op (.mv (.tmp 53))⟩,
    ⟨some 10, none, .op (.mv (.tmp 54))⟩,
    ⟨some 11, none, .op (.mv (.tmp 55))⟩,
    ⟨some 12, none, .op (.mv (.tmp 56))⟩]

def c4_7 : C := .reg [⟨some 57, none, .op (.mv (.tmp 12))⟩,
    ⟨some 58, none, .op (.bin .neq (.tmp 57) (.const (.int .i64 0)))⟩]

def c4_8 : C := .reg [⟨some 59, none, .call 11 []⟩,
    ⟨some 6, none, .op (.mv (.tmp 59))⟩]

def c4_9 : C := .reg [⟨some 61, none, .op (.mv (.tmp 10))⟩,
    ⟨some 62, none, .op (.mv (.tmp 1))⟩,
    ⟨some 63, none, .call 17 [.tmp 61, .tmp 62]⟩,
    ⟨some 60, none, .op (.mv (.tmp 63))⟩,
    ⟨some 64, none, .op (.ext (.tmp 60) 0)⟩,
    ⟨some 65, none, .op (.ext (.tmp 60) 1)⟩,
    ⟨some 13, none, .op (.mv (.tmp 64))⟩,
    ⟨some 12, none, .op (.mv (.tmp 65))⟩]

def c4_10 : C := .reg [⟨some 66, none, .op (.mv (.tmp 12))⟩,
    ⟨some 67, none, .op (.bin .neq (.tmp 66) (.const (.int .i64 0)))⟩]

def c4_11 : C := .reg [⟨some 6, none, .op (.mv (.const (.bool false)))⟩]

def c4_12 : C := .reg [⟨some 14, none, .op (.mv (.const (.int .i64 0)))⟩]

def c4_13 : C := .reg [⟨some 68, none, .op (.mv (.tmp 14))⟩,
    ⟨some 69, none, .op (.mv (.tmp 2))⟩,
    ⟨some 70, none, .op (.bin .sub (.tmp 69) (.const (.int .i64 1)))⟩,
    ⟨some 71, none, .op (.conv .u64 (.tmp 70))⟩,
    ⟨some 72, none, .op (.bin .shl (.const (.int .i64 1)) (.tmp 71))⟩,
    ⟨some 73, none, .op (.bin .lss (.tmp 68) (.tmp 72))⟩]

def c4_14 : C := .reg [⟨some 76, none, .op (.mv (.tmp 14))⟩,
    ⟨some 77, none, .op (.mv (.tmp 2))⟩,
    ⟨some 78, none, .op (.bin .sub (.tmp 77) (.const (.int .i64 1)))⟩,
    ⟨some 79, none, .call 13 [.tmp 76, .tmp 78]⟩,
    ⟨some 15, none, .op (.mv (.tmp 79))⟩]

def c4_15 : C := .reg [⟨some 80, none, .op (.mv (.tmp 15))⟩,
    ⟨some 81, none, .op (.mv (.tmp 2))⟩,
    ⟨some 82, none, .call 14 [.tmp 80, .tmp 81]⟩,
    ⟨some 16, none, .op (.mv (.tmp 82))⟩]

def c4_16 : C := .reg [⟨some 83, none, .op (.mv (.tmp 16))⟩,
    ⟨some 84, none, .op (.mv (.tmp 13))⟩,
    ⟨some 85, none, .op (.app 1 8 (.tmp 83) (.tmp 84))⟩,
    ⟨some 16, none, .op (.mv (.tmp 85))⟩]

def c4_17 : C := .reg [⟨some 86, none, .op (.mv (.tmp 9))⟩,
    ⟨some 87, none, .op (.mv (.tmp 16))⟩,
    ⟨some 88, none, .op (.mv (.tmp 11))⟩,
    ⟨some 89, none, .op (.bin .sub (.tmp 88) (.const (.int .i64 1)))⟩,
    ⟨some 90, none, .call 15 [.tmp 86, .tmp 87, .tmp 89]⟩,
    ⟨some 91, none, .op (.mv (.tmp 0))⟩,
    ⟨some 92, none, .op (.mv (.tmp 15))⟩,
    ⟨some 93, none, .call 16 [.tmp 91, .tmp 92]⟩,
    ⟨some 94, none, .op (.mv (.tmp 1))⟩,
    ⟨some 95, none, .op (.bin .leq (.tmp 93) (.tmp 94))⟩,
    ⟨some 96, none, .op (.beq true (.tmp 90) (.tmp 95))⟩]

def c4_18 : C := .reg [⟨some 6, none, .op (.mv (.const (.bool false)))⟩]

def c4_19 : C := .reg [⟨some 74, none, .op (.mv (.tmp 14))⟩,
    ⟨some 75, none, .op (.bin .add (.tmp 74) (.const (.int .i64 1)))⟩,
    ⟨some 14, none, .op (.mv (.tmp 75))⟩]

def c4_20 : C := .reg [⟨some 97, none, .call 11 []⟩,
    ⟨some 6, none, .op (.mv (.tmp 97))⟩]

def c4 : Fn' := ⟨(.seq c4_0 (.seq (.seq c4_1 (.cond (.tmp 18) (.seq c4_2 (.seq c4_3 .ret)) .skip)) (.seq (.seq c4_4 (.cond (.tmp 45) (.seq c4_5 .ret) .skip)) (.seq c4_6 (.seq (.seq c4_7 (.cond (.tmp 58) (.seq c4_8 .ret) .skip)) (.seq c4_9 (.seq (.seq c4_10 (.cond (.tmp 67) (.seq c4_11 .ret) .skip)) (.seq (.seq c4_12 (.block 0 (.loop (.seq (.seq c4_13 (.cond (.tmp 73) .skip (.exit 0))) (.seq (.block 1 (.seq c4_14 (.seq c4_15 (.seq c4_16 (.seq c4_17 (.cond (.tmp 96) (.seq c4_18 .ret) .skip)))))) c4_19))))) (.seq c4_20 .ret))))))))), [.tmp 6]⟩

theorem comp4 : compFn Try.prog 4 = some c4 := by kernel_rfl

def c5_0 : C := .reg [⟨some 4, none, .op (.mv (.const (.bool false)))⟩]

def c5_1 : C := .reg [⟨some 10, none, .op (.mv (.tmp 0))⟩,
    ⟨some 11, none, .op (.mv (.tmp 1))⟩,
    ⟨some 12, none, .call 17 [.tmp 10, .tmp 11]⟩,
    ⟨some 9, none, .op (.mv (.tmp 12))⟩,
    ⟨some 13, none, .op (.ext (.tmp 9) 0)⟩,
    ⟨some 14, none, .op (.ext (.tmp 9) 1)⟩,
    ⟨some 5, none, .op (.mv (.tmp 13))⟩,
    ⟨some 6, none, .op (.mv (.tmp 14))⟩]

def c5_2 : C := .reg [⟨some 15, none, .op (.mv (.tmp 1))⟩,
    ⟨some 16, none, .op (.bin .lss (.tmp 15) (.const (.int .i64 0)))⟩]

def c5_3 : C := .reg [⟨some 17, none, .op (.mv (.tmp 5))⟩,
    ⟨some 18, none, .op (.len (.tmp 17))⟩,
    ⟨some 19, none, .op (.bin .eql (.tmp 18) (.const (.int .i64 0)))⟩,
    ⟨some 20, none, .op (.mv (.tmp 19))⟩,
    ⟨some 21, (some (20, true)), .op (.mv (.tmp 6))⟩,
    ⟨some 22, (some (20, true)), .op (.bin .eql (.tmp 21) (.const (.int .i64 2)))⟩,
    ⟨some 23, none, .op (.pick (.tmp 20) (.tmp 22) (.const (.bool false)))⟩,
    ⟨some 24, none, .op (.mv (.tmp 23))⟩,
    ⟨some 25, (some (24, true)), .call 11 []⟩,
    ⟨some 26, none, .op (.pick (.tmp 24) (.tmp 25) (.const (.bool false)))⟩,
    ⟨some 4, none, .op (.mv (.tmp 26))⟩]

def c5_4 : C := .reg [⟨some 27, none, .op (.mv (.tmp 1))⟩,
    ⟨some 28, none, .op (.mv (.tmp 0))⟩,
    ⟨some 29, none, .op (.len (.tmp 28))⟩,
    ⟨some 30, none, .op (.bin .geq (.tmp 27) (.tmp 29))⟩]

def c5_5 : C := .reg [⟨some 31, none, .op (.mv (.tmp 5))⟩,
    ⟨some 32, none, .op (.len (.tmp 31))⟩,
    ⟨some 33, none, .op (.bin .eql (.tmp 32) (.const (.int .i64 0)))⟩,
    ⟨some 34, none, .op (.mv (.tmp 33))⟩,
    ⟨some 35, (some (34, true)), .op (.mv (.tmp 6))⟩,
    ⟨some 36, (some (34, true)), .op (.bin .eql (.tmp 35) (.const (.int .i64 0)))⟩,
    ⟨some 37, none, .op (.pick (.tmp 34) (.tmp 36) (.const (.bool false)))⟩,
    ⟨some 38, none, .op (.mv (.tmp 37))⟩,
    ⟨some 39, (some (38, true)), .call 11 []⟩,
    ⟨some 40, none, .op (.pick (.tmp 38) (.tmp 39) (.const (.bool false)))⟩,
    ⟨some 4, none, .op (.mv (.tmp 40))⟩]

def c5_6 : C := .regD 0 [⟨0, ⟨some 41, none, .op (.mv (.tmp 5))⟩, none, []⟩,
    ⟨1, ⟨some 42, none, .op (.len (.tmp 41))⟩, none, []⟩,
    ⟨2, ⟨some 43, none, .op (.bin .neq (.tmp 42) (.const (.int .i64 1)))⟩, none, []⟩,
    ⟨3, ⟨some 44, none, .op (.mv (.tmp 43))⟩, none, []⟩,
    ⟨4, ⟨some 45, (some (44, false)), .op (.mv (.tmp 5))⟩, none, []⟩,
    ⟨5, ⟨some 46, (some (44, false)), .op (.ia 1 (.tmp 45) (.const (.int .i64 0)))⟩, none, []⟩,
    ⟨6, ⟨some 47, (some (44, false)), .op (.ld none (.tmp 46))⟩, none, []⟩,
    ⟨7, ⟨some 48, (some (44, false)), .op (.mv (.tmp 0))⟩, none, []⟩,
    ⟨8, ⟨some 49, (some (44, false)), .op (.mv (.tmp 1))⟩, none, []⟩,
    ⟨9, ⟨some 50, (some (44, false)), .op (.ia 1 (.tmp 48) (.tmp 49))⟩, none, []⟩,
    ⟨10, ⟨some 51, (some (44, false)), .op (.ld none (.tmp 50))⟩, none, []⟩,
    ⟨11, ⟨some 52, (some (44, false)), .op (.un .neg (.tmp 51))⟩, none, []⟩,
    ⟨12, ⟨some 53, (some (44, false)), .op (.bin .neq (.tmp 47) (.tmp 52))⟩, none, []⟩,
    ⟨13, ⟨some 54, none, .op (.pick (.tmp 44) (.const (.bool true)) (.tmp 53))⟩, none, []⟩,
    ⟨14, ⟨some 55, none, .op (.mv (.tmp 54))⟩, none, []⟩,
    ⟨15, ⟨some 56, (some (55, false)), .op (.mv (.tmp 6))⟩, none, []⟩,
    ⟨16, ⟨some 57, (some (55, false)), .op (.bin .neq (.tmp 56) (.const (.int .i64 0)))⟩, none, []⟩,
    ⟨17, ⟨some 58, none, .op (.pick (.tmp 55) (.const (.bool true)) (.tmp 57))⟩, none, []⟩]

def c5_7 : C := .reg [⟨some 4, none, .op (.mv (.const (.bool false)))⟩]

def c5_8 : C := .reg [⟨some 59, none, .op (.mv (.tmp 5))⟩,
    ⟨some 60, none, .op (.ia 1 (.tmp 59) (.const (.int .i64 0)))⟩,
    ⟨none, none, .op (.st 1 (.tmp 60) (.const (.int .i64 0)))⟩]

def c5_9 : C := .reg [⟨some 62, none, .op (.mv (.tmp 0))⟩,
    ⟨some 63, none, .op (.mv (.tmp 1))⟩,
    ⟨some 64, none, .call 17 [.tmp 62, .tmp 63]⟩,
    ⟨some 61, none, .op (.mv (.tmp 64))⟩,
    ⟨some 65, none, .op (.ext (.tmp 61) 0)⟩,
    ⟨some 66, none, .op (.ext (.tmp 61) 1)⟩,
    ⟨some 7, none, .op (.mv (.tmp 65))⟩,
    ⟨some 8, none, .op (.mv (.tmp 66))⟩]

def c5_10 : C := .regD 0 [⟨0, ⟨some 67, none, .op (.mv (.tmp 7))⟩, none, []⟩,
    ⟨1, ⟨some 68, none, .op (.len (.tmp 67))⟩, none, []⟩,
    ⟨2, ⟨some 69, none, .op (.bin .eql (.tmp 68) (.const (.int .i64 1)))⟩, none, []⟩,
    ⟨3, ⟨some 70, none, .op (.mv (.tmp 69))⟩, none, []⟩,
    ⟨4, ⟨some 71, (some (70, true)), .op (.mv (.tmp 7))⟩, none, []⟩,
    ⟨5, ⟨some 72, (some (70, true)), .op (.ia 1 (.tmp 71) (.const (.int .i64 0)))⟩, none, []⟩,
    ⟨6, ⟨some 73, (some (70, true)), .op (.ld none (.tmp 72))⟩, none, []⟩,
    ⟨7, ⟨some 74, (some (70, true)), .op (.mv (.tmp 0))⟩, none, []⟩,
    ⟨8, ⟨some 75, (some (70, true)), .op (.mv (.tmp 1))⟩, none, []⟩,
    ⟨9, ⟨some 76, (some (70, true)), .op (.ia 1 (.tmp 74) (.tmp 75))⟩, none, []⟩,
    ⟨10, ⟨some 77, (some (70, true)), .op (.ld none (.tmp 76))⟩, none, []⟩,
    ⟨11, ⟨some 78, (some (70, true)), .op (.un .neg (.tmp 77))⟩, none, []⟩,
    ⟨12, ⟨some 79, (some (70, true)), .op (.bin .eql (.tmp 73) (.tmp 78))⟩, none, []⟩,
    ⟨13, ⟨some 80, none, .op (.pick (.tmp 70) (.tmp 79) (.const (.bool false)))⟩, none, []⟩,
    ⟨14, ⟨some 81, none, .op (.mv (.tmp 80))⟩, none, []⟩,
    ⟨15, ⟨some 82, (some (81, true)), .call 11 []⟩, none, []⟩,
    ⟨16, ⟨some 83, none, .op (.pick (.tmp 81) (.tmp 82) (.const (.bool false)))⟩, none, []⟩,
    ⟨17, ⟨some 4, none, .op (.mv (.tmp 83))⟩, none, []⟩]

def c5 : Fn' := ⟨(.seq c5_0 (.seq c5_1 (.seq (.seq c5_2 (.cond (.tmp 16) (.seq c5_3 .ret) .skip)) (.seq (.seq c5_4 (.cond (.tmp 30) (.seq c5_5 .ret) .skip)) (.seq (.seq c5_6 (.cond (.tmp 58) (.seq c5_7 .ret) .skip)) (.seq c5_8 (.seq c5_9 (.seq c5_10 .ret)))))))), [.tmp 4]⟩

theorem comp5 : compFn Try.prog 5 = some c5 := by kernel_rfl

def c9_0 : C := .reg [⟨some 5, none, .op (.box (.tmp 2))⟩,
    ⟨some 6, none, .op (.mv (.const (.slice none 0 0)))⟩,
    ⟨some 7, none, .op (.mv (.const (.slice none 0 0)))⟩,
    ⟨some 8, none, .op (.mv (.const (.int .i64 0)))⟩,
    ⟨some 9, none, .op (.mv (.const (.int .i64 0)))⟩]

def c9_1 : C := .reg [⟨some 12, none, .op (.mv (.tmp 0))⟩,
    ⟨some 13, none, .op (.fn 31 [] [.tmp 5])⟩,
    ⟨some 14, none, .call 30 [.tmp 12, .tmp 13]⟩,
    ⟨some 10, none, .op (.mv (.tmp 14))⟩]

def c9_2 : C := .reg [⟨some 16, none, .op (.mv (.tmp 10))⟩,
    ⟨some 15, none, .op (.mv (.tmp 16))⟩]

def c9_3 : C := .reg [⟨some 17, none, .op (.ld none (.tmp 5))⟩,
    ⟨some 18, none, .op (.bin .lss (.tmp 17) (.const (.int .i64 1)))⟩,
    ⟨some 15, none, .op (.mv (.tmp 18))⟩]

def c9_4 : C := .reg [⟨some 19, none, .op (.ld none (.tmp 5))⟩,
    ⟨some 20, none, .op (.bin .gtr (.tmp 19) (.const (.int .i64 4194304)))⟩,
    ⟨some 15, none, .op (.mv (.tmp 20))⟩]

def c9_5 : C := .reg [⟨some 21, none, .op (.mv (.tmp 0))⟩,
    ⟨some 22, none, .op (.len (.tmp 21))⟩,
    ⟨some 23, none, .op (.bin .gtr (.tmp 22) (.const (.int .i64 4096)))⟩,
    ⟨some 15, none, .op (.mv (.tmp 23))⟩]

def c9_6 : C := .reg [⟨some 24, none, .op (.mv (.tmp 1))⟩,
    ⟨some 25, none, .op (.bin .lss (.tmp 24) (.const (.int .i64 0)))⟩,
    ⟨some 15, none, .op (.mv (.tmp 25))⟩]

def c9_7 : C := .reg [⟨some 6, none, .op (.mv (.const (.slice none 0 0)))⟩,
    ⟨some 7, none, .op (.mv (.const (.slice none 0 0)))⟩,
    ⟨some 8, none, .op (.mv (.const (.int .i64 0)))⟩,
    ⟨some 9, none, .op (.mv (.const (.int .i64 2)))⟩]

def c9_8 : C := .reg [⟨some 27, none, .op (.mv (.tmp 1))⟩,
    ⟨some 28, none, .op (.bin .eql (.tmp 27) (.const (.int .i64 0)))⟩,
    ⟨some 29, none, .op (.mv (.tmp 28))⟩,
    ⟨some 30, (some (29, false)), .op (.mv (.tmp 0))⟩,
    ⟨some 31, (some (29, false)), .op (.len (.tmp 30))⟩,
    ⟨some 32, (some (29, false)), .op (.bin .eql (.tmp 31) (.const (.int .i64 0)))⟩,
    ⟨some 33, none, .op (.pick (.tmp 29) (.const (.bool true)) (.tmp 32))⟩,
    ⟨some 26, none, .op (.mv (.tmp 33))⟩]

def c9_9 : C := .regD 0 [⟨0, ⟨some 34, none, .op (.ld none (.tmp 5))⟩, none, []⟩,
    ⟨1, ⟨some 6, none, .op (.mv (.const (.slice none 0 0)))⟩, none, []⟩,
    ⟨2, ⟨some 7, none, .op (.mv (.const (.slice none 0 0)))⟩, none, []⟩,
    ⟨3, ⟨some 8, none, .op (.mv (.tmp 34))⟩, none, []⟩,
    ⟨4, ⟨some 9, none, .op (.mv (.const (.int .i64 0)))⟩, none, []⟩]

def c9_10 : C := .reg [⟨some 35, none, .op (.mv (.tmp 1))⟩,
    ⟨some 36, none, .op (.mv (.tmp 0))⟩,
    ⟨some 37, none, .op (.len (.tmp 36))⟩,
    ⟨some 38, none, .op (.mm false (.tmp 35) [.tmp 37])⟩,
    ⟨some 39, none, .op (.ld none (.tmp 5))⟩,
    ⟨some 40, none, .op (.mk [(.slice none 0 0), (.int .i64 0), (.int .i64 0), (.bool false)] [(1, 1, .tmp 38), (2, 1, .tmp 39)])⟩,
    ⟨some 41, none, .op (.box (.tmp 40))⟩,
    ⟨some 11, none, .op (.mv (.tmp 41))⟩]

def c9_11 : C := .reg [⟨some 42, none, .op (.mv (.tmp 11))⟩,
    ⟨some 43, none, .op (.mv (.tmp 0))⟩,
    ⟨some 44, none, .call 32 [.tmp 42, .tmp 43]⟩,
    ⟨some 7, none, .op (.mv (.tmp 44))⟩]

def c9_12 : C := .reg [⟨some 45, none, .op (.mv (.tmp 11))⟩,
    ⟨some 46, none, .op (.nn (.tmp 45))⟩,
    ⟨some 47, none, .op (.fa 3 (.tmp 46))⟩,
    ⟨some 48, none, .op (.ld none (.tmp 47))⟩]

def c9_13 : C := .reg [⟨some 6, none, .op (.mv (.const (.slice none 0 0)))⟩,
    ⟨some 7, none, .op (.mv (.const (.slice none 0 0)))⟩,
    ⟨some 8, none, .op (.mv (.const (.int .i64 0)))⟩,
    ⟨some 9, none, .op (.mv (.const (.int .i64 3)))⟩]

def c9_14 : C := .regD 0 [⟨0, ⟨some 49, none, .op (.mv (.tmp 11))⟩, none, []⟩,
    ⟨1, ⟨some 50, none, .op (.nn (.tmp 49))⟩, none, []⟩,
    ⟨2, ⟨some 51, none, .op (.fa 0 (.tmp 50))⟩, none, []⟩,
    ⟨3, ⟨some 52, none, .op (.ld none (.tmp 51))⟩, none, []⟩,
    ⟨4, ⟨some 53, none, .op (.mv (.tmp 7))⟩, none, []⟩,
    ⟨5, ⟨some 54, none, .op (.mv (.tmp 11))⟩, none, []⟩,
    ⟨6, ⟨some 55, none, .op (.nn (.tmp 54))⟩, none, []⟩,
    ⟨7, ⟨some 56, none, .op (.fa 2 (.tmp 55))⟩, none, []⟩,
    ⟨8, ⟨some 57, none, .op (.ld none (.tmp 56))⟩, none, []⟩,
    ⟨9, ⟨some 6, none, .op (.mv (.tmp 52))⟩, none, []⟩,
    ⟨10, ⟨some 7, none, .op (.mv (.tmp 53))⟩, none, []⟩,
    ⟨11, ⟨some 8, none, .op (.mv (.tmp 57))⟩, none, []⟩,
    ⟨12, ⟨some 9, none, .op (.mv (.const (.int .i64 0)))⟩, none, []⟩]

def c9 : Fn' := ⟨(.seq c9_0 (.seq c9_1 (.seq (.block 0 (.seq (.seq c9_2 (.cond (.tmp 15) .skip (.seq c9_3 (.cond (.tmp 15) .skip (.seq c9_4 (.cond (.tmp 15) .skip (.seq c9_5 (.cond (.tmp 15) .skip c9_6)))))))) (.cond (.tmp 15) (.seq c9_7 .ret) (.seq c9_8 (.cond (.tmp 26) (.seq c9_9 .ret) .skip))))) (.seq c9_10 (.seq (.seq c9_11 (.seq c9_12 (.cond (.tmp 48) (.seq c9_13 .ret) .skip))) (.seq c9_14 .ret)))))), [.tmp 6, .tmp 7, .tmp 8, .tmp 9]⟩

theorem comp9 : compFn Try.prog 9 = some c9 := by kernel_rfl

def c10_0 : C := .reg [⟨some 4, none, .op (.mv (.const (.bool false)))⟩]

def c10_1 : C := .reg [⟨some 7, none, .op (.mv (.tmp 0))⟩,
    ⟨some 8, none, .op (.len (.tmp 7))⟩,
    ⟨some 9, none, .op (.mv (.const (.int .i64 0)))⟩]

def c10_2 : C := .reg [⟨some 10, none, .op (.bin .lss (.tmp 9) (.tmp 8))⟩]

def c10_3 : C := .reg [⟨some 11, none, .op (.mv (.tmp 9))⟩,
    ⟨some 12, none, .op (.ia 1 (.tmp 7) (.tmp 9))⟩,
    ⟨some 13, none, .op (.ld none (.tmp 12))⟩,
    ⟨some 5, none, .op (.mv (.tmp 11))⟩,
    ⟨some 6, none, .op (.mv (.tmp 13))⟩]

def c10_4 : C := .reg [⟨some 14, none, .op (.mv (.tmp 5))⟩,
    ⟨some 15, none, .op (.mv (.tmp 1))⟩,
    ⟨some 16, none, .op (.len (.tmp 15))⟩,
    ⟨some 17, none, .op (.bin .geq (.tmp 14) (.tmp 16))⟩,
    ⟨some 18, none, .op (.mv (.tmp 17))⟩,
    ⟨some 19, (some (18, false)), .op (.mv (.tmp 1))⟩,
    ⟨some 20, (some (18, false)), .op (.mv (.tmp 5))⟩,
    ⟨some 21, (some (18, false)), .op (.ia 1 (.tmp 19) (.tmp 20))⟩,
    ⟨some 22, (some (18, false)), .op (.ld none (.tmp 21))⟩,
    ⟨some 23, (some (18, false)), .op (.mv (.tmp 6))⟩,
    ⟨some 24, (some (18, false)), .op (.bin .neq (.tmp 22) (.tmp 23))⟩,
    ⟨some 25, none, .op (.pick (.tmp 18) (.const (.bool true)) (.tmp 24))⟩]

def c10_5 : C := .reg [⟨some 4, none, .op (.mv (.const (.bool false)))⟩]

def c10_6 : C := .reg [⟨some 26, none, .op (.bin .add (.tmp 9) (.const (.int .i64 1)))⟩,
    ⟨some 9, none, .op (.mv (.tmp 26))⟩]

def c10_7 : C := .reg [⟨some 27, none, .op (.mv (.tmp 0))⟩,
    ⟨some 28, none, .op (.len (.tmp 27))⟩,
    ⟨some 29, none, .op (.mv (.tmp 1))⟩,
    ⟨some 30, none, .op (.len (.tmp 29))⟩,
    ⟨some 31, none, .op (.bin .eql (.tmp 28) (.tmp 30))⟩,
    ⟨some 4, none, .op (.mv (.tmp 31))⟩]

def c10 : Fn' := ⟨(.seq c10_0 (.seq (.seq c10_1 (.block 0 (.loop (.seq c10_2 (.seq (.cond (.tmp 10) .skip (.exit 0)) (.seq (.block 1 (.seq c10_3 (.seq c10_4 (.cond (.tmp 25) (.seq c10_5 .ret) .skip)))) c10_6)))))) (.seq c10_7 .ret))), [.tmp 4]⟩

theorem comp10 : compFn Try.prog 10 = some c10 := by kernel_rfl

def c12_0 : C := .reg [⟨some 4, none, .op (.mv (.const (.bool false)))⟩]

def c12_1 : C := .reg [⟨some 5, none, .op (.mv (.const (.int .i64 0)))⟩]

def c12_2 : C := .reg [⟨some 6, none, .op (.mv (.tmp 5))⟩,
    ⟨some 7, none, .op (.mv (.tmp 0))⟩,
    ⟨some 8, none, .op (.len (.tmp 7))⟩,
    ⟨some 9, none, .op (.bin .lss (.tmp 6) (.tmp 8))⟩]

def c12_3 : C := .reg [⟨some 12, none, .op (.mv (.tmp 0))⟩,
    ⟨some 13, none, .op (.mv (.tmp 5))⟩,
    ⟨some 14, none, .op (.ia 1 (.tmp 12) (.tmp 13))⟩,
    ⟨some 15, none, .op (.ld none (.tmp 14))⟩,
    ⟨some 16, none, .op (.mv (.tmp 1))⟩,
    ⟨some 17, none, .call 33 [.tmp 15, .tmp 16]⟩,
    ⟨some 18, none, .op (.un .not (.tmp 17))⟩]

def c12_4 : C := .reg [⟨some 4, none, .op (.mv (.const (.bool false)))⟩]

def c12_5 : C := .reg [⟨some 10, none, .op (.mv (.tmp 5))⟩,
    ⟨some 11, none, .op (.bin .add (.tmp 10) (.const (.int .i64 1)))⟩,
    ⟨some 5, none, .op (.mv (.tmp 11))⟩]

def c12_6 : C := .reg [⟨some 19, none, .op (.mv (.tmp 0))⟩,
    ⟨some 20, none, .op (.len (.tmp 19))⟩,
    ⟨some 21, none, .op (.bin .leq (.tmp 20) (.const (.int .i64 1048576)))⟩,
    ⟨some 22, none, .op (.mv (.tmp 21))⟩,
    ⟨some 23, (some (22, true)), .op (.mv (.tmp 1))⟩,
    ⟨some 24, (some (22, true)), .op (.bin .geq (.tmp 23) (.const (.int .i64 0)))⟩,
    ⟨some 25, none, .op (.pick (.tmp 22) (.tmp 24) (.const (.bool false)))⟩,
    ⟨some 26, none, .op (.mv (.tmp 25))⟩,
    ⟨some 27, (some (26, true)), .op (.mv (.tmp 1))⟩,
    ⟨some 28, (some (26, true)), .op (.bin .leq (.tmp 27) (.const (.int .i64 4194304)))⟩,
    ⟨some 29, none, .op (.pick (.tmp 26) (.tmp 28) (.const (.bool false)))⟩,
    ⟨some 4, none, .op (.mv (.tmp 29))⟩]

def c12 : Fn' := ⟨(.seq c12_0 (.seq (.seq c12_1 (.block 0 (.loop (.seq (.seq c12_2 (.cond (.tmp 9) .skip (.exit 0))) (.seq (.block 1 (.seq c12_3 (.cond (.tmp 18) (.seq c12_4 .ret) .skip))) c12_5))))) (.seq c12_6 .ret))), [.tmp 4]⟩

theorem comp12 : compFn Try.prog 12 = some c12 := by kernel_rfl

def c13_0 : C := .reg [⟨some 4, none, .op (.mv (.const (.slice none 0 0)))⟩]

def c13_1 : C := .reg [⟨some 7, none, .op (.mkSl (reps 1 [(.bool false)]) 1 [(0, 1, .const (.bool false))])⟩,
    ⟨some 5, none, .op (.mv (.tmp 7))⟩]

def c13_2 : C := .reg [⟨some 6, none, .op (.mv (.const (.int .i64 0)))⟩]

def c13_3 : C := .reg [⟨some 8, none, .op (.mv (.tmp 6))⟩,
    ⟨some 9, none, .op (.mv (.tmp 1))⟩,
    ⟨some 10, none, .op (.bin .lss (.tmp 8) (.tmp 9))⟩]

def c13_4 : C := .reg [⟨some 13, none, .op (.mv (.tmp 5))⟩,
    ⟨some 14, none, .op (.mv (.tmp 0))⟩,
    ⟨some 15, none, .op (.mv (.tmp 6))⟩,
    ⟨some 16, none, .op (.conv .u64 (.tmp 15))⟩,
    ⟨some 17, none, .op (.bin .shr (.tmp 14) (.tmp 16))⟩,
    ⟨some 18, none, .op (.bin .and (.tmp 17) (.const (.int .i64 1)))⟩,
    ⟨some 19, none, .op (.bin .eql (.tmp 18) (.const (.int .i64 1)))⟩,
    ⟨some 20, none, .op (.mkSl (reps 1 [(.bool false)]) 1 [(0, 1, .tmp 19)])⟩,
    ⟨some 21, none, .op (.app 1 1 (.tmp 13) (.tmp 20))⟩,
    ⟨some 5, none, .op (.mv (.tmp 21))⟩]

def c13_5 : C := .reg [⟨some 11, none, .op (.mv (.tmp 6))⟩,
    ⟨some 12, none, .op (.bin .add (.tmp 11) (.const (.int .i64 1)))⟩,
    ⟨some 6, none, .op (.mv (.tmp 12))⟩]

def c13_6 : C := .reg [⟨some 22, none, .op (.mv (.tmp 5))⟩,
    ⟨some 4, none, .op (.mv (.tmp 22))⟩]

def c13 : Fn' := ⟨(.seq c13_0 (.seq c13_1 (.seq (.seq c13_2 (.block 0 (.loop (.seq (.seq c13_3 (.cond (.tmp 10) .skip (.exit 0))) (.seq (.block 1 c13_4) c13_5))))) (.seq c13_6 .ret)))), [.tmp 4]⟩

theorem comp13 : compFn Try.prog 13 = some c13 := by kernel_rfl

def c14_0 : C := .reg [⟨some 4, none, .op (.mv (.const (.slice none 0 0)))⟩]

def c14_1 : C := .reg [⟨some 5, none, .op (.mv (.const (.slice none 0 0)))⟩]

def c14_2 : C := .reg [⟨some 6, none, .op (.mv (.const (.int .i64 1)))⟩]

def c14_3 : C := .reg [⟨some 7, none, .op (.mv (.tmp 6))⟩,
    ⟨some 8, none, .op (.mv (.tmp 1))⟩,
    ⟨some 9, none, .op (.bin .lss (.tmp 7) (.tmp 8))⟩]

def c14_4 : C := .reg [⟨some 12, none, .op (.mv (.tmp 0))⟩,
    ⟨some 13, none, .op (.mv (.tmp 6))⟩,
    ⟨some 14, none, .op (.ia 1 (.tmp 12) (.tmp 13))⟩,
    ⟨some 15, none, .op (.ld none (.tmp 14))⟩]

def c14_5 : C := .reg [⟨some 16, none, .op (.mv (.tmp 5))⟩,
    ⟨some 17, none, .op (.mv (.tmp 6))⟩,
    ⟨some 18, none, .op (.mkSl (reps 1 [(.int .i64 0)]) 1 [(0, 1, .tmp 17)])⟩,
    ⟨some 19, none, .op (.app 1 8 (.tmp 16) (.tmp 18))⟩,
    ⟨some 5, none, .op (.mv (.tmp 19))⟩]

def c14_6 : C := .reg [⟨some 20, none, .op (.mv (.tmp 5))⟩,
    ⟨some 21, none, .op (.mv (.tmp 6))⟩,
    ⟨some 22, none, .op (.un .neg (.tmp 21))⟩,
    ⟨some 23, none, .op (.mkSl (reps 1 [(.int .i64 0)]) 1 [(0, 1, .tmp 22)])⟩,
    ⟨some 24, none, .op (.app 1 8 (.tmp 20) (.tmp 23))⟩,
    ⟨some 5, none, .op (.mv (.tmp 24))⟩]

def c14_7 : C := .reg [⟨some 10, none, .op (.mv (.tmp 6))⟩,
    ⟨some 11, none, .op (.bin .add (.tmp 10) (.const (.int .i64 1)))⟩,
    ⟨some 6, none, .op (.mv (.tmp 11))⟩]

def c14_8 : C := .reg [⟨some 25, none, .op (.mv (.tmp 5))⟩,
    ⟨some 4, none, .op (.mv (.tmp 25))⟩]

def c14 : Fn' := ⟨(.seq c14_0 (.seq c14_1 (.seq (.seq c14_2 (.block 0 (.loop (.seq (.seq c14_3 (.cond (.tmp 9) .skip (.exit 0))) (.seq (.block 1 (.seq c14_4 (.cond (.tmp 15) c14_5 c14_6))) c14_7))))) (.seq c14_8 .ret)))), [.tmp 4]⟩

theorem comp14 : compFn Try.prog 14 = some c14 := by kernel_rfl

def c15_0 : C := .reg [⟨some 6, none, .op (.mv (.const (.bool false)))⟩]

def c15_1 : C := .reg [⟨some 11, none, .op (.mv (.tmp 0))⟩,
    ⟨some 12, none, .op (.mv (.tmp 1))⟩,
    ⟨some 13, none, .op (.mv (.tmp 2))⟩,
    ⟨some 14, none, .call 34 [.tmp 11, .tmp 12, .tmp 13]⟩,
    ⟨some 10, none, .op (.mv (.tmp 14))⟩,
    ⟨some 15, none, .op (.ext (.tmp 10) 0)⟩,
    ⟨some 16, none, .op (.ext (.tmp 10) 1)⟩,
    ⟨some 7, none, .op (.mv (.tmp 15))⟩,
    ⟨some 8, none, .op (.mv (.tmp 16))⟩]

def c15_2 : C := .reg [⟨some 17, none, .op (.mv (.tmp 8))⟩,
    ⟨some 18, none, .op (.un .not (.tmp 17))⟩]

def c15_3 : C := .reg [⟨some 6, none, .op (.mv (.const (.bool false)))⟩]

def c15_4 : C := .reg [⟨some 19, none, .op (.mv (.tmp 7))⟩,
    ⟨some 20, none, .op (.mv (.tmp 2))⟩,
    ⟨some 21, none, .call 35 [.tmp 19, .tmp 20]⟩,
    ⟨some 9, none, .op (.mv (.tmp 21))⟩]

def c15_5 : C := .reg [⟨some 22, none, .op (.mv (.tmp 9))⟩,
    ⟨some 23, none, .op (.bin .eql (.tmp 22) (.const (.int .i64 0)))⟩]

def c15_6 : C := .reg [⟨some 6, none, .op (.mv (.const (.bool true)))⟩]

def c15_7 : C := .reg [⟨some 24, none, .op (.mv (.tmp 0))⟩,
    ⟨some 25, none, .op (.mv (.tmp 7))⟩,
    ⟨some 26, none, .op (.mv (.tmp 9))⟩,
    ⟨some 27, none, .call 36 [.tmp 25, .tmp 26]⟩,
    ⟨some 28, none, .op (.mv (.tmp 2))⟩,
    ⟨some 29, none, .call 15 [.tmp 24, .tmp 27, .tmp 28]⟩,
    ⟨some 30, none, .op (.mv (.tmp 29))⟩,
    ⟨some 31, (some (30, false)), .op (.mv (.tmp 0))⟩,
    ⟨some 32, (some (30, false)), .op (.mv (.tmp 7))⟩,
    ⟨some 33, (some (30, false)), .op (.mv (.tmp 9))⟩,
    ⟨some 34, (some (30, false)), .op (.un .neg (.tmp 33))⟩,
    ⟨some 35, (some (30, false)), .call 36 [.tmp 32, .tmp 34]⟩,
    ⟨some 36, (some (30, false)), .op (.mv (.tmp 2))⟩,
    ⟨some 37, (some (30, false)), .call 15 [.tmp 31, .tmp 35, .tmp 36]⟩,
    ⟨some 38, none, .op (.pick (.tmp 30) (.const (.bool true)) (.tmp 37))⟩,
    ⟨some 6, none, .op (.mv (.tmp 38))⟩]

def c15 : Fn' := ⟨(.seq c15_0 (.seq c15_1 (.seq (.seq c15_2 (.cond (.tmp 18) (.seq c15_3 .ret) .skip)) (.seq c15_4 (.seq (.seq c15_5 (.cond (.tmp 23) (.seq c15_6 .ret) .skip)) (.seq c15_7 .ret)))))), [.tmp 6]⟩

theorem comp15 : compFn Try.prog 15 = some c15 := by kernel_rfl

def c16_0 : C := .reg [⟨some 4, none, .op (.mv (.const (.int .i64 0)))⟩]

def c16_1 : C := .reg [⟨some 5, none, .op (.mv (.const (.int .i64 0)))⟩]

def c16_2 : C := .reg [⟨some 6, none, .op (.mv (.const (.int .i64 0)))⟩]

def c16_3 : C := .reg [⟨some 7, none, .op (.mv (.tmp 6))⟩,
    ⟨some 8, none, .op (.mv (.tmp 0))⟩,
    ⟨some 9, none, .op (.len (.tmp 8))⟩,
    ⟨some 10, none, .op (.bin .lss (.tmp 7) (.tmp 9))⟩]

def c16_4 : C := .reg [⟨some 13, none, .op (.mv (.tmp 0))⟩,
    ⟨some 14, none, .op (.mv (.tmp 6))⟩,
    ⟨some 15, none, .op (.ia 1 (.tmp 13) (.tmp 14))⟩,
    ⟨some 16, none, .op (.ld none (.tmp 15))⟩,
    ⟨some 17, none, .op (.mv (.tmp 1))⟩,
    ⟨some 18, none, .call 37 [.tmp 16, .tmp 17]⟩]

def c16_5 : C := .reg [⟨some 19, none, .op (.mv (.tmp 5))⟩,
    ⟨some 20, none, .op (.bin .add (.tmp 19) (.const (.int .i64 1)))⟩,
    ⟨some 5, none, .op (.mv (.tmp 20))⟩]

def c16_6 : C := .reg [⟨some 11, none, .op (.mv (.tmp 6))⟩,
    ⟨some 12, none, .op (.bin .add (.tmp 11) (.const (.int .i64 1)))⟩,
    ⟨some 6, none, .op (.mv (.tmp 12))⟩]

def c16_7 : C := .reg [⟨some 21, none, .op (.mv (.tmp 5))⟩,
    ⟨some 4, none, .op (.mv (.tmp 21))⟩]

def c16 : Fn' := ⟨(.seq c16_0 (.seq c16_1 (.seq (.seq c16_2 (.block 0 (.loop (.seq (.seq c16_3 (.cond (.tmp 10) .skip (.exit 0))) (.seq (.block 1 (.seq c16_4 (.cond (.tmp 18) c16_5 .skip))) c16_6))))) (.seq c16_7 .ret)))), [.tmp 4]⟩

theorem comp16 : compFn Try.prog 16 = some c16 := by kernel_rfl

def c17_0 : C := .reg [⟨some 4, none, .op (.mv (.const (.slice none 0 0)))⟩,
    ⟨some 5, none, .op (.mv (.const (.int .i64 0)))⟩]

def c17_1 : C := .reg [⟨some 7, none, .op (.mv (.tmp 1))⟩,
    ⟨some 8, none, .op (.bin .lss (.tmp 7) (.const (.int .i64 0)))⟩,
    ⟨some 6, none, .op (.mv (.tmp 8))⟩]

def c17_2 : C := .reg [⟨some 4, none, .op (.mv (.const (.slice none 0 0)))⟩,
    ⟨some 5, none, .op (.mv (.const (.int .i64 2)))⟩]

def c17_3 : C := .reg [⟨some 10, none, .op (.mv (.tmp 1))⟩,
    ⟨some 11, none, .op (.mv (.tmp 0))⟩,
    ⟨some 12, none, .op (.len (.tmp 11))⟩,
    ⟨some 13, none, .op (.bin .geq (.tmp 10) (.tmp 12))⟩,
    ⟨some 9, none, .op (.mv (.tmp 13))⟩]

def c17_4 : C := .reg [⟨some 4, none, .op (.mv (.const (.slice none 0 0)))⟩,
    ⟨some 5, none, .op (.mv (.const (.int .i64 0)))⟩]

def c17_5 : C := .reg [⟨some 14, none, .op (.mv (.tmp 0))⟩,
    ⟨some 15, none, .op (.mv (.tmp 1))⟩,
    ⟨some 16, none, .op (.ia 1 (.tmp 14) (.tmp 15))⟩,
    ⟨some 17, none, .op (.ld none (.tmp 16))⟩,
    ⟨some 18, none, .op (.un .neg (.tmp 17))⟩,
    ⟨some 19, none, .op (.mkSl (reps 1 [(.int .i64 0)]) 1 [(0, 1, .tmp 18)])⟩,
    ⟨some 4, none, .op (.mv (.tmp 19))⟩,
    ⟨some 5, none, .op (.mv (.const (.int .i64 0)))⟩]

def c17 : Fn' := ⟨(.seq c17_0 (.seq (.block 0 (.seq c17_1 (.cond (.tmp 6) (.seq c17_2 .ret) (.seq c17_3 (.cond (.tmp 9) (.seq c17_4 .ret) .skip))))) (.seq c17_5 .ret))), [.tmp 4, .tmp 5]⟩

theorem comp17 : compFn Try.prog 17 = some c17 := by kernel_rfl

def c30_0 : C := .reg [⟨some 4, none, .op (.mv (.const (.bool false)))⟩]

def c30_1 : C := .reg [⟨some 5, none, .op (.mv (.tmp 0))⟩,
    ⟨some 6, none, .op (.mv (.tmp 1))⟩,
    ⟨some 7, none, .call 53 [.tmp 5, .tmp 6]⟩,
    ⟨some 8, none, .op (.bin .geq (.tmp 7) (.const (.int .i64 0)))⟩,
    ⟨some 4, none, .op (.mv (.tmp 8))⟩]

def c30 : Fn' := ⟨(.seq c30_0 (.seq c30_1 .ret)), [.tmp 4]⟩

theorem comp30 : compFn Try.prog 30 = some c30 := by kernel_rfl

def c31_0 : C := .reg [⟨some 3, none, .op (.mv (.const (.bool false)))⟩]

def c31_1 : C := .reg [⟨some 4, none, .op (.mv (.tmp 0))⟩,
    ⟨some 5, none, .op (.bin .eql (.tmp 4) (.const (.int .i64 0)))⟩,
    ⟨some 6, none, .op (.mv (.tmp 5))⟩,
    ⟨some 7, (some (6, false)), .op (.mv (.tmp 0))⟩,
    ⟨some 8, (some (6, false)), .op (.ld none (.tmp 1))⟩,
    ⟨some 9, (some (6, false)), .op (.bin .geq (.tmp 7) (.tmp 8))⟩,
    ⟨some 10, none, .op (.pick (.tmp 6) (.const (.bool true)) (.tmp 9))⟩,
    ⟨some 11, none, .op (.mv (.tmp 10))⟩,
    ⟨some 12, (some (11, false)), .op (.mv (.tmp 0))⟩,
    ⟨some 13, (some (11, false)), .op (.ld none (.tmp 1))⟩,
    ⟨some 14, (some (11, false)), .op (.un .neg (.tmp 13))⟩,
    ⟨some 15, (some (11, false)), .op (.bin .leq (.tmp 12) (.tmp 14))⟩,
    ⟨some 16, none, .op (.pick (.tmp 11) (.const (.bool true)) (.tmp 15))⟩,
    ⟨some 3, none, .op (.mv (.tmp 16))⟩]

def c31 : Fn' := ⟨(.seq c31_0 (.seq c31_1 .ret)), [.tmp 3]⟩

theorem comp31 : compFn Try.prog 31 = some c31 := by kernel_rfl

def c32_0 : C := .reg [⟨some 4, none, .op (.mv (.const (.slice none 0 0)))⟩]

def c32_1 : C := .reg [⟨some 8, none, .op (.mv (.tmp 1))⟩,
    ⟨some 9, none, .op (.len (.tmp 8))⟩,
    ⟨some 10, none, .op (.bin .eql (.tmp 9) (.const (.int .i64 1)))⟩]

def c32_2 : C := .reg [⟨some 11, none, .op (.mv (.tmp 1))⟩,
    ⟨some 12, none, .call 54 [.tmp 11]⟩,
    ⟨some 4, none, .op (.mv (.tmp 12))⟩]

def c32_3 : C := .reg [⟨some 13, none, .op (.mv (.tmp 1))⟩,
    ⟨some 14, none, .op (.len (.tmp 13))⟩,
    ⟨some 15, none, .op (.bin .quo (.tmp 14) (.const (.int .i64 2)))⟩,
    ⟨some 5, none, .op (.mv (.tmp 15))⟩]

def c32_4 : C := .regD 0 [⟨0, ⟨some 16, none, .op (.mv (.tmp 0))⟩, none, []⟩,
    ⟨1, ⟨some 17, none, .op (.mv (.tmp 1))⟩, none, []⟩,
    ⟨2, ⟨some 18, none, .op (.mv (.tmp 5))⟩, none, []⟩,
    ⟨3, ⟨some 19, none, .op (.mv (.tmp 5))⟩, none, []⟩,
    ⟨4, ⟨some 20, none, .op (.slc 1 (.tmp 17) none (some (.tmp 18)) (some (.tmp 19)))⟩, none, []⟩,
    ⟨6, ⟨some 22, none, .op (.mv (.tmp 0))⟩, none, []⟩,
    ⟨7, ⟨some 23, none, .op (.mv (.tmp 1))⟩, none, []⟩,
    ⟨8, ⟨some 24, none, .op (.mv (.tmp 5))⟩, none, []⟩,
    ⟨9, ⟨some 25, none, .op (.slc 1 (.tmp 23) (some (.tmp 24)) none none)⟩, none, []⟩,
    ⟨5, ⟨some 21, none, .call 32 [.tmp 16, .tmp 20]⟩, none, []⟩,
    ⟨10, ⟨some 26, none, .call 32 [.tmp 22, .tmp 25]⟩, none, []⟩,
    ⟨11, ⟨some 6, none, .op (.mv (.tmp 21))⟩, none, []⟩,
    ⟨12, ⟨some 7, none, .op (.mv (.tmp 26))⟩, none, []⟩]

def c32_5 : C := .reg [⟨some 27, none, .op (.mv (.tmp 0))⟩,
    ⟨some 28, none, .op (.nn (.tmp 27))⟩,
    ⟨some 29, none, .op (.fa 3 (.tmp 28))⟩,
    ⟨some 30, none, .op (.ld none (.tmp 29))⟩]

def c32_6 : C := .reg [⟨some 4, none, .op (.mv (.const (.slice none 0 0)))⟩]

def c32_7 : C := .reg [⟨some 31, none, .op (.mv (.tmp 0))⟩,
    ⟨some 32, none, .op (.mv (.tmp 6))⟩,
    ⟨some 33, none, .op (.mv (.tmp 7))⟩,
    ⟨some 34, none, .call 55 [.tmp 31, .tmp 32, .tmp 33]⟩,
    ⟨some 4, none, .op (.mv (.tmp 34))⟩]

def c32 : Fn' := ⟨(.seq c32_0 (.seq (.seq c32_1 (.cond (.tmp 10) (.seq c32_2 .ret) .skip)) (.seq c32_3 (.seq c32_4 (.seq (.seq c32_5 (.cond (.tmp 30) (.seq c32_6 .ret) .skip)) (.seq c32_7 .ret)))))), [.tmp 4]⟩

theorem comp32 : compFn Try.prog 32 = some c32 := by kernel_rfl

def c33_0 : C := .reg [⟨some 4, none, .op (.mv (.const (.bool false)))⟩]

def c33_1 : C := .reg [⟨some 5, none, .op (.mv (.const (.int .i64 0)))⟩]

def c33_2 : C := .reg [⟨some 6, none, .op (.mv (.tmp 5))⟩,
    ⟨some 7, none, .op (.mv (.tmp 0))⟩,
    ⟨some 8, none, .op (.len (.tmp 7))⟩,
    ⟨some 9, none, .op (.bin .lss (.tmp 6) (.tmp 8))⟩]

def c33_3 : C := .reg [⟨some 12, none, .op (.mv (.tmp 0))⟩,
    ⟨some 13, none, .op (.mv (.tmp 5))⟩,
    ⟨some 14, none, .op (.ia 1 (.tmp 12) (.tmp 13))⟩,
    ⟨some 15, none, .op (.ld none (.tmp 14))⟩,
    ⟨some 16, none, .op (.mv (.tmp 1))⟩,
    ⟨some 17, none, .call 56 [.tmp 15, .tmp 16]⟩,
    ⟨some 18, none, .op (.un .not (.tmp 17))⟩]

def c33_4 : C := .reg [⟨some 4, none, .op (.mv (.const (.bool false)))⟩]

def c33_5 : C := .reg [⟨some 10, none, .op (.mv (.tmp 5))⟩,
    ⟨some 11, none, .op (.bin .add (.tmp 10) (.const (.int .i64 1)))⟩,
    ⟨some 5, none, .op (.mv (.tmp 11))⟩]

def c33_6 : C := .reg [⟨some 19, none, .op (.mv (.tmp 0))⟩,
    ⟨some 20, none, .op (.len (.tmp 19))⟩,
    ⟨some 21, none, .op (.bin .leq (.tmp 20) (.const (.int .i64 4096)))⟩,
    ⟨some 4, none, .op (.mv (.tmp 21))⟩]

def c33 : Fn' := ⟨(.seq c33_0 (.seq (.seq c33_1 (.block 0 (.loop (.seq (.seq c33_2 (.cond (.tmp 9) .skip (.exit 0))) (.seq (.block 1 (.seq c33_3 (.cond (.tmp 18) (.seq c33_4 .ret) .skip))) c33_5))))) (.seq c33_6 .ret))), [.tmp 4]⟩

theorem comp33 : compFn Try.prog 33 = some c33 := by kernel_rfl

def c34_0 : C := .reg [⟨some 6, none, .op (.mv (.const (.slice none 0 0)))⟩,
    ⟨some 7, none, .op (.mv (.const (.bool false)))⟩]

def c34_1 : C := .reg [⟨some 18, none, .op (.mv (.tmp 0))⟩,
    ⟨some 19, none, .op (.mv (.tmp 2))⟩,
    ⟨some 20, none, .call 12 [.tmp 18, .tmp 19]⟩,
    ⟨some 21, none, .op (.un .not (.tmp 20))⟩,
    ⟨some 22, none, .op (.mv (.tmp 21))⟩,
    ⟨some 23, (some (22, false)), .op (.mv (.tmp 1))⟩,
    ⟨some 24, (some (22, false)), .op (.mv (.tmp 2))⟩,
    ⟨some 25, (some (22, false)), .call 33 [.tmp 23, .tmp 24]⟩,
    ⟨some 26, (some (22, false)), .op (.un .not (.tmp 25))⟩,
    ⟨some 27, none, .op (.pick (.tmp 22) (.const (.bool true)) (.tmp 26))⟩]

def c34_2 : C := .reg [⟨some 6, none, .op (.mv (.const (.slice none 0 0)))⟩,
    ⟨some 7, none, .op (.mv (.const (.bool false)))⟩]

def c34_3 : C := .reg [⟨some 8, none, .op (.mv (.const (.slice none 0 0)))⟩]

def c34_4 : C := .reg [⟨some 9, none, .op (.mv (.const (.int .i64 0)))⟩]

def c34_5 : C := .reg [⟨some 28, none, .op (.mv (.tmp 9))⟩,
    ⟨some 29, none, .op (.mv (.tmp 1))⟩,
    ⟨some 30, none, .op (.len (.tmp 29))⟩,
    ⟨some 31, none, .op (.bin .lss (.tmp 28) (.tmp 30))⟩]

def c34_6 : C := .reg [⟨some 34, none, .op (.mv (.tmp 1))⟩,
    ⟨some 35, none, .op (.mv (.tmp 1))⟩,
    ⟨some 36, none, .op (.mv (.tmp 9))⟩,
    ⟨some 37, none, .op (.ia 1 (.tmp 35) (.tmp 36))⟩,
    ⟨some 38, none, .op (.ld none (.tmp 37))⟩,
    ⟨some 39, none, .op (.un .neg (.tmp 38))⟩,
    ⟨some 40, none, .call 57 [.tmp 34, .tmp 39]⟩]

def c34_7 : C := .reg [⟨some 6, none, .op (.mv (.const (.slice none 0 0)))⟩,
    ⟨some 7, none, .op (.mv (.const (.bool false)))⟩]

def c34_8 : C := .reg [⟨some 41, none, .op (.mv (.tmp 8))⟩,
    ⟨some 42, none, .op (.mv (.tmp 1))⟩,
    ⟨some 43, none, .op (.mv (.tmp 9))⟩,
    ⟨some 44, none, .op (.ia 1 (.tmp 42) (.tmp 43))⟩,
    ⟨some 45, none, .op (.ld none (.tmp 44))⟩,
    ⟨some 46, none, .call 57 [.tmp 41, .tmp 45]⟩,
    ⟨some 47, none, .op (.un .not (.tmp 46))⟩]

def c34_9 : C := .reg [⟨some 48, none, .op (.mv (.tmp 8))⟩,
    ⟨some 49, none, .op (.mv (.tmp 1))⟩,
    ⟨some 50, none, .op (.mv (.tmp 9))⟩,
    ⟨some 51, none, .op (.ia 1 (.tmp 49) (.tmp 50))⟩,
    ⟨some 52, none, .op (.ld none (.tmp 51))⟩,
    ⟨some 53, none, .call 58 [.tmp 48, .tmp 52]⟩,
    ⟨some 8, none, .op (.mv (.tmp 53))⟩]

def c34_10 : C := .reg [⟨some 32, none, .op (.mv (.tmp 9))⟩,
    ⟨some 33, none, .op (.bin .add (.tmp 32) (.const (.int .i64 1)))⟩,
    ⟨some 9, none, .op (.mv (.tmp 33))⟩]

def c34_11 : C := .reg [⟨some 54, none, .op (.mv (.tmp 8))⟩,
    ⟨some 10, none, .op (.mv (.tmp 54))⟩]

def c34_12 : C := .reg [⟨some 11, none, .op (.mv (.const (.int .i64 0)))⟩]

def c34_13 : C := .reg [⟨some 55, none, .op (.mv (.tmp 11))⟩,
    ⟨some 56, none, .op (.mv (.tmp 0))⟩,
    ⟨some 57, none, .op (.len (.tmp 56))⟩,
    ⟨some 58, none, .op (.bin .lss (.tmp 55) (.tmp 57))⟩]

def c34_14 : C := .reg [⟨some 62, none, .op (.mv (.tmp 0))⟩,
    ⟨some 63, none, .op (.mv (.tmp 11))⟩,
    ⟨some 64, none, .op (.ia 1 (.tmp 62) (.tmp 63))⟩,
    ⟨some 65, none, .op (.ld none (.tmp 64))⟩,
    ⟨some 66, none, .op (.mv (.tmp 2))⟩,
    ⟨some 67, none, .call 59 [.tmp 65, .tmp 66]⟩,
    ⟨some 61, none, .op (.mv (.tmp 67))⟩,
    ⟨some 68, none, .op (.ext (.tmp 61) 0)⟩,
    ⟨some 69, none, .op (.ext (.tmp 61) 1)⟩,
    ⟨some 70, none, .op (.ext (.tmp 61) 2)⟩,
    ⟨some 12, none, .op (.mv (.tmp 68))⟩,
    ⟨some 13, none, .op (.mv (.tmp 69))⟩,
    ⟨some 14, none, .op (.mv (.tmp 70))⟩]

def c34_15 : C := .reg [⟨some 71, none, .op (.mv (.tmp 13))⟩]

def c34_16 : C := .reg [⟨some 15, none, .op (.mv (.const (.slice none 0 0)))⟩]

def c34_17 : C := .reg [⟨some 16, none, .op (.mv (.const (.bool false)))⟩]

def c34_18 : C := .reg [⟨some 17, none, .op (.mv (.const (.int .i64 0)))⟩]

def c34_19 : C := .reg [⟨some 72, none, .op (.mv (.tmp 17))⟩,
    ⟨some 73, none, .op (.mv (.tmp 12))⟩,
    ⟨some 74, none, .op (.len (.tmp 73))⟩,
    ⟨some 75, none, .op (.bin .lss (.tmp 72) (.tmp 74))⟩]

def c34_20 : C := .reg [⟨some 78, none, .op (.mv (.tmp 16))⟩,
    ⟨some 79, none, .op (.mv (.tmp 78))⟩,
    ⟨some 80, (some (79, false)), .op (.mv (.tmp 10))⟩,
    ⟨some 81, (some (79, false)), .op (.mv (.tmp 12))⟩,
    ⟨some 82, (some (79, false)), .op (.mv (.tmp 17))⟩,
    ⟨some 83, (some (79, false)), .op (.ia 1 (.tmp 81) (.tmp 82))⟩,
    ⟨some 84, (some (79, false)), .op (.ld none (.tmp 83))⟩,
    ⟨some 85, (some (79, false)), .call 57 [.tmp 80, .tmp 84]⟩,
    ⟨some 86, none, .op (.pick (.tmp 79) (.const (.bool true)) (.tmp 85))⟩,
    ⟨some 16, none, .op (.mv (.tmp 86))⟩]

def c34_21 : C := .reg [⟨some 87, none, .op (.mv (.tmp 10))⟩,
    ⟨some 88, none, .op (.mv (.tmp 12))⟩,
    ⟨some 89, none, .op (.mv (.tmp 17))⟩,
    ⟨some 90, none, .op (.ia 1 (.tmp 88) (.tmp 89))⟩,
    ⟨some 91, none, .op (.ld none (.tmp 90))⟩,
    ⟨some 92, none, .op (.un .neg (.tmp 91))⟩,
    ⟨some 93, none, .call 57 [.tmp 87, .tmp 92]⟩,
    ⟨some 94, none, .op (.un .not (.tmp 93))⟩]

def c34_22 : C := .reg [⟨some 95, none, .op (.mv (.tmp 15))⟩,
    ⟨some 96, none, .op (.mv (.tmp 12))⟩,
    ⟨some 97, none, .op (.mv (.tmp 17))⟩,
    ⟨some 98, none, .op (.ia 1 (.tmp 96) (.tmp 97))⟩,
    ⟨some 99, none, .op (.ld none (.tmp 98))⟩,
    ⟨some 100, none, .op (.mkSl (reps 1 [(.int .i64 0)]) 1 [(0, 1, .tmp 99)])⟩,
    ⟨some 101, none, .op (.app 1 8 (.tmp 95) (.tmp 100))⟩,
    ⟨some 15, none, .op (.mv (.tmp 101))⟩]

def c34_23 : C := .reg [⟨some 76, none, .op (.mv (.tmp 17))⟩,
    ⟨some 77, none, .op (.bin .add (.tmp 76) (.const (.int .i64 1)))⟩,
    ⟨some 17, none, .op (.mv (.tmp 77))⟩]

def c34_24 : C := .reg [⟨some 102, none, .op (.mv (.tmp 15))⟩,
    ⟨some 103, none, .op (.len (.tmp 102))⟩,
    ⟨some 104, none, .op (.bin .eql (.tmp 103) (.const (.int .i64 0)))⟩]

def c34_25 : C := .reg [⟨some 6, none, .op (.mv (.const (.slice none 0 0)))⟩,
    ⟨some 7, none, .op (.mv (.const (.bool false)))⟩]

def c34_26 : C := .reg [⟨some 105, none, .op (.mv (.tmp 15))⟩,
    ⟨some 106, none, .op (.len (.tmp 105))⟩,
    ⟨some 107, none, .op (.bin .eql (.tmp 106) (.const (.int .i64 1)))⟩,
    ⟨some 108, none, .op (.mv (.tmp 107))⟩,
    ⟨some 109, (some (108, true)), .op (.mv (.tmp 16))⟩,
    ⟨some 110, (some (108, true)), .op (.un .not (.tmp 109))⟩,
    ⟨some 111, none, .op (.pick (.tmp 108) (.tmp 110) (.const (.bool false)))⟩]

def c34_27 : C := .reg [⟨some 112, none, .op (.mv (.tmp 10))⟩,
    ⟨some 113, none, .op (.mv (.tmp 15))⟩,
    ⟨some 114, none, .op (.ia 1 (.tmp 113) (.const (.int .i64 0)))⟩,
    ⟨some 115, none, .op (.ld none (.tmp 114))⟩,
    ⟨some 116, none, .call 58 [.tmp 112, .tmp 115]⟩,
    ⟨some 10, none, .op (.mv (.tmp 116))⟩]

def c34_28 : C := .reg [⟨some 59, none, .op (.mv (.tmp 11))⟩,
    ⟨some 60, none, .op (.bin .add (.tmp 59) (.const (.int .i64 1)))⟩,
    ⟨some 11, none, .op (.mv (.tmp 60))⟩]

def c34_29 : C := .reg [⟨some 117, none, .op (.mv (.tmp 10))⟩,
    ⟨some 118, none, .op (.len (.tmp 117))⟩,
    ⟨some 119, none, .op (.mv (.tmp 8))⟩,
    ⟨some 120, none, .op (.len (.tmp 119))⟩,
    ⟨some 121, none, .op (.bin .eql (.tmp 118) (.tmp 120))⟩]

def c34_30 : C := .reg [⟨some 122, none, .op (.mv (.tmp 8))⟩,
    ⟨some 6, none, .op (.mv (.tmp 122))⟩,
    ⟨some 7, none, .op (.mv (.const (.bool true)))⟩]

def c34_31 : C := .reg [⟨some 123, none, .op (.mv (.tmp 10))⟩,
    ⟨some 8, none, .op (.mv (.tmp 123))⟩]

def c34 : Fn' := ⟨(.seq c34_0 (.seq (.seq c34_1 (.cond (.tmp 27) (.seq c34_2 .ret) .skip)) (.seq c34_3 (.seq (.seq c34_4 (.block 0 (.loop (.seq (.seq c34_5 (.cond (.tmp 31) .skip (.exit 0))) (.seq (.block 1 (.seq (.seq c34_6 (.cond (.tmp 40) (.seq c34_7 .ret) .skip)) (.seq c34_8 (.cond (.tmp 47) c34_9 .skip)))) c34_10))))) (.block 2 (.loop (.block 3 (.seq c34_11 (.seq (.seq c34_12 (.block 4 (.loop (.seq (.seq c34_13 (.cond (.tmp 58) .skip (.exit 4))) (.seq (.block 5 (.seq c34_14 (.seq (.seq c34_15 (.cond (.tmp 71) (.exit 5) .skip)) (.seq c34_16 (.seq c34_17 (.seq (.seq c34_18 (.block 6 (.loop (.seq (.seq c34_19 (.cond (.tmp 75) .skip (.exit 6))) (.seq (.block 7 (.seq c34_20 (.seq c34_21 (.cond (.tmp 94) c34_22 .skip)))) c34_23))))) (.seq (.seq c34_24 (.cond (.tmp 104) (.seq c34_25 .ret) .skip)) (.seq c34_26 (.cond (.tmp 111) c34_27 .skip))))))))) c34_28))))) (.seq (.seq c34_29 (.cond (.tmp 121) (.seq c34_30 .ret) .skip)) c34_31)))))))))), [.tmp 6, .tmp 7]⟩

theorem comp34 : compFn Try.prog 34 = some c34 := by kernel_rfl

def c35_0 : C := .reg [⟨some 4, none, .op (.mv (.const (.int .i64 0)))⟩]

def c35_1 : C := .reg [⟨some 5, none, .op (.mv (.const (.int .i64 1)))⟩]

def c35_2 : C := .reg [⟨some 8, none, .op (.mv (.tmp 5))⟩,
    ⟨some 9, none, .op (.mv (.tmp 1))⟩,
    ⟨some 10, none, .op (.bin .leq (.tmp 8) (.tmp 9))⟩]

def c35_3 : C := .reg [⟨some 6, none, .op (.mv (.const (.bool false)))⟩]

def c35_4 : C := .reg [⟨some 7, none, .op (.mv (.const (.int .i64 0)))⟩]

def c35_5 : C := .reg [⟨some 13, none, .op (.mv (.tmp 7))⟩,
    ⟨some 14, none, .op (.mv (.tmp 0))⟩,
    ⟨some 15, none, .op (.len (.tmp 14))⟩,
    ⟨some 16, none, .op (.bin .lss (.tmp 13) (.tmp 15))⟩]

def c35_6 : C := .reg [⟨some 19, none, .op (.mv (.tmp 6))⟩,
    ⟨some 20, none, .op (.mv (.tmp 19))⟩,
    ⟨some 21, (some (20, false)), .op (.mv (.tmp 0))⟩,
    ⟨some 22, (some (20, false)), .op (.mv (.tmp 7))⟩,
    ⟨some 23, (some (20, false)), .op (.ia 1 (.tmp 21) (.tmp 22))⟩,
    ⟨some 24, (some (20, false)), .op (.ld none (.tmp 23))⟩,
    ⟨some 25, (some (20, false)), .op (.mv (.tmp 5))⟩,
    ⟨some 26, (some (20, false)), .op (.bin .eql (.tmp 24) (.tmp 25))⟩,
    ⟨some 27, none, .op (.pick (.tmp 20) (.const (.bool true)) (.tmp 26))⟩,
    ⟨some 28, none, .op (.mv (.tmp 27))⟩,
    ⟨some 29, (some (28, false)), .op (.mv (.tmp 0))⟩,
    ⟨some 30, (some (28, false)), .op (.mv (.tmp 7))⟩,
    ⟨some 31, (some (28, false)), .op (.ia 1 (.tmp 29) (.tmp 30))⟩,
    ⟨some 32, (some (28, false)), .op (.ld none (.tmp 31))⟩,
    ⟨some 33, (some (28, false)), .op (.mv (.tmp 5))⟩,
    ⟨some 34, (some (28, false)), .op (.un .neg (.tmp 33))⟩,
    ⟨some 35, (some (28, false)), .op (.bin .eql (.tmp 32) (.tmp 34))⟩,
    ⟨some 36, none, .op (.pick (.tmp 28) (.const (.bool true)) (.tmp 35))⟩,
    ⟨some 6, none, .op (.mv (.tmp 36))⟩]

def c35_7 : C := .reg [⟨some 17, none, .op (.mv (.tmp 7))⟩,
    ⟨some 18, none, .op (.bin .add (.tmp 17) (.const (.int .i64 1)))⟩,
    ⟨some 7, none, .op (.mv (.tmp 18))⟩]

def c35_8 : C := .reg [⟨some 37, none, .op (.mv (.tmp 6))⟩,
    ⟨some 38, none, .op (.un .not (.tmp 37))⟩]

def c35_9 : C := .reg [⟨some 39, none, .op (.mv (.tmp 5))⟩,
    ⟨some 4, none, .op (.mv (.tmp 39))⟩]

def c35_10 : C := .reg [⟨some 11, none, .op (.mv (.tmp 5))⟩,
    ⟨some 12, none, .op (.bin .add (.tmp 11) (.const (.int .i64 1)))⟩,
    ⟨some 5, none, .op (.mv (.tmp 12))⟩]

def c35_11 : C := .reg [⟨some 4, none, .op (.mv (.const (.int .i64 0)))⟩]

def c35 : Fn' := ⟨(.seq c35_0 (.seq (.seq c35_1 (.block 0 (.loop (.seq (.seq c35_2 (.cond (.tmp 10) .skip (.exit 0))) (.seq (.block 1 (.seq c35_3 (.seq (.seq c35_4 (.block 2 (.loop (.seq (.seq c35_5 (.cond (.tmp 16) .skip (.exit 2))) (.seq (.block 3 c35_6) c35_7))))) (.seq c35_8 (.cond (.tmp 38) (.seq c35_9 .ret) .skip))))) c35_10))))) (.seq c35_11 .ret))), [.tmp 4]⟩

theorem comp35 : compFn Try.prog 35 = some c35 := by kernel_rfl

def c36_0 : C := .reg [⟨some 4, none, .op (.mv (.const (.slice none 0 0)))⟩]

def c36_1 : C := .reg [⟨some 5, none, .op (.mv (.const (.slice none 0 0)))⟩]

def c36_2 : C := .reg [⟨some 6, none, .op (.mv (.tmp 5))⟩,
    ⟨some 7, none, .op (.mv (.tmp 0))⟩,
    ⟨some 8, none, .op (.app 1 8 (.tmp 6) (.tmp 7))⟩,
    ⟨some 5, none, .op (.mv (.tmp 8))⟩]

def c36_3 : C := .reg [⟨some 9, none, .op (.mv (.tmp 5))⟩,
    ⟨some 10, none, .op (.mv (.tmp 1))⟩,
    ⟨some 11, none, .op (.mkSl (reps 1 [(.int .i64 0)]) 1 [(0, 1, .tmp 10)])⟩,
    ⟨some 12, none, .op (.app 1 8 (.tmp 9) (.tmp 11))⟩,
    ⟨some 4, none, .op (.mv (.tmp 12))⟩]

def c36 : Fn' := ⟨(.seq c36_0 (.seq c36_1 (.seq c36_2 (.seq c36_3 .ret)))), [.tmp 4]⟩

theorem comp36 : compFn Try.prog 36 = some c36 := by kernel_rfl

def c37_0 : C := .reg [⟨some 4, none, .op (.mv (.const (.bool false)))⟩]

def c37_1 : C := .reg [⟨some 8, none, .op (.mv (.tmp 0))⟩,
    ⟨some 9, none, .call 60 [.tmp 8]⟩,
    ⟨some 7, none, .op (.mv (.tmp 9))⟩,
    ⟨some 10, none, .op (.ext (.tmp 7) 0)⟩,
    ⟨some 11, none, .op (.ext (.tmp 7) 1)⟩,
    ⟨some 5, none, .op (.mv (.tmp 10))⟩,
    ⟨some 6, none, .op (.mv (.tmp 11))⟩]

def c37_2 : C := .reg [⟨some 12, none, .op (.mv (.tmp 5))⟩,
    ⟨some 13, none, .op (.bin .gtr (.tmp 12) (.const (.int .i64 0)))⟩,
    ⟨some 14, none, .op (.mv (.tmp 13))⟩,
    ⟨some 15, (some (14, true)), .op (.mv (.tmp 5))⟩,
    ⟨some 16, (some (14, true)), .op (.mv (.tmp 1))⟩,
    ⟨some 17, (some (14, true)), .op (.len (.tmp 16))⟩,
    ⟨some 18, (some (14, true)), .op (.bin .lss (.tmp 15) (.tmp 17))⟩,
    ⟨some 19, none, .op (.pick (.tmp 14) (.tmp 18) (.const (.bool false)))⟩,
    ⟨some 20, none, .op (.mv (.tmp 19))⟩,
    ⟨some 21, (some (20, true)), .op (.mv (.tmp 1))⟩,
    ⟨some 22, (some (20, true)), .op (.mv (.tmp 5))⟩,
    ⟨some 23, (some (20, true)), .op (.ia 1 (.tmp 21) (.tmp 22))⟩,
    ⟨some 24, (some (20, true)), .op (.ld none (.tmp 23))⟩,
    ⟨some 25, (some (20, true)), .op (.mv (.tmp 6))⟩,
    ⟨some 26, (some (20, true)), .op (.beq true (.tmp 24) (.tmp 25))⟩,
    ⟨some 27, none, .op (.pick (.tmp 20) (.tmp 26) (.const (.bool false)))⟩,
    ⟨some 4, none, .op (.mv (.tmp 27))⟩]

def c37 : Fn' := ⟨(.seq c37_0 (.seq c37_1 (.seq c37_2 .ret))), [.tmp 4]⟩

theorem comp37 : compFn Try.prog 37 = some c37 := by kernel_rfl

def c53_0 : C := .reg [⟨some 4, none, .op (.mv (.const (.int .i64 0)))⟩]

def c53_1 : C := .reg [⟨some 6, none, .op (.mv (.tmp 0))⟩,
    ⟨some 7, none, .op (.len (.tmp 6))⟩,
    ⟨some 8, none, .op (.mv (.const (.int .i64 0)))⟩]

def c53_2 : C := .reg [⟨some 9, none, .op (.bin .lss (.tmp 8) (.tmp 7))⟩]

def c53_3 : C := .reg [⟨some 10, none, .op (.mv (.tmp 8))⟩,
    ⟨some 5, none, .op (.mv (.tmp 10))⟩]

def c53_4 : C := .reg [⟨some 11, none, .op (.mv (.tmp 1))⟩,
    ⟨some 12, none, .op (.mv (.tmp 0))⟩,
    ⟨some 13, none, .op (.mv (.tmp 5))⟩,
    ⟨some 14, none, .op (.ia 1 (.tmp 12) (.tmp 13))⟩,
    ⟨some 15, none, .op (.ld none (.tmp 14))⟩,
    ⟨some 16, none, .callv (.tmp 11) [.tmp 15]⟩]

def c53_5 : C := .reg [⟨some 17, none, .op (.mv (.tmp 5))⟩,
    ⟨some 4, none, .op (.mv (.tmp 17))⟩]

def c53_6 : C := .reg [⟨some 18, none, .op (.bin .add (.tmp 8) (.const (.int .i64 1)))⟩,
    ⟨some 8, none, .op (.mv (.tmp 18))⟩]

def c53_7 : C := .reg [⟨some 4, none, .op (.mv (.const (.int .i64 (-1))))⟩]

def c53 : Fn' := ⟨(.seq c53_0 (.seq (.seq c53_1 (.block 0 (.loop (.seq c53_2 (.seq (.cond (.tmp 9) .skip (.exit 0)) (.seq (.block 1 (.seq c53_3 (.seq c53_4 (.cond (.tmp 16) (.seq c53_5 .ret) .skip)))) c53_6)))))) (.seq c53_7 .ret))), [.tmp 4]⟩

theorem comp53 : compFn Try.prog 53 = some c53 := by kernel_rfl

def c54_0 : C := .reg [⟨some 2, none, .op (.mv (.const (.slice none 0 0)))⟩]

def c54_1 : C := .reg [⟨some 3, none, .op (.mv (.tmp 0))⟩,
    ⟨some 4, none, .op (.nil 1 false (.tmp 3) (.const (.slice none 0 0)))⟩]

def c54_2 : C := .reg [⟨some 2, none, .op (.mv (.const (.slice none 0 0)))⟩]

def c54_3 : C := .reg [⟨some 5, none, .op (.mkSl (reps 0 [(.int .i64 0)]) 0 [])⟩,
    ⟨some 6, none, .op (.mv (.tmp 0))⟩,
    ⟨some 7, none, .op (.app 1 8 (.tmp 5) (.tmp 6))⟩,
    ⟨some 2, none, .op (.mv (.tmp 7))⟩]

def c54 : Fn' := ⟨(.seq c54_0 (.seq (.seq c54_1 (.cond (.tmp 4) (.seq c54_2 .ret) .skip)) (.seq c54_3 .ret))), [.tmp 2]⟩

theorem comp54 : compFn Try.prog 54 = some c54 := by kernel_rfl

def c55_0 : C := .reg [⟨some 6, none, .op (.mv (.const (.slice none 0 0)))⟩]

def c55_1 : C := .reg [⟨some 13, none, .op (.mv (.tmp 1))⟩,
    ⟨some 14, none, .op (.len (.tmp 13))⟩,
    ⟨some 15, none, .op (.mv (.tmp 2))⟩,
    ⟨some 16, none, .op (.len (.tmp 15))⟩,
    ⟨some 17, none, .op (.bin .add (.tmp 14) (.tmp 16))⟩,
    ⟨some 18, none, .op (.mv (.tmp 0))⟩,
    ⟨some 19, none, .op (.nn (.tmp 18))⟩,
    ⟨some 20, none, .op (.fa 1 (.tmp 19))⟩,
    ⟨some 21, none, .op (.ld none (.tmp 20))⟩,
    ⟨some 22, none, .op (.mm false (.tmp 17) [.tmp 21])⟩,
    ⟨some 23, none, .op (.mkS [(.int .i64 0)] 8 (.tmp 22) (.tmp 22))⟩,
    ⟨some 7, none, .op (.mv (.tmp 23))⟩]

def c55_2 : C := .reg [⟨some 24, none, .op (.mv (.tmp 7))⟩,
    ⟨some 25, none, .op (.len (.tmp 24))⟩,
    ⟨some 26, none, .op (.mv (.const (.int .i64 0)))⟩]

def c55_3 : C := .reg [⟨some 27, none, .op (.bin .lss (.tmp 26) (.tmp 25))⟩]

def c55_4 : C := .reg [⟨some 28, none, .op (.mv (.tmp 26))⟩,
    ⟨some 8, none, .op (.mv (.tmp 28))⟩]

def c55_5 : C := .reg [⟨some 29, none, .op (.mv (.tmp 7))⟩,
    ⟨some 30, none, .op (.mv (.tmp 8))⟩,
    ⟨some 31, none, .op (.mv (.tmp 0))⟩,
    ⟨some 32, none, .op (.nn (.tmp 31))⟩,
    ⟨some 33, none, .op (.fa 2 (.tmp 32))⟩,
    ⟨some 34, none, .op (.ld none (.tmp 33))⟩,
    ⟨some 35, none, .op (.ia 1 (.tmp 29) (.tmp 30))⟩,
    ⟨none, none, .op (.st 1 (.tmp 35) (.tmp 34))⟩]

def c55_6 : C := .reg [⟨some 36, none, .op (.mv (.tmp 0))⟩,
    ⟨some 37, none, .op (.nn (.tmp 36))⟩,
    ⟨some 38, none, .op (.fa 2 (.tmp 37))⟩,
    ⟨some 39, none, .op (.ld none (.tmp 38))⟩,
    ⟨some 40, none, .op (.bin .add (.tmp 39) (.const (.int .i64 1)))⟩,
    ⟨some 41, none, .op (.nn (.tmp 36))⟩,
    ⟨some 42, none, .op (.fa 2 (.tmp 41))⟩,
    ⟨none, none, .op (.st 1 (.tmp 42) (.tmp 40))⟩]

def c55_7 : C := .reg [⟨some 43, none, .op (.bin .add (.tmp 26) (.const (.int .i64 1)))⟩,
    ⟨some 26, none, .op (.mv (.tmp 43))⟩]

def c55_8 : C := .reg [⟨some 44, none, .op (.mv (.tmp 0))⟩,
    ⟨some 45, none, .op (.nn (.tmp 44))⟩,
    ⟨some 46, none, .op (.fa 2 (.tmp 45))⟩,
    ⟨some 47, none, .op (.ld none (.tmp 46))⟩,
    ⟨some 48, none, .op (.bin .gtr (.tmp 47) (.const (.int .i64 4194305)))⟩]

def c55_9 : C := .reg [⟨some 49, none, .op (.mv (.tmp 0))⟩,
    ⟨some 50, none, .op (.nn (.tmp 49))⟩,
    ⟨some 51, none, .op (.fa 3 (.tmp 50))⟩,
    ⟨none, none, .op (.st 1 (.tmp 51) (.const (.bool true)))⟩]

def c55_10 : C := .reg [⟨some 52, none, .op (.mv (.tmp 1))⟩,
    ⟨some 53, none, .op (.len (.tmp 52))⟩,
    ⟨some 54, none, .op (.bin .add (.tmp 53) (.const (.int .i64 1)))⟩,
    ⟨some 55, none, .op (.mv (.const (.int .i64 0)))⟩]

def c55_11 : C := .reg [⟨some 56, none, .op (.bin .lss (.tmp 55) (.tmp 54))⟩]

def c55_12 : C := .reg [⟨some 57, none, .op (.mv (.tmp 55))⟩,
    ⟨some 9, none, .op (.mv (.tmp 57))⟩]

def c55_13 : C := .reg [⟨some 58, none, .op (.mv (.tmp 2))⟩,
    ⟨some 59, none, .op (.len (.tmp 58))⟩,
    ⟨some 60, none, .op (.bin .add (.tmp 59) (.const (.int .i64 1)))⟩,
    ⟨some 61, none, .op (.mv (.const (.int .i64 0)))⟩]

def c55_14 : C := .reg [⟨some 62, none, .op (.bin .lss (.tmp 61) (.tmp 60))⟩]

def c55_15 : C := .reg [⟨some 63, none, .op (.mv (.tmp 61))⟩,
    ⟨some 10, none, .op (.mv (.tmp 63))⟩]

def c55_16 : C := .reg [⟨some 64, none, .op (.mv (.tmp 0))⟩,
    ⟨some 65, none, .op (.nn (.tmp 64))⟩,
    ⟨some 66, none, .op (.fa 3 (.tmp 65))⟩,
    ⟨some 67, none, .op (.ld none (.tmp 66))⟩]

def c55_17 : C := .reg [⟨some 6, none, .op (.mv (.const (.slice none 0 0)))⟩]

def c55_18 : C := .reg [⟨some 68, none, .op (.mv (.tmp 9))⟩,
    ⟨some 69, none, .op (.mv (.tmp 10))⟩,
    ⟨some 70, none, .op (.bin .add (.tmp 68) (.tmp 69))⟩,
    ⟨some 71, none, .op (.mv (.tmp 7))⟩,
    ⟨some 72, none, .op (.len (.tmp 71))⟩,
    ⟨some 73, none, .op (.mm false (.tmp 70) [.tmp 72])⟩,
    ⟨some 11, none, .op (.mv (.tmp 73))⟩]

def c55_19 : C := .reg [⟨some 74, none, .op (.mv (.tmp 11))⟩,
    ⟨some 75, none, .op (.bin .gtr (.tmp 74) (.const (.int .i64 0)))⟩]

def c55_20 : C := .regD 1 [⟨0, ⟨some 76, none, .op (.mv (.tmp 0))⟩, none, []⟩,
    ⟨1, ⟨some 77, none, .op (.mv (.tmp 1))⟩, none, []⟩,
    ⟨2, ⟨some 78, none, .op (.mv (.tmp 9))⟩, none, []⟩,
    ⟨4, ⟨some 80, none, .op (.mv (.tmp 2))⟩, none, []⟩,
    ⟨5, ⟨some 81, none, .op (.mv (.tmp 10))⟩, none, []⟩,
    ⟨7, ⟨some 83, none, .op (.mv (.tmp 7))⟩, none, []⟩,
    ⟨8, ⟨some 84, none, .op (.mv (.tmp 11))⟩, none, []⟩,
    ⟨9, ⟨some 85, none, .op (.bin .sub (.tmp 84) (.const (.int .i64 1)))⟩, none, []⟩,
    ⟨10, ⟨some 86, none, .op (.ia 1 (.tmp 83) (.tmp 85))⟩, none, []⟩,
    ⟨11, ⟨some 87, none, .op (.ld none (.tmp 86))⟩, none, []⟩,
    ⟨3, ⟨some 79, none, .call 67 [.tmp 77, .tmp 78]⟩, none, [(none, .tmp 86, 87, none)]⟩,
    ⟨6, ⟨some 82, none, .call 67 [.tmp 80, .tmp 81]⟩, none, [(none, .tmp 86, 87, none)]⟩,
    ⟨12, ⟨some 88, none, .op (.mkSl (reps 3 [(.int .i64 0)]) 3 [(0, 1, .tmp 79), (1, 1, .tmp 82), (2, 1, .tmp 87)])⟩, some 0, []⟩,
    ⟨13, ⟨some 89, none, .call 66 [.tmp 76, .tmp 88]⟩, none, []⟩]

def c55_21 : C := .reg [⟨some 90, none, .op (.mv (.tmp 9))⟩,
    ⟨some 91, none, .op (.mv (.tmp 10))⟩,
    ⟨some 92, none, .op (.bin .add (.tmp 90) (.tmp 91))⟩,
    ⟨some 93, none, .op (.bin .add (.tmp 92) (.const (.int .i64 1)))⟩,
    ⟨some 12, none, .op (.mv (.tmp 93))⟩]

def c55_22 : C := .reg [⟨some 94, none, .op (.mv (.tmp 12))⟩,
    ⟨some 95, none, .op (.mv (.tmp 7))⟩,
    ⟨some 96, none, .op (.len (.tmp 95))⟩,
    ⟨some 97, none, .op (.bin .leq (.tmp 94) (.tmp 96))⟩]

def c55_23 : C := .regD 1 [⟨0, ⟨some 98, none, .op (.mv (.tmp 0))⟩, none, []⟩,
    ⟨1, ⟨some 99, none, .op (.mv (.tmp 1))⟩, none, []⟩,
    ⟨2, ⟨some 100, none, .op (.mv (.tmp 9))⟩, none, []⟩,
    ⟨3, ⟨some 101, none, .op (.bin .add (.tmp 100) (.const (.int .i64 1)))⟩, none, []⟩,
    ⟨5, ⟨some 103, none, .op (.mv (.tmp 2))⟩, none, []⟩,
    ⟨6, ⟨some 104, none, .op (.mv (.tmp 10))⟩, none, []⟩,
    ⟨7, ⟨some 105, none, .op (.bin .add (.tmp 104) (.const (.int .i64 1)))⟩, none, []⟩,
    ⟨9, ⟨some 107, none, .op (.mv (.tmp 7))⟩, none, []⟩,
    ⟨10, ⟨some 108, none, .op (.mv (.tmp 12))⟩, none, []⟩,
    ⟨11, ⟨some 109, none, .op (.bin .sub (.tmp 108) (.const (.int .i64 1)))⟩, none, []⟩,
    ⟨12, ⟨some 110, none, .op (.ia 1 (.tmp 107) (.tmp 109))⟩, none, []⟩,
    ⟨13, ⟨some 111, none, .op (.ld none (.tmp 110))⟩, none, []⟩,
    ⟨14, ⟨some 112, none, .op (.un .neg (.tmp 111))⟩, none, []⟩,
    ⟨4, ⟨some 102, none, .call 68 [.tmp 99, .tmp 101]⟩, none, [(none, .tmp 110, 111, none)]⟩,
    ⟨8, ⟨some 106, none, .call 68 [.tmp 103, .tmp 105]⟩, none, [(none, .tmp 110, 111, none)]⟩,
    ⟨15, ⟨some 113, none, .op (.mkSl (reps 3 [(.int .i64 0)]) 3 [(0, 1, .tmp 102), (1, 1, .tmp 106), (2, 1, .tmp 112)])⟩, some 0, []⟩,
    ⟨16, ⟨some 114, none, .call 66 [.tmp 98, .tmp 113]⟩, none, []⟩]

def c55_24 : C := .reg [⟨some 115, none, .op (.bin .add (.tmp 61) (.const (.int .i64 1)))⟩,
    ⟨some 61, none, .op (.mv (.tmp 115))⟩]

def c55_25 : C := .reg [⟨some 116, none, .op (.bin .add (.tmp 55) (.const (.int .i64 1)))⟩,
    ⟨some 55, none, .op (.mv (.tmp 116))⟩]

def c55_26 : C := .reg [⟨some 117, none, .op (.mv (.tmp 7))⟩,
    ⟨some 6, none, .op (.mv (.tmp 117))⟩]

def c55 : Fn' := ⟨(.seq c55_0 (.seq c55_1 (.seq (.seq c55_2 (.block 0 (.loop (.seq c55_3 (.seq (.cond (.tmp 27) .skip (.exit 0)) (.seq (.block 1 (.seq c55_4 (.seq c55_5 c55_6))) c55_7)))))) (.seq (.seq c55_8 (.cond (.tmp 48) c55_9 .skip)) (.seq (.seq c55_10 (.block 2 (.loop (.seq c55_11 (.seq (.cond (.tmp 56) .skip (.exit 2)) (.seq (.block 3 (.seq c55_12 (.seq c55_13 (.block 4 (.loop (.seq c55_14 (.seq (.cond (.tmp 62) .skip (.exit 4)) (.seq (.block 5 (.seq c55_15 (.seq (.seq c55_16 (.cond (.tmp 67) (.seq c55_17 .ret) .skip)) (.seq (.seq c55_18 (.seq c55_19 (.cond (.tmp 75) c55_20 .skip))) (.seq c55_21 (.seq c55_22 (.cond (.tmp 97) c55_23 .skip))))))) c55_24)))))))) c55_25)))))) (.seq c55_26 .ret)))))), [.tmp 6]⟩

theorem comp55 : compFn Try.prog 55 = some c55 := by kernel_rfl

def c56_0 : C := .reg [⟨some 4, none, .op (.mv (.const (.bool false)))⟩]

def c56_1 : C := .reg [⟨some 5, none, .op (.mv (.tmp 0))⟩,
    ⟨some 6, none, .op (.bin .neq (.tmp 5) (.const (.int .i64 0)))⟩,
    ⟨some 7, none, .op (.mv (.tmp 6))⟩,
    ⟨some 8, (some (7, true)), .op (.mv (.tmp 0))⟩,
    ⟨some 9, (some (7, true)), .op (.mv (.tmp 1))⟩,
    ⟨some 10, (some (7, true)), .op (.bin .leq (.tmp 8) (.tmp 9))⟩,
    ⟨some 11, none, .op (.pick (.tmp 7) (.tmp 10) (.const (.bool false)))⟩,
    ⟨some 12, none, .op (.mv (.tmp 11))⟩,
    ⟨some 13, (some (12, true)), .op (.mv (.tmp 0))⟩,
    ⟨some 14, (some (12, true)), .op (.mv (.tmp 1))⟩,
    ⟨some 15, (some (12, true)), .op (.un .neg (.tmp 14))⟩,
    ⟨some 16, (some (12, true)), .op (.bin .geq (.tmp 13) (.tmp 15))⟩,
    ⟨some 17, none, .op (.pick (.tmp 12) (.tmp 16) (.const (.bool false)))⟩,
    ⟨some 18, none, .op (.mv (.tmp 17))⟩,
    ⟨some 19, (some (18, true)), .op (.mv (.tmp 1))⟩,
    ⟨some 20, (some (18, true)), .op (.bin .leq (.tmp 19) (.const (.int .i64 4194304)))⟩,
    ⟨some 21, none, .op (.pick (.tmp 18) (.tmp 20) (.const (.bool false)))⟩,
    ⟨some 4, none, .op (.mv (.tmp 21))⟩]

def c56 : Fn' := ⟨(.seq c56_0 (.seq c56_1 .ret)), [.tmp 4]⟩

theorem comp56 : compFn Try.prog 56 = some c56 := by kernel_rfl

def c57_0 : C := .reg [⟨some 4, none, .op (.mv (.const (.bool false)))⟩]

def c57_1 : C := .reg [⟨some 5, none, .op (.mv (.const (.int .i64 0)))⟩]

def c57_2 : C := .reg [⟨some 6, none, .op (.mv (.tmp 5))⟩,
    ⟨some 7, none, .op (.mv (.tmp 0))⟩,
    ⟨some 8, none, .op (.len (.tmp 7))⟩,
    ⟨some 9, none, .op (.bin .lss (.tmp 6) (.tmp 8))⟩]

def c57_3 : C := .reg [⟨some 12, none, .op (.mv (.tmp 0))⟩,
    ⟨some 13, none, .op (.mv (.tmp 5))⟩,
    ⟨some 14, none, .op (.ia 1 (.tmp 12) (.tmp 13))⟩,
    ⟨some 15, none, .op (.ld none (.tmp 14))⟩,
    ⟨some 16, none, .op (.mv (.tmp 1))⟩,
    ⟨some 17, none, .op (.bin .eql (.tmp 15) (.tmp 16))⟩]

def c57_4 : C := .reg [⟨some 4, none, .op (.mv (.const (.bool true)))⟩]

def c57_5 : C := .reg [⟨some 10, none, .op (.mv (.tmp 5))⟩,
    ⟨some 11, none, .op (.bin .add (.tmp 10) (.const (.int .i64 1)))⟩,
    ⟨some 5, none, .op (.mv (.tmp 11))⟩]

def c57_6 : C := .reg [⟨some 4, none, .op (.mv (.const (.bool false)))⟩]

def c57 : Fn' := ⟨(.seq c57_0 (.seq (.seq c57_1 (.block 0 (.loop (.seq (.seq c57_2 (.cond (.tmp 9) .skip (.exit 0))) (.seq (.block 1 (.seq c57_3 (.cond (.tmp 17) (.seq c57_4 .ret) .skip))) c57_5))))) (.seq c57_6 .ret))), [.tmp 4]⟩

theorem comp57 : compFn Try.prog 57 = some c57 := by kernel_rfl

def c58_0 : C := .reg [⟨some 4, none, .op (.mv (.const (.slice none 0 0)))⟩]

def c58_1 : C := .reg [⟨some 5, none, .op (.mv (.const (.slice none 0 0)))⟩]

def c58_2 : C := .reg [⟨some 13, none, .op (.mv (.tmp 1))⟩,
    ⟨some 14, none, .call 60 [.tmp 13]⟩,
    ⟨some 12, none, .op (.mv (.tmp 14))⟩,
    ⟨some 15, none, .op (.ext (.tmp 12) 0)⟩,
    ⟨some 16, none, .op (.ext (.tmp 12) 1)⟩,
    ⟨some 6, none, .op (.mv (.tmp 15))⟩,
    ⟨some 7, none, .op (.mv (.tmp 16))⟩]

def c58_3 : C := .reg [⟨some 8, none, .op (.mv (.const (.bool false)))⟩]

def c58_4 : C := .reg [⟨some 9, none, .op (.mv (.const (.int .i64 0)))⟩]

def c58_5 : C := .reg [⟨some 17, none, .op (.mv (.tmp 9))⟩,
    ⟨some 18, none, .op (.mv (.tmp 0))⟩,
    ⟨some 19, none, .op (.len (.tmp 18))⟩,
    ⟨some 20, none, .op (.bin .lss (.tmp 17) (.tmp 19))⟩]

def c58_6 : C := .reg [⟨some 24, none, .op (.mv (.tmp 0))⟩,
    ⟨some 25, none, .op (.mv (.tmp 9))⟩,
    ⟨some 26, none, .op (.ia 1 (.tmp 24) (.tmp 25))⟩,
    ⟨some 27, none, .op (.ld none (.tmp 26))⟩,
    ⟨some 28, none, .call 60 [.tmp 27]⟩,
    ⟨some 23, none, .op (.mv (.tmp 28))⟩,
    ⟨some 29, none, .op (.ext (.tmp 23) 0)⟩,
    ⟨some 30, none, .op (.ext (.tmp 23) 1)⟩,
    ⟨some 10, none, .op (.mv (.tmp 29))⟩,
    ⟨some 11, none, .op (.mv (.tmp 30))⟩]

def c58_7 : C := .reg [⟨some 31, none, .op (.mv (.tmp 8))⟩,
    ⟨some 32, none, .op (.un .not (.tmp 31))⟩,
    ⟨some 33, none, .op (.mv (.tmp 32))⟩,
    ⟨some 34, (some (33, true)), .op (.mv (.tmp 10))⟩,
    ⟨some 35, (some (33, true)), .op (.mv (.tmp 6))⟩,
    ⟨some 36, (some (33, true)), .op (.bin .gtr (.tmp 34) (.tmp 35))⟩,
    ⟨some 37, none, .op (.pick (.tmp 33) (.tmp 36) (.const (.bool false)))⟩]

def c58_8 : C := .reg [⟨some 38, none, .op (.mv (.tmp 5))⟩,
    ⟨some 39, none, .op (.mv (.tmp 1))⟩,
    ⟨some 40, none, .op (.mkSl (reps 1 [(.int .i64 0)]) 1 [(0, 1, .tmp 39)])⟩,
    ⟨some 41, none, .op (.app 1 8 (.tmp 38) (.tmp 40))⟩,
    ⟨some 5, none, .op (.mv (.tmp 41))⟩]

def c58_9 : C := .reg [⟨some 8, none, .op (.mv (.const (.bool true)))⟩]

def c58_10 : C := .reg [⟨some 42, none, .op (.mv (.tmp 5))⟩,
    ⟨some 43, none, .op (.mv (.tmp 0))⟩,
    ⟨some 44, none, .op (.mv (.tmp 9))⟩,
    ⟨some 45, none, .op (.ia 1 (.tmp 43) (.tmp 44))⟩,
    ⟨some 46, none, .op (.ld none (.tmp 45))⟩,
    ⟨some 47, none, .op (.mkSl (reps 1 [(.int .i64 0)]) 1 [(0, 1, .tmp 46)])⟩,
    ⟨some 48, none, .op (.app 1 8 (.tmp 42) (.tmp 47))⟩,
    ⟨some 5, none, .op (.mv (.tmp 48))⟩]

def c58_11 : C := .reg [⟨some 21, none, .op (.mv (.tmp 9))⟩,
    ⟨some 22, none, .op (.bin .add (.tmp 21) (.const (.int .i64 1)))⟩,
    ⟨some 9, none, .op (.mv (.tmp 22))⟩]

def c58_12 : C := .reg [⟨some 49, none, .op (.mv (.tmp 8))⟩,
    ⟨some 50, none, .op (.un .not (.tmp 49))⟩]

def c58_13 : C := .reg [⟨some 51, none, .op (.mv (.tmp 5))⟩,
    ⟨some 52, none, .op (.mv (.tmp 1))⟩,
    ⟨some 53, none, .op (.mkSl (reps 1 [(.int .i64 0)]) 1 [(0, 1, .tmp 52)])⟩,
    ⟨some 54, none, .op (.app 1 8 (.tmp 51) (.tmp 53))⟩,
    ⟨some 5, none, .op (.mv (.tmp 54))⟩]

def c58_14 : C := .reg [⟨some 55, none, .op (.mv (.tmp 5))⟩,
    ⟨some 4, none, .op (.mv (.tmp 55))⟩]

def c58 : Fn' := ⟨(.seq c58_0 (.seq c58_1 (.seq c58_2 (.seq c58_3 (.seq (.seq c58_4 (.block 0 (.loop (.seq (.seq c58_5 (.cond (.tmp 20) .skip (.exit 0))) (.seq (.block 1 (.seq c58_6 (.seq (.seq c58_7 (.cond (.tmp 37) (.seq c58_8 c58_9) .skip)) c58_10))) c58_11))))) (.seq (.seq c58_12 (.cond (.tmp 50) c58_13 .skip)) (.seq c58_14 .ret))))))), [.tmp 4]⟩

theorem comp58 : compFn Try.prog 58 = some c58 := by kernel_rfl

def c59_0 : C := .reg [⟨some 4, none, .op (.mv (.const (.slice none 0 0)))⟩,
    ⟨some 5, none, .op (.mv (.const (.bool false)))⟩,
    ⟨some 6, none, .op (.mv (.const (.int .i64 0)))⟩]

def c59_1 : C := .reg [⟨some 9, none, .op (.mv (.tmp 0))⟩,
    ⟨some 10, none, .op (.mkSl (reps 1 [(.slice none 0 0)]) 1 [(0, 1, .tmp 9)])⟩,
    ⟨some 11, none, .op (.mv (.tmp 1))⟩,
    ⟨some 12, none, .call 12 [.tmp 10, .tmp 11]⟩,
    ⟨some 13, none, .op (.un .not (.tmp 12))⟩]

def c59_2 : C := .reg [⟨some 4, none, .op (.mv (.const (.slice none 0 0)))⟩,
    ⟨some 5, none, .op (.mv (.const (.bool false)))⟩,
    ⟨some 6, none, .op (.mv (.const (.int .i64 2)))⟩]

def c59_3 : C := .reg [⟨some 7, none, .op (.mv (.const (.slice none 0 0)))⟩]

def c59_4 : C := .reg [⟨some 8, none, .op (.mv (.const (.int .i64 0)))⟩]

def c59_5 : C := .reg [⟨some 14, none, .op (.mv (.tmp 8))⟩,
    ⟨some 15, none, .op (.mv (.tmp 0))⟩,
    ⟨some 16, none, .op (.len (.tmp 15))⟩,
    ⟨some 17, none, .op (.bin .lss (.tmp 14) (.tmp 16))⟩]

def c59_6 : C := .reg [⟨some 20, none, .op (.mv (.tmp 0))⟩,
    ⟨some 21, none, .op (.mv (.tmp 0))⟩,
    ⟨some 22, none, .op (.mv (.tmp 8))⟩,
    ⟨some 23, none, .op (.ia 1 (.tmp 21) (.tmp 22))⟩,
    ⟨some 24, none, .op (.ld none (.tmp 23))⟩,
    ⟨some 25, none, .op (.un .neg (.tmp 24))⟩,
    ⟨some 26, none, .call 57 [.tmp 20, .tmp 25]⟩]

def c59_7 : C := .reg [⟨some 4, none, .op (.mv (.const (.slice none 0 0)))⟩,
    ⟨some 5, none, .op (.mv (.const (.bool true)))⟩,
    ⟨some 6, none, .op (.mv (.const (.int .i64 0)))⟩]

def c59_8 : C := .reg [⟨some 27, none, .op (.mv (.tmp 7))⟩,
    ⟨some 28, none, .op (.mv (.tmp 0))⟩,
    ⟨some 29, none, .op (.mv (.tmp 8))⟩,
    ⟨some 30, none, .op (.ia 1 (.tmp 28) (.tmp 29))⟩,
    ⟨some 31, none, .op (.ld none (.tmp 30))⟩,
    ⟨some 32, none, .call 57 [.tmp 27, .tmp 31]⟩,
    ⟨some 33, none, .op (.un .not (.tmp 32))⟩]

def c59_9 : C := .reg [⟨some 34, none, .op (.mv (.tmp 7))⟩,
    ⟨some 35, none, .op (.mv (.tmp 0))⟩,
    ⟨some 36, none, .op (.mv (.tmp 8))⟩,
    ⟨some 37, none, .op (.ia 1 (.tmp 35) (.tmp 36))⟩,
    ⟨some 38, none, .op (.ld none (.tmp 37))⟩,
    ⟨some 39, none, .call 58 [.tmp 34, .tmp 38]⟩,
    ⟨some 7, none, .op (.mv (.tmp 39))⟩]

def c59_10 : C := .reg [⟨some 18, none, .op (.mv (.tmp 8))⟩,
    ⟨some 19, none, .op (.bin .add (.tmp 18) (.const (.int .i64 1)))⟩,
    ⟨some 8, none, .op (.mv (.tmp 19))⟩]

def c59_11 : C := .reg [⟨some 40, none, .op (.mv (.tmp 7))⟩,
    ⟨some 4, none, .op (.mv (.tmp 40))⟩,
    ⟨some 5, none, .op (.mv (.const (.bool false)))⟩,
    ⟨some 6, none, .op (.mv (.const (.int .i64 0)))⟩]

def c59 : Fn' := ⟨(.seq c59_0 (.seq (.seq c59_1 (.cond (.tmp 13) (.seq c59_2 .ret) .skip)) (.seq c59_3 (.seq (.seq c59_4 (.block 0 (.loop (.seq (.seq c59_5 (.cond (.tmp 17) .skip (.exit 0))) (.seq (.block 1 (.seq (.seq c59_6 (.cond (.tmp 26) (.seq c59_7 .ret) .skip)) (.seq c59_8 (.cond (.tmp 33) c59_9 .skip)))) c59_10))))) (.seq c59_11 .ret))))), [.tmp 4, .tmp 5, .tmp 6]⟩

theorem comp59 : compFn Try.prog 59 = some c59 := by kernel_rfl

def c60_0 : C := .reg [⟨some 2, none, .op (.mv (.const (.int .i64 0)))⟩,
    ⟨some 3, none, .op (.mv (.const (.bool false)))⟩]

def c60_1 : C := .reg [⟨some 4, none, .op (.mv (.tmp 0))⟩,
    ⟨some 5, none, .op (.bin .lss (.tmp 4) (.const (.int .i64 0)))⟩]

def c60_2 : C := .reg [⟨some 6, none, .op (.mv (.tmp 0))⟩,
    ⟨some 7, none, .op (.un .neg (.tmp 6))⟩,
    ⟨some 2, none, .op (.mv (.tmp 7))⟩,
    ⟨some 3, none, .op (.mv (.const (.bool true)))⟩]

def c60_3 : C := .reg [⟨some 8, none, .op (.mv (.tmp 0))⟩,
    ⟨some 2, none, .op (.mv (.tmp 8))⟩,
    ⟨some 3, none, .op (.mv (.const (.bool false)))⟩]

def c60 : Fn' := ⟨(.seq c60_0 (.seq (.seq c60_1 (.cond (.tmp 5) (.seq c60_2 .ret) .skip)) (.seq c60_3 .ret))), [.tmp 2, .tmp 3]⟩

theorem comp60 : compFn Try.prog 60 = some c60 := by kernel_rfl

def c66_0 : C := .reg [⟨some 4, none, .op (.mv (.tmp 0))⟩,
    ⟨some 5, none, .op (.mv (.tmp 0))⟩,
    ⟨some 6, none, .op (.nn (.tmp 5))⟩,
    ⟨some 7, none, .op (.fa 3 (.tmp 6))⟩,
    ⟨some 8, none, .op (.ld none (.tmp 7))⟩,
    ⟨some 9, none, .op (.mv (.tmp 8))⟩,
    ⟨some 10, (some (9, false)), .op (.mv (.tmp 0))⟩,
    ⟨some 11, (some (9, false)), .op (.nn (.tmp 10))⟩,
    ⟨some 12, (some (9, false)), .op (.fa 0 (.tmp 11))⟩,
    ⟨some 13, (some (9, false)), .op (.ld none (.tmp 12))⟩,
    ⟨some 14, (some (9, false)), .op (.len (.tmp 13))⟩,
    ⟨some 15, (some (9, false)), .op (.bin .eql (.tmp 14) (.const (.int .i64 1048576)))⟩,
    ⟨some 16, none, .op (.pick (.tmp 9) (.const (.bool true)) (.tmp 15))⟩,
    ⟨some 17, none, .op (.nn (.tmp 4))⟩,
    ⟨some 18, none, .op (.fa 3 (.tmp 17))⟩,
    ⟨none, none, .op (.st 1 (.tmp 18) (.tmp 16))⟩]

def c66_1 : C := .reg [⟨some 19, none, .op (.mv (.tmp 0))⟩,
    ⟨some 20, none, .op (.nn (.tmp 19))⟩,
    ⟨some 21, none, .op (.fa 3 (.tmp 20))⟩,
    ⟨some 22, none, .op (.ld none (.tmp 21))⟩,
    ⟨some 23, none, .op (.un .not (.tmp 22))⟩]

def c66_2 : C := .regD 1 [⟨0, ⟨some 24, none, .op (.mv (.tmp 0))⟩, none, []⟩,
    ⟨1, ⟨some 25, none, .op (.mv (.tmp 0))⟩, none, []⟩,
    ⟨2, ⟨some 26, none, .op (.nn (.tmp 25))⟩, none, []⟩,
    ⟨3, ⟨some 27, none, .op (.fa 0 (.tmp 26))⟩, none, []⟩,
    ⟨4, ⟨some 28, none, .op (.ld none (.tmp 27))⟩, none, []⟩,
    ⟨5, ⟨some 29, none, .op (.mv (.tmp 1))⟩, none, []⟩,
    ⟨6, ⟨some 30, none, .call 69 [.tmp 29, .func 70]⟩, none, [(none, .tmp 27, 28, none)]⟩,
    ⟨7, ⟨some 31, none, .op (.mkSl (reps 1 [(.slice none 0 0)]) 1 [(0, 1, .tmp 30)])⟩, some 0, []⟩,
    ⟨8, ⟨some 32, none, .op (.app 1 24 (.tmp 28) (.tmp 31))⟩, none, []⟩,
    ⟨9, ⟨some 33, none, .op (.nn (.tmp 24))⟩, none, []⟩,
    ⟨10, ⟨some 34, none, .op (.fa 0 (.tmp 33))⟩, none, []⟩,
    ⟨11, ⟨none, none, .op (.st 1 (.tmp 34) (.tmp 32))⟩, none, []⟩]

def c66 : Fn' := ⟨(.seq c66_0 (.seq c66_1 (.cond (.tmp 23) c66_2 .skip))), []⟩

theorem comp66 : compFn Try.prog 66 = some c66 := by kernel_rfl

def c67_0 : C := .reg [⟨some 4, none, .op (.mv (.const (.int .i64 0)))⟩]

def c67_1 : C := .reg [⟨some 5, none, .op (.mv (.tmp 1))⟩,
    ⟨some 6, none, .op (.bin .eql (.tmp 5) (.const (.int .i64 0)))⟩]

def c67_2 : C := .reg [⟨some 4, none, .op (.mv (.const (.int .i64 0)))⟩]

def c67_3 : C := .reg [⟨some 7, none, .op (.mv (.tmp 0))⟩,
    ⟨some 8, none, .op (.mv (.tmp 1))⟩,
    ⟨some 9, none, .op (.bin .sub (.tmp 8) (.const (.int .i64 1)))⟩,
    ⟨some 10, none, .op (.ia 1 (.tmp 7) (.tmp 9))⟩,
    ⟨some 11, none, .op (.ld none (.tmp 10))⟩,
    ⟨some 12, none, .op (.un .neg (.tmp 11))⟩,
    ⟨some 4, none, .op (.mv (.tmp 12))⟩]

def c67 : Fn' := ⟨(.seq c67_0 (.seq (.seq c67_1 (.cond (.tmp 6) (.seq c67_2 .ret) .skip)) (.seq c67_3 .ret))), [.tmp 4]⟩

theorem comp67 : compFn Try.prog 67 = some c67 := by kernel_rfl

def c68_0 : C := .reg [⟨some 4, none, .op (.mv (.const (.int .i64 0)))⟩]

def c68_1 : C := .reg [⟨some 5, none, .op (.mv (.tmp 1))⟩,
    ⟨some 6, none, .op (.mv (.tmp 0))⟩,
    ⟨some 7, none, .op (.len (.tmp 6))⟩,
    ⟨some 8, none, .op (.bin .gtr (.tmp 5) (.tmp 7))⟩]

def c68_2 : C := .reg [⟨some 4, none, .op (.mv (.const (.int .i64 0)))⟩]

def c68_3 : C := .reg [⟨some 9, none, .op (.mv (.tmp 0))⟩,
    ⟨some 10, none, .op (.mv (.tmp 1))⟩,
    ⟨some 11, none, .op (.bin .sub (.tmp 10) (.const (.int .i64 1)))⟩,
    ⟨some 12, none, .op (.ia 1 (.tmp 9) (.tmp 11))⟩,
    ⟨some 13, none, .op (.ld none (.tmp 12))⟩,
    ⟨some 4, none, .op (.mv (.tmp 13))⟩]

def c68 : Fn' := ⟨(.seq c68_0 (.seq (.seq c68_1 (.cond (.tmp 8) (.seq c68_2 .ret) .skip)) (.seq c68_3 .ret))), [.tmp 4]⟩

theorem comp68 : compFn Try.prog 68 = some c68 := by kernel_rfl

def c69_0 : C := .reg [⟨some 4, none, .op (.mv (.const (.slice none 0 0)))⟩]

def c69_1 : C := .reg [⟨some 8, none, .op (.mv (.tmp 0))⟩,
    ⟨some 9, none, .op (.mv (.tmp 1))⟩,
    ⟨some 10, none, .call 53 [.tmp 8, .tmp 9]⟩,
    ⟨some 5, none, .op (.mv (.tmp 10))⟩]

def c69_2 : C := .reg [⟨some 11, none, .op (.mv (.tmp 5))⟩,
    ⟨some 12, none, .op (.bin .eql (.tmp 11) (.const (.int .i64 (-1))))⟩]

def c69_3 : C := .reg [⟨some 13, none, .op (.mv (.tmp 0))⟩,
    ⟨some 4, none, .op (.mv (.tmp 13))⟩]

def c69_4 : C := .reg [⟨some 14, none, .op (.mv (.tmp 5))⟩,
    ⟨some 15, none, .op (.bin .add (.tmp 14) (.const (.int .i64 1)))⟩,
    ⟨some 6, none, .op (.mv (.tmp 15))⟩]

def c69_5 : C := .reg [⟨some 16, none, .op (.mv (.tmp 6))⟩,
    ⟨some 17, none, .op (.mv (.tmp 0))⟩,
    ⟨some 18, none, .op (.len (.tmp 17))⟩,
    ⟨some 19, none, .op (.bin .lss (.tmp 16) (.tmp 18))⟩]

def c69_6 : C := .reg [⟨some 22, none, .op (.mv (.tmp 0))⟩,
    ⟨some 23, none, .op (.mv (.tmp 6))⟩,
    ⟨some 24, none, .op (.ia 1 (.tmp 22) (.tmp 23))⟩,
    ⟨some 25, none, .op (.ld none (.tmp 24))⟩,
    ⟨some 7, none, .op (.mv (.tmp 25))⟩]

def c69_7 : C := .reg [⟨some 26, none, .op (.mv (.tmp 1))⟩,
    ⟨some 27, none, .op (.mv (.tmp 7))⟩,
    ⟨some 28, none, .callv (.tmp 26) [.tmp 27]⟩,
    ⟨some 29, none, .op (.un .not (.tmp 28))⟩]

def c69_8 : C := .reg [⟨some 30, none, .op (.mv (.tmp 0))⟩,
    ⟨some 31, none, .op (.mv (.tmp 5))⟩,
    ⟨some 32, none, .op (.mv (.tmp 7))⟩,
    ⟨some 33, none, .op (.ia 1 (.tmp 30) (.tmp 31))⟩,
    ⟨none, none, .op (.st 1 (.tmp 33) (.tmp 32))⟩]

def c69_9 : C := .reg [⟨some 34, none, .op (.mv (.tmp 5))⟩,
    ⟨some 35, none, .op (.bin .add (.tmp 34) (.const (.int .i64 1)))⟩,
    ⟨some 5, none, .op (.mv (.tmp 35))⟩]

def c69_10 : C := .reg [⟨some 20, none, .op (.mv (.tmp 6))⟩,
    ⟨some 21, none, .op (.bin .add (.tmp 20) (.const (.int .i64 1)))⟩,
    ⟨some 6, none, .op (.mv (.tmp 21))⟩]

def c69_11 : C := .reg [⟨some 36, none, .op (.mv (.tmp 0))⟩,
    ⟨some 37, none, .op (.mv (.tmp 5))⟩,
    ⟨some 38, none, .op (.slc 1 (.tmp 36) (some (.tmp 37)) none none)⟩,
    ⟨none, none, .op (.clr [(.int .i64 0)] (.tmp 38))⟩]

def c69_12 : C := .reg [⟨some 39, none, .op (.mv (.tmp 0))⟩,
    ⟨some 40, none, .op (.mv (.tmp 5))⟩,
    ⟨some 41, none, .op (.slc 1 (.tmp 39) none (some (.tmp 40)) none)⟩,
    ⟨some 4, none, .op (.mv (.tmp 41))⟩]

def c69 : Fn' := ⟨(.seq c69_0 (.seq c69_1 (.seq (.seq c69_2 (.cond (.tmp 12) (.seq c69_3 .ret) .skip)) (.seq (.seq c69_4 (.block 0 (.loop (.seq (.seq c69_5 (.cond (.tmp 19) .skip (.exit 0))) (.seq (.block 1 (.seq c69_6 (.seq c69_7 (.cond (.tmp 29) (.seq c69_8 c69_9) .skip)))) c69_10))))) (.seq c69_11 (.seq c69_12 .ret)))))), [.tmp 4]⟩

theorem comp69 : compFn Try.prog 69 = some c69 := by kernel_rfl

def c70_0 : C := .reg [⟨some 2, none, .op (.mv (.const (.bool false)))⟩]

def c70_1 : C := .reg [⟨some 3, none, .op (.mv (.tmp 0))⟩,
    ⟨some 4, none, .op (.bin .eql (.tmp 3) (.const (.int .i64 0)))⟩,
    ⟨some 2, none, .op (.mv (.tmp 4))⟩]

def c70 : Fn' := ⟨(.seq c70_0 (.seq c70_1 .ret)), [.tmp 2]⟩

theorem comp70 : compFn Try.prog 70 = some c70 := by kernel_rfl

end Go.Proofs.Ytnejnaoehcahbaa
