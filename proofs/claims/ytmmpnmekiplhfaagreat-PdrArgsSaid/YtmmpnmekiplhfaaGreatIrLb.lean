/-
  The codes of functions (Lb).
-/
import Derived.Test.YtmmpnmekiplhfaaGreatAeComp
import Derived.Test.YtmmpnmekiplhfaaGreatRows
import Derived.KernelRfl
namespace Go.Proofs.YtmmpnmekiplhfaaGreat
open Go Go.Ae

def c7_0 : C := .reg [⟨some 4, none, .op (.box (.tmp 0))⟩,
    ⟨some 6, none, .op (.box (.tmp 2))⟩,
    ⟨some 8, none, .op (.mv (.const (.bool false)))⟩]
def c7_1 : C := .reg [⟨some 23, none, .op (.ld (some 6) (.tmp 4))⟩,
    ⟨some 24, none, .op (.ld (some 1) (.tmp 6))⟩,
    ⟨some 25, none, .call 32 [.tmp 23, .tmp 24]⟩,
    ⟨some 26, none, .op (.mv (.tmp 25))⟩,
    ⟨some 27, (some (26, false)), .op (.mv (.tmp 3))⟩,
    ⟨some 28, (some (26, false)), .op (.bin .gtr (.tmp 27) (.const (.int .i64 1000)))⟩,
    ⟨some 29, (some (26, false)), .op (.mv (.tmp 28))⟩,
    ⟨some 30, (some (29, true)), .op (.mv (.tmp 3))⟩,
    ⟨some 31, (some (29, true)), .op (.bin .neq (.tmp 30) (.const (.int .i64 1048576)))⟩,
    ⟨some 32, (some (26, false)), .op (.pick (.tmp 29) (.tmp 31) (.const (.bool false)))⟩,
    ⟨some 33, none, .op (.pick (.tmp 26) (.const (.bool true)) (.tmp 32))⟩,
    ⟨some 34, none, .op (.mv (.tmp 33))⟩,
    ⟨some 35, (some (34, false)), .op (.ld (some 6) (.tmp 4))⟩,
    ⟨some 36, (some (34, false)), .op (.ld (some 1) (.tmp 6))⟩,
    ⟨some 37, (some (34, false)), .call 33 [.tmp 35, .tmp 36]⟩,
    ⟨some 38, (some (34, false)), .op (.un .not (.tmp 37))⟩,
    ⟨some 39, none, .op (.pick (.tmp 34) (.const (.bool true)) (.tmp 38))⟩,
    ⟨some 40, none, .op (.mv (.tmp 39))⟩,
    ⟨some 41, (some (40, false)), .op (.mv (.tmp 1))⟩,
    ⟨some 42, (some (40, false)), .op (.bin .lss (.tmp 41) (.const (.int .i64 0)))⟩,
    ⟨some 43, none, .op (.pick (.tmp 40) (.const (.bool true)) (.tmp 42))⟩,
    ⟨some 44, none, .op (.mv (.tmp 43))⟩,
    ⟨some 45, (some (44, false)), .op (.mv (.tmp 1))⟩,
    ⟨some 46, (some (44, false)), .op (.fa 4 (.tmp 4))⟩,
    ⟨some 47, (some (44, false)), .op (.ld none (.tmp 46))⟩,
    ⟨some 48, (some (44, false)), .op (.len (.tmp 47))⟩,
    ⟨some 49, (some (44, false)), .op (.bin .geq (.tmp 45) (.tmp 48))⟩,
    ⟨some 50, none, .op (.pick (.tmp 44) (.const (.bool true)) (.tmp 49))⟩,
    ⟨some 51, none, .op (.mv (.tmp 50))⟩,
    ⟨some 52, (some (51, false)), .op (.mv (.tmp 3))⟩,
    ⟨some 53, (some (51, false)), .op (.bin .lss (.tmp 52) (.const (.int .i64 0)))⟩,
    ⟨some 54, none, .op (.pick (.tmp 51) (.const (.bool true)) (.tmp 53))⟩]
def c7_2 : C := .reg [⟨some 55, none, .call 34 []⟩,
    ⟨some 8, none, .op (.mv (.tmp 55))⟩]
def c7_3 : C := .reg [⟨some 57, none, .op (.ld (some 6) (.tmp 4))⟩,
    ⟨some 58, none, .op (.mv (.tmp 1))⟩,
    ⟨some 59, none, .op (.ld (some 1) (.tmp 6))⟩,
    ⟨some 60, none, .op (.mv (.tmp 3))⟩,
    ⟨some 61, none, .call 35 [.tmp 57, .tmp 58, .tmp 59, .tmp 60]⟩,
    ⟨some 56, none, .op (.mv (.tmp 61))⟩,
    ⟨some 62, none, .op (.ext (.tmp 56) 0)⟩,
    ⟨some 63, none, .op (.ext (.tmp 56) 1)⟩,
    ⟨some 64, none, .op (.ext (.tmp 56) 2)⟩,
    ⟨some 65, none, .op (.ext (.tmp 56) 3)⟩,
    ⟨some 66, none, .op (.ext (.tmp 56) 4)⟩,
    ⟨some 9, none, .op (.mv (.tmp 62))⟩,
    ⟨some 10, none, .op (.mv (.tmp 63))⟩,
    ⟨some 11, none, .op (.mv (.tmp 64))⟩,
    ⟨some 12, none, .op (.mv (.tmp 65))⟩,
    ⟨some 13, none, .op (.mv (.tmp 66))⟩]
def c7_4 : C := .reg [⟨some 67, none, .op (.mv (.tmp 13))⟩,
    ⟨some 68, none, .op (.bin .neq (.tmp 67) (.const (.int .i64 0)))⟩,
    ⟨some 69, none, .op (.mv (.tmp 68))⟩,
    ⟨some 70, (some (69, false)), .op (.mv (.tmp 9))⟩,
    ⟨some 71, (some (69, false)), .op (.bin .eql (.tmp 70) (.const (.int .u8 0)))⟩,
    ⟨some 72, (some (69, false)), .op (.mv (.tmp 71))⟩,
    ⟨some 73, (some (72, true)), .op (.mv (.tmp 3))⟩,
    ⟨some 74, (some (72, true)), .op (.bin .eql (.tmp 73) (.const (.int .i64 1048576)))⟩,
    ⟨some 75, (some (69, false)), .op (.pick (.tmp 72) (.tmp 74) (.const (.bool false)))⟩,
    ⟨some 76, none, .op (.pick (.tmp 69) (.const (.bool true)) (.tmp 75))⟩]
def c7_5 : C := .reg [⟨some 8, none, .op (.mv (.const (.bool false)))⟩]
def c7_6 : C := .reg [⟨some 77, none, .op (.mv (.tmp 9))⟩,
    ⟨some 78, none, .op (.bin .neq (.tmp 77) (.const (.int .u8 2)))⟩]
def c7_7 : C := .reg [⟨some 79, none, .op (.mv (.tmp 10))⟩,
    ⟨some 80, none, .op (.bin .eql (.tmp 79) (.const (.int .i64 0)))⟩,
    ⟨some 81, none, .op (.mv (.tmp 80))⟩,
    ⟨some 82, (some (81, true)), .op (.mv (.tmp 11))⟩,
    ⟨some 83, (some (81, true)), .op (.len (.tmp 82))⟩,
    ⟨some 84, (some (81, true)), .op (.mv (.tmp 12))⟩,
    ⟨some 85, (some (81, true)), .op (.len (.tmp 84))⟩,
    ⟨some 86, (some (81, true)), .op (.bin .add (.tmp 83) (.tmp 85))⟩,
    ⟨some 87, (some (81, true)), .op (.bin .eql (.tmp 86) (.const (.int .i64 0)))⟩,
    ⟨some 88, none, .op (.pick (.tmp 81) (.tmp 87) (.const (.bool false)))⟩,
    ⟨some 89, none, .op (.mv (.tmp 88))⟩,
    ⟨some 90, (some (89, true)), .call 34 []⟩,
    ⟨some 91, none, .op (.pick (.tmp 89) (.tmp 90) (.const (.bool false)))⟩,
    ⟨some 8, none, .op (.mv (.tmp 91))⟩]
def c7_8 : C := .reg [⟨some 93, none, .op (.ld (some 6) (.tmp 4))⟩,
    ⟨some 94, none, .op (.ld (some 1) (.tmp 6))⟩,
    ⟨some 95, none, .op (.mv (.tmp 11))⟩,
    ⟨some 96, none, .call 36 [.tmp 93, .tmp 94, .tmp 95]⟩,
    ⟨some 92, none, .op (.mv (.tmp 96))⟩,
    ⟨some 97, none, .op (.ext (.tmp 92) 0)⟩,
    ⟨some 98, none, .op (.ext (.tmp 92) 1)⟩,
    ⟨some 14, none, .op (.mv (.tmp 97))⟩,
    ⟨some 15, none, .op (.mv (.tmp 98))⟩]
def c7_9 : C := .reg [⟨some 99, none, .op (.mv (.tmp 15))⟩,
    ⟨some 100, none, .op (.bin .neq (.tmp 99) (.const (.int .i64 0)))⟩,
    ⟨some 101, none, .op (.mv (.tmp 100))⟩,
    ⟨some 102, (some (101, false)), .op (.mv (.tmp 10))⟩,
    ⟨some 103, (some (101, false)), .op (.bin .eql (.tmp 102) (.const (.int .i64 1)))⟩,
    ⟨some 104, (some (101, false)), .op (.mv (.tmp 103))⟩,
    ⟨some 105, (some (104, true)), .op (.mv (.tmp 12))⟩,
    ⟨some 106, (some (104, true)), .op (.len (.tmp 105))⟩,
    ⟨some 107, (some (104, true)), .op (.bin .neq (.tmp 106) (.const (.int .i64 0)))⟩,
    ⟨some 108, (some (101, false)), .op (.pick (.tmp 104) (.tmp 107) (.const (.bool false)))⟩,
    ⟨some 109, none, .op (.pick (.tmp 101) (.const (.bool true)) (.tmp 108))⟩,
    ⟨some 110, none, .op (.mv (.tmp 109))⟩,
    ⟨some 111, (some (110, false)), .op (.mv (.tmp 10))⟩,
    ⟨some 112, (some (110, false)), .op (.bin .lss (.tmp 111) (.const (.int .i64 1)))⟩,
    ⟨some 113, none, .op (.pick (.tmp 110) (.const (.bool true)) (.tmp 112))⟩,
    ⟨some 114, none, .op (.mv (.tmp 113))⟩,
    ⟨some 115, (some (114, false)), .op (.mv (.tmp 10))⟩,
    ⟨some 116, (some (114, false)), .op (.bin .gtr (.tmp 115) (.const (.int .i64 3)))⟩,
    ⟨some 117, none, .op (.pick (.tmp 114) (.const (.bool true)) (.tmp 116))⟩]
def c7_10 : C := .reg [⟨some 8, none, .op (.mv (.const (.bool false)))⟩]
def c7_11 : C := .reg [⟨some 118, none, .op (.mv (.tmp 10))⟩,
    ⟨some 119, none, .op (.bin .eql (.tmp 118) (.const (.int .i64 1)))⟩]
def c7_12 : C := .reg [⟨some 120, none, .op (.mv (.tmp 14))⟩,
    ⟨some 121, none, .op (.un .not (.tmp 120))⟩,
    ⟨some 122, none, .op (.mv (.tmp 121))⟩,
    ⟨some 123, (some (122, true)), .op (.ld (some 6) (.tmp 4))⟩,
    ⟨some 124, (some (122, true)), .op (.mv (.tmp 11))⟩,
    ⟨some 125, (some (122, true)), .call 37 [.tmp 123, .tmp 124]⟩,
    ⟨some 126, none, .op (.pick (.tmp 122) (.tmp 125) (.const (.bool false)))⟩,
    ⟨some 127, none, .op (.mv (.tmp 126))⟩,
    ⟨some 128, (some (127, true)), .call 34 []⟩,
    ⟨some 129, none, .op (.pick (.tmp 127) (.tmp 128) (.const (.bool false)))⟩,
    ⟨some 8, none, .op (.mv (.tmp 129))⟩]
def c7_13 : C := .regD 0 [⟨0, ⟨some 131, none, .op (.ld (some 6) (.tmp 4))⟩, none, []⟩,
    ⟨1, ⟨some 132, none, .op (.mv (.tmp 11))⟩, none, []⟩,
    ⟨2, ⟨some 133, none, .op (.mv (.tmp 12))⟩, none, []⟩,
    ⟨3, ⟨some 134, none, .op (.fa 4 (.tmp 4))⟩, none, []⟩,
    ⟨4, ⟨some 135, none, .op (.ld none (.tmp 134))⟩, none, []⟩,
    ⟨5, ⟨some 136, none, .op (.mv (.tmp 1))⟩, none, []⟩,
    ⟨6, ⟨some 137, none, .op (.ia 1 (.tmp 135) (.tmp 136))⟩, none, []⟩,
    ⟨7, ⟨some 138, none, .op (.ld none (.tmp 137))⟩, none, []⟩,
    ⟨8, ⟨some 139, none, .call 38 [.tmp 131, .tmp 132, .tmp 133, .tmp 138]⟩, none, []⟩,
    ⟨9, ⟨some 130, none, .op (.mv (.tmp 139))⟩, none, []⟩,
    ⟨10, ⟨some 140, none, .op (.ext (.tmp 130) 0)⟩, none, []⟩,
    ⟨11, ⟨some 141, none, .op (.ext (.tmp 130) 1)⟩, none, []⟩,
    ⟨12, ⟨some 16, none, .op (.mv (.tmp 140))⟩, none, []⟩,
    ⟨13, ⟨some 17, none, .op (.mv (.tmp 141))⟩, none, []⟩]
def c7_14 : C := .reg [⟨some 143, none, .op (.ld (some 6) (.tmp 4))⟩,
    ⟨some 144, none, .op (.mv (.tmp 11))⟩,
    ⟨some 145, none, .op (.mv (.tmp 12))⟩,
    ⟨some 146, none, .call 39 [.tmp 143, .tmp 144, .tmp 145]⟩,
    ⟨some 142, none, .op (.mv (.tmp 146))⟩,
    ⟨some 147, none, .op (.ext (.tmp 142) 0)⟩,
    ⟨some 148, none, .op (.ext (.tmp 142) 1)⟩,
    ⟨some 149, none, .op (.ext (.tmp 142) 2)⟩,
    ⟨some 18, none, .op (.mv (.tmp 147))⟩,
    ⟨some 19, none, .op (.mv (.tmp 148))⟩,
    ⟨some 20, none, .op (.mv (.tmp 149))⟩]
def c7_15 : C := .reg [⟨some 150, none, .op (.mv (.tmp 14))⟩,
    ⟨some 151, none, .op (.un .not (.tmp 150))⟩,
    ⟨some 152, none, .op (.mv (.tmp 151))⟩,
    ⟨some 153, (some (152, false)), .op (.mv (.tmp 17))⟩,
    ⟨some 154, (some (152, false)), .op (.un .not (.tmp 153))⟩,
    ⟨some 155, none, .op (.pick (.tmp 152) (.const (.bool true)) (.tmp 154))⟩,
    ⟨some 156, none, .op (.mv (.tmp 155))⟩,
    ⟨some 157, (some (156, false)), .op (.mv (.tmp 10))⟩,
    ⟨some 158, (some (156, false)), .op (.bin .eql (.tmp 157) (.const (.int .i64 3)))⟩,
    ⟨some 159, (some (156, false)), .op (.mv (.tmp 158))⟩,
    ⟨some 160, (some (159, true)), .op (.mv (.tmp 16))⟩,
    ⟨some 161, (some (159, true)), .op (.bin .neq (.tmp 160) (.const (.int .u8 1)))⟩,
    ⟨some 162, (some (156, false)), .op (.pick (.tmp 159) (.tmp 161) (.const (.bool false)))⟩,
    ⟨some 163, none, .op (.pick (.tmp 156) (.const (.bool true)) (.tmp 162))⟩]
def c7_16 : C := .reg [⟨some 8, none, .op (.mv (.const (.bool false)))⟩]
def c7_17 : C := .reg [⟨some 165, none, .op (.ld (some 6) (.tmp 4))⟩,
    ⟨some 166, none, .op (.ld (some 1) (.tmp 6))⟩,
    ⟨some 167, none, .op (.mv (.tmp 19))⟩,
    ⟨some 168, none, .call 36 [.tmp 165, .tmp 166, .tmp 167]⟩,
    ⟨some 164, none, .op (.mv (.tmp 168))⟩,
    ⟨some 169, none, .op (.ext (.tmp 164) 0)⟩,
    ⟨some 170, none, .op (.ext (.tmp 164) 1)⟩,
    ⟨some 21, none, .op (.mv (.tmp 169))⟩,
    ⟨some 22, none, .op (.mv (.tmp 170))⟩]
def c7_18 : C := .reg [⟨some 171, none, .op (.mv (.tmp 22))⟩,
    ⟨some 172, none, .op (.bin .eql (.tmp 171) (.const (.int .i64 0)))⟩,
    ⟨some 173, none, .op (.mv (.tmp 172))⟩,
    ⟨some 174, (some (173, true)), .op (.mv (.tmp 10))⟩,
    ⟨some 175, (some (173, true)), .op (.bin .eql (.tmp 174) (.const (.int .i64 3)))⟩,
    ⟨some 176, (some (173, true)), .op (.mv (.tmp 175))⟩,
    ⟨some 177, (some (176, false)), .op (.mv (.tmp 21))⟩,
    ⟨some 178, (some (176, false)), .op (.un .not (.tmp 177))⟩,
    ⟨some 179, (some (173, true)), .op (.pick (.tmp 176) (.const (.bool true)) (.tmp 178))⟩,
    ⟨some 180, none, .op (.pick (.tmp 173) (.tmp 179) (.const (.bool false)))⟩,
    ⟨some 181, none, .op (.mv (.tmp 180))⟩,
    ⟨some 182, (some (181, true)), .call 34 []⟩,
    ⟨some 183, none, .op (.pick (.tmp 181) (.tmp 182) (.const (.bool false)))⟩,
    ⟨some 8, none, .op (.mv (.tmp 183))⟩]
def c7 : Fn' := ⟨(.seq c7_0 (.seq (.seq c7_1 (.cond (.tmp 54) (.seq c7_2 .ret) .skip)) (.seq c7_3 (.seq (.seq c7_4 (.cond (.tmp 76) (.seq c7_5 .ret) .skip)) (.seq (.seq c7_6 (.cond (.tmp 78) (.seq c7_7 .ret) .skip)) (.seq c7_8 (.seq (.seq c7_9 (.cond (.tmp 117) (.seq c7_10 .ret) .skip)) (.seq (.seq c7_11 (.cond (.tmp 119) (.seq c7_12 .ret) .skip)) (.seq c7_13 (.seq c7_14 (.seq (.seq c7_15 (.cond (.tmp 163) (.seq c7_16 .ret) .skip)) (.seq c7_17 (.seq c7_18 .ret))))))))))))), [.tmp 8]⟩
theorem comp7 : compFn Tryz.prog 7 = some c7 := by kernel_rfl

def c8_0 : C := .reg [⟨some 3, none, .op (.box (.tmp 0))⟩,
    ⟨some 5, none, .op (.box (.tmp 2))⟩,
    ⟨some 6, none, .op (.mv (.const (.bool false)))⟩]
def c8_1 : C := .reg [⟨some 15, none, .op (.ld (some 6) (.tmp 3))⟩,
    ⟨some 16, none, .call 40 [.tmp 15]⟩,
    ⟨some 17, none, .op (.un .not (.tmp 16))⟩,
    ⟨some 18, none, .op (.mv (.tmp 17))⟩,
    ⟨some 19, (some (18, false)), .op (.ld (some 6) (.tmp 3))⟩,
    ⟨some 20, (some (18, false)), .op (.ld (some 1) (.tmp 5))⟩,
    ⟨some 21, (some (18, false)), .call 33 [.tmp 19, .tmp 20]⟩,
    ⟨some 22, (some (18, false)), .op (.un .not (.tmp 21))⟩,
    ⟨some 23, none, .op (.pick (.tmp 18) (.const (.bool true)) (.tmp 22))⟩,
    ⟨some 24, none, .op (.mv (.tmp 23))⟩,
    ⟨some 25, (some (24, false)), .op (.fa 0 (.tmp 5))⟩,
    ⟨some 26, (some (24, false)), .op (.ld none (.tmp 25))⟩,
    ⟨some 27, (some (24, false)), .op (.len (.tmp 26))⟩,
    ⟨some 28, (some (24, false)), .op (.bin .gtr (.tmp 27) (.const (.int .i64 50)))⟩,
    ⟨some 29, none, .op (.pick (.tmp 24) (.const (.bool true)) (.tmp 28))⟩,
    ⟨some 30, none, .op (.mv (.tmp 29))⟩,
    ⟨some 31, (some (30, false)), .op (.mv (.tmp 1))⟩,
    ⟨some 32, (some (30, false)), .op (.bin .lss (.tmp 31) (.const (.int .i64 0)))⟩,
    ⟨some 33, none, .op (.pick (.tmp 30) (.const (.bool true)) (.tmp 32))⟩,
    ⟨some 34, none, .op (.mv (.tmp 33))⟩,
    ⟨some 35, (some (34, false)), .op (.mv (.tmp 1))⟩,
    ⟨some 36, (some (34, false)), .op (.fa 4 (.tmp 3))⟩,
    ⟨some 37, (some (34, false)), .op (.ld none (.tmp 36))⟩,
    ⟨some 38, (some (34, false)), .op (.len (.tmp 37))⟩,
    ⟨some 39, (some (34, false)), .op (.bin .geq (.tmp 35) (.tmp 38))⟩,
    ⟨some 40, none, .op (.pick (.tmp 34) (.const (.bool true)) (.tmp 39))⟩]
def c8_2 : C := .reg [⟨some 41, none, .call 34 []⟩,
    ⟨some 6, none, .op (.mv (.tmp 41))⟩]
def c8_3 : C := .reg [⟨some 43, none, .op (.ld (some 6) (.tmp 3))⟩,
    ⟨some 44, none, .op (.mv (.tmp 1))⟩,
    ⟨some 45, none, .op (.ld (some 1) (.tmp 5))⟩,
    ⟨some 46, none, .call 35 [.tmp 43, .tmp 44, .tmp 45, .const (.int .i64 1048576)]⟩,
    ⟨some 42, none, .op (.mv (.tmp 46))⟩,
    ⟨some 47, none, .op (.ext (.tmp 42) 0)⟩,
    ⟨some 48, none, .op (.ext (.tmp 42) 1)⟩,
    ⟨some 49, none, .op (.ext (.tmp 42) 2)⟩,
    ⟨some 50, none, .op (.ext (.tmp 42) 3)⟩,
    ⟨some 51, none, .op (.ext (.tmp 42) 4)⟩,
    ⟨some 7, none, .op (.mv (.tmp 47))⟩,
    ⟨some 8, none, .op (.mv (.tmp 48))⟩,
    ⟨some 9, none, .op (.mv (.tmp 49))⟩,
    ⟨some 10, none, .op (.mv (.tmp 50))⟩,
    ⟨some 11, none, .op (.mv (.tmp 51))⟩]
def c8_4 : C := .regD 0 [⟨0, ⟨some 53, none, .op (.ld (some 6) (.tmp 3))⟩, none, []⟩,
    ⟨1, ⟨some 54, none, .op (.ld (some 1) (.tmp 5))⟩, none, []⟩,
    ⟨2, ⟨some 55, none, .op (.fa 4 (.tmp 3))⟩, none, []⟩,
    ⟨3, ⟨some 56, none, .op (.ld none (.tmp 55))⟩, none, []⟩,
    ⟨4, ⟨some 57, none, .op (.mv (.tmp 1))⟩, none, []⟩,
    ⟨5, ⟨some 58, none, .op (.ia 1 (.tmp 56) (.tmp 57))⟩, none, []⟩,
    ⟨6, ⟨some 59, none, .op (.ld none (.tmp 58))⟩, none, []⟩,
    ⟨7, ⟨some 60, none, .call 41 [.tmp 53, .tmp 54, .tmp 59]⟩, none, []⟩,
    ⟨8, ⟨some 52, none, .op (.mv (.tmp 60))⟩, none, []⟩,
    ⟨9, ⟨some 61, none, .op (.ext (.tmp 52) 0)⟩, none, []⟩,
    ⟨10, ⟨some 62, none, .op (.ext (.tmp 52) 1)⟩, none, []⟩,
    ⟨11, ⟨some 12, none, .op (.mv (.tmp 61))⟩, none, []⟩,
    ⟨12, ⟨some 13, none, .op (.mv (.tmp 62))⟩, none, []⟩]
def c8_5 : C := .reg [⟨some 14, none, .op (.mv (.const (.int .i64 0)))⟩]
def c8_6 : C := .reg [⟨some 63, none, .op (.ld (some 6) (.tmp 3))⟩,
    ⟨some 64, none, .op (.ld (some 1) (.tmp 5))⟩,
    ⟨some 65, none, .call 42 [.tmp 63, .tmp 64]⟩,
    ⟨some 66, none, .op (.un .not (.tmp 65))⟩]
def c8_7 : C := .reg [⟨some 14, none, .op (.mv (.const (.int .i64 1)))⟩]
def c8_8 : C := .reg [⟨some 67, none, .op (.mv (.tmp 12))⟩,
    ⟨some 68, none, .op (.un .not (.tmp 67))⟩]
def c8_9 : C := .reg [⟨some 14, none, .op (.mv (.const (.int .i64 2)))⟩]
def c8_10 : C := .reg [⟨some 69, none, .op (.mv (.tmp 13))⟩,
    ⟨some 70, none, .op (.un .not (.tmp 69))⟩]
def c8_11 : C := .reg [⟨some 14, none, .op (.mv (.const (.int .i64 3)))⟩]
def c8_12 : C := .reg [⟨some 71, none, .op (.mv (.tmp 11))⟩,
    ⟨some 72, none, .op (.bin .eql (.tmp 71) (.const (.int .i64 0)))⟩,
    ⟨some 73, none, .op (.mv (.tmp 72))⟩,
    ⟨some 74, (some (73, true)), .op (.mv (.tmp 8))⟩,
    ⟨some 75, (some (73, true)), .op (.mv (.tmp 14))⟩,
    ⟨some 76, (some (73, true)), .op (.bin .eql (.tmp 74) (.tmp 75))⟩,
    ⟨some 77, none, .op (.pick (.tmp 73) (.tmp 76) (.const (.bool false)))⟩,
    ⟨some 78, none, .op (.mv (.tmp 77))⟩,
    ⟨some 79, (some (78, true)), .op (.mv (.tmp 7))⟩,
    ⟨some 80, (some (78, true)), .op (.bin .eql (.tmp 79) (.const (.int .u8 1)))⟩,
    ⟨some 81, (some (78, true)), .op (.mv (.tmp 14))⟩,
    ⟨some 82, (some (78, true)), .op (.bin .eql (.tmp 81) (.const (.int .i64 0)))⟩,
    ⟨some 83, (some (78, true)), .op (.beq false (.tmp 80) (.tmp 82))⟩,
    ⟨some 84, none, .op (.pick (.tmp 78) (.tmp 83) (.const (.bool false)))⟩,
    ⟨some 85, none, .op (.mv (.tmp 84))⟩,
    ⟨some 86, (some (85, true)), .op (.mv (.tmp 7))⟩,
    ⟨some 87, (some (85, true)), .op (.bin .eql (.tmp 86) (.const (.int .u8 2)))⟩,
    ⟨some 88, (some (85, true)), .op (.mv (.tmp 14))⟩,
    ⟨some 89, (some (85, true)), .op (.bin .gtr (.tmp 88) (.const (.int .i64 0)))⟩,
    ⟨some 90, (some (85, true)), .op (.beq false (.tmp 87) (.tmp 89))⟩,
    ⟨some 91, none, .op (.pick (.tmp 85) (.tmp 90) (.const (.bool false)))⟩,
    ⟨some 92, none, .op (.mv (.tmp 91))⟩,
    ⟨some 93, (some (92, true)), .call 34 []⟩,
    ⟨some 94, none, .op (.pick (.tmp 92) (.tmp 93) (.const (.bool false)))⟩,
    ⟨some 6, none, .op (.mv (.tmp 94))⟩]
def c8 : Fn' := ⟨(.seq c8_0 (.seq (.seq c8_1 (.cond (.tmp 40) (.seq c8_2 .ret) .skip)) (.seq c8_3 (.seq c8_4 (.seq c8_5 (.seq (.seq c8_6 (.cond (.tmp 66) c8_7 (.seq c8_8 (.cond (.tmp 68) c8_9 (.seq c8_10 (.cond (.tmp 70) c8_11 .skip)))))) (.seq c8_12 .ret))))))), [.tmp 6]⟩
theorem comp8 : compFn Tryz.prog 8 = some c8 := by kernel_rfl

def c9_0 : C := .reg [⟨some 3, none, .op (.box (.tmp 0))⟩,
    ⟨some 4, none, .op (.box (.tmp 1))⟩,
    ⟨some 5, none, .op (.box (.tmp 2))⟩,
    ⟨some 6, none, .op (.mv (.const (.bool false)))⟩]
def c9_1 : C := .reg [⟨some 19, none, .op (.ld (some 6) (.tmp 3))⟩,
    ⟨some 20, none, .op (.ld (some 1) (.tmp 4))⟩,
    ⟨some 21, none, .call 32 [.tmp 19, .tmp 20]⟩,
    ⟨some 22, none, .op (.mv (.tmp 21))⟩,
    ⟨some 23, (some (22, false)), .op (.fa 2 (.tmp 5))⟩,
    ⟨some 24, (some (22, false)), .op (.ld none (.tmp 23))⟩,
    ⟨some 25, (some (22, false)), .op (.len (.tmp 24))⟩,
    ⟨some 26, (some (22, false)), .op (.bin .gtr (.tmp 25) (.const (.int .i64 100)))⟩,
    ⟨some 27, none, .op (.pick (.tmp 22) (.const (.bool true)) (.tmp 26))⟩,
    ⟨some 28, none, .op (.mv (.tmp 27))⟩,
    ⟨some 29, (some (28, false)), .op (.ld (some 6) (.tmp 3))⟩,
    ⟨some 30, (some (28, false)), .op (.ld (some 3) (.tmp 5))⟩,
    ⟨some 31, (some (28, false)), .call 43 [.tmp 29, .tmp 30]⟩,
    ⟨some 32, (some (28, false)), .op (.un .not (.tmp 31))⟩,
    ⟨some 33, none, .op (.pick (.tmp 28) (.const (.bool true)) (.tmp 32))⟩,
    ⟨some 34, none, .op (.mv (.tmp 33))⟩,
    ⟨some 35, (some (34, false)), .op (.ld (some 6) (.tmp 3))⟩,
    ⟨some 36, (some (34, false)), .op (.ld (some 1) (.tmp 4))⟩,
    ⟨some 37, (some (34, false)), .call 33 [.tmp 35, .tmp 36]⟩,
    ⟨some 38, (some (34, false)), .op (.un .not (.tmp 37))⟩,
    ⟨some 39, none, .op (.pick (.tmp 34) (.const (.bool true)) (.tmp 38))⟩]
def c9_2 : C := .reg [⟨some 40, none, .call 34 []⟩,
    ⟨some 6, none, .op (.mv (.tmp 40))⟩]
def c9_3 : C := .reg [⟨some 42, none, .op (.ld (some 6) (.tmp 3))⟩,
    ⟨some 43, none, .op (.fa 0 (.tmp 5))⟩,
    ⟨some 44, none, .op (.ld none (.tmp 43))⟩,
    ⟨some 45, none, .op (.ld (some 1) (.tmp 4))⟩,
    ⟨some 46, none, .call 35 [.tmp 42, .tmp 44, .tmp 45, .const (.int .i64 100)]⟩,
    ⟨some 41, none, .op (.mv (.tmp 46))⟩,
    ⟨some 47, none, .op (.ext (.tmp 41) 0)⟩,
    ⟨some 48, none, .op (.ext (.tmp 41) 1)⟩,
    ⟨some 49, none, .op (.ext (.tmp 41) 2)⟩,
    ⟨some 50, none, .op (.ext (.tmp 41) 3)⟩,
    ⟨some 51, none, .op (.ext (.tmp 41) 4)⟩,
    ⟨some 7, none, .op (.mv (.tmp 47))⟩,
    ⟨some 8, none, .op (.mv (.tmp 48))⟩,
    ⟨some 9, none, .op (.mv (.tmp 49))⟩,
    ⟨some 10, none, .op (.mv (.tmp 50))⟩,
    ⟨some 11, none, .op (.mv (.tmp 51))⟩]
def c9_4 : C := .reg [⟨some 52, none, .op (.mv (.tmp 11))⟩,
    ⟨some 53, none, .op (.bin .neq (.tmp 52) (.const (.int .i64 0)))⟩]
def c9_5 : C := .reg [⟨some 6, none, .op (.mv (.const (.bool false)))⟩]
def c9_6 : C := .reg [⟨some 54, none, .op (.mv (.tmp 7))⟩,
    ⟨some 55, none, .op (.bin .neq (.tmp 54) (.const (.int .u8 1)))⟩]
def c9_7 : C := .reg [⟨some 56, none, .call 34 []⟩,
    ⟨some 6, none, .op (.mv (.tmp 56))⟩]
def c9_8 : C := .reg [⟨some 58, none, .op (.ld (some 6) (.tmp 3))⟩,
    ⟨some 59, none, .op (.ld (some 3) (.tmp 5))⟩,
    ⟨some 60, none, .call 44 [.tmp 58, .tmp 59]⟩,
    ⟨some 57, none, .op (.mv (.tmp 60))⟩,
    ⟨some 61, none, .op (.ext (.tmp 57) 0)⟩,
    ⟨some 62, none, .op (.ext (.tmp 57) 1)⟩,
    ⟨some 12, none, .op (.mv (.tmp 61))⟩,
    ⟨some 13, none, .op (.mv (.tmp 62))⟩]
def c9_9 : C := .regD 0 [⟨0, ⟨some 64, none, .op (.ld (some 6) (.tmp 3))⟩, none, []⟩,
    ⟨1, ⟨some 65, none, .op (.ld (some 3) (.tmp 5))⟩, none, []⟩,
    ⟨2, ⟨some 66, none, .call 46 [.tmp 65]⟩, none, [(some 6, .tmp 3, 64, none)]⟩,
    ⟨3, ⟨some 67, none, .call 45 [.tmp 64, .tmp 66]⟩, none, []⟩,
    ⟨4, ⟨some 63, none, .op (.mv (.tmp 67))⟩, none, []⟩,
    ⟨5, ⟨some 68, none, .op (.ext (.tmp 63) 0)⟩, none, []⟩,
    ⟨6, ⟨some 69, none, .op (.ext (.tmp 63) 1)⟩, none, []⟩,
    ⟨7, ⟨some 14, none, .op (.mv (.tmp 68))⟩, none, []⟩,
    ⟨8, ⟨some 15, none, .op (.mv (.tmp 69))⟩, none, []⟩]
def c9_10 : C := .reg [⟨some 70, none, .op (.mv (.tmp 14))⟩,
    ⟨some 71, none, .op (.len (.tmp 70))⟩,
    ⟨some 72, none, .op (.mv (.const (.int .i64 0)))⟩]
def c9_11 : C := .reg [⟨some 73, none, .op (.bin .lss (.tmp 72) (.tmp 71))⟩]
def c9_12 : C := .reg [⟨some 74, none, .op (.mv (.tmp 72))⟩,
    ⟨some 16, none, .op (.mv (.tmp 74))⟩]
def c9_13 : C := .regD 0 [⟨0, ⟨some 76, none, .op (.ld (some 6) (.tmp 3))⟩, none, []⟩,
    ⟨1, ⟨some 77, none, .op (.ld (some 1) (.tmp 4))⟩, none, []⟩,
    ⟨2, ⟨some 78, none, .op (.mv (.tmp 14))⟩, none, []⟩,
    ⟨3, ⟨some 79, none, .op (.mv (.tmp 16))⟩, none, []⟩,
    ⟨4, ⟨some 80, none, .op (.ia 1 (.tmp 78) (.tmp 79))⟩, none, []⟩,
    ⟨5, ⟨some 81, none, .op (.ld none (.tmp 80))⟩, none, []⟩,
    ⟨6, ⟨some 82, none, .op (.fa 0 (.tmp 3))⟩, none, []⟩,
    ⟨7, ⟨some 83, none, .op (.ld none (.tmp 82))⟩, none, []⟩,
    ⟨8, ⟨some 84, none, .op (.bin .add (.const (.int .i64 1)) (.tmp 83))⟩, none, []⟩,
    ⟨9, ⟨some 85, none, .op (.fa 0 (.tmp 3))⟩, none, []⟩,
    ⟨10, ⟨some 86, none, .op (.ld none (.tmp 85))⟩, none, []⟩,
    ⟨11, ⟨some 87, none, .op (.bin .add (.const (.int .i64 1)) (.tmp 86))⟩, none, []⟩,
    ⟨12, ⟨some 88, none, .op (.fa 1 (.tmp 3))⟩, none, []⟩,
    ⟨13, ⟨some 89, none, .op (.ld none (.tmp 88))⟩, none, []⟩,
    ⟨14, ⟨some 90, none, .op (.len (.tmp 89))⟩, none, []⟩,
    ⟨15, ⟨some 91, none, .op (.bin .add (.tmp 87) (.tmp 90))⟩, none, []⟩,
    ⟨16, ⟨some 92, none, .op (.slc 1 (.tmp 81) (some (.tmp 84)) (some (.tmp 91)) none)⟩, none, []⟩,
    ⟨17, ⟨some 93, none, .call 36 [.tmp 76, .tmp 77, .tmp 92]⟩, none, []⟩,
    ⟨18, ⟨some 75, none, .op (.mv (.tmp 93))⟩, none, []⟩,
    ⟨19, ⟨some 94, none, .op (.ext (.tmp 75) 0)⟩, none, []⟩,
    ⟨20, ⟨some 95, none, .op (.ext (.tmp 75) 1)⟩, none, []⟩,
    ⟨21, ⟨some 17, none, .op (.mv (.tmp 94))⟩, none, []⟩,
    ⟨22, ⟨some 18, none, .op (.mv (.tmp 95))⟩, none, []⟩]
def c9_14 : C := .reg [⟨some 96, none, .op (.mv (.tmp 18))⟩,
    ⟨some 97, none, .op (.bin .neq (.tmp 96) (.const (.int .i64 0)))⟩,
    ⟨some 98, none, .op (.mv (.tmp 97))⟩,
    ⟨some 99, (some (98, false)), .op (.mv (.tmp 17))⟩,
    ⟨some 100, (some (98, false)), .op (.un .not (.tmp 99))⟩,
    ⟨some 101, none, .op (.pick (.tmp 98) (.const (.bool true)) (.tmp 100))⟩]
def c9_15 : C := .reg [⟨some 6, none, .op (.mv (.const (.bool false)))⟩]
def c9_16 : C := .regD 0 [⟨0, ⟨some 102, none, .op (.ld (some 6) (.tmp 3))⟩, none, []⟩,
    ⟨1, ⟨some 103, none, .op (.mv (.tmp 14))⟩, none, []⟩,
    ⟨2, ⟨some 104, none, .op (.mv (.tmp 16))⟩, none, []⟩,
    ⟨3, ⟨some 105, none, .op (.ia 1 (.tmp 103) (.tmp 104))⟩, none, []⟩,
    ⟨4, ⟨some 106, none, .op (.ld none (.tmp 105))⟩, none, []⟩,
    ⟨5, ⟨some 107, none, .call 47 [.tmp 102, .tmp 106]⟩, none, []⟩,
    ⟨6, ⟨some 108, none, .op (.un .not (.tmp 107))⟩, none, []⟩]
def c9_17 : C := .reg [⟨some 109, none, .op (.bin .add (.tmp 72) (.const (.int .i64 1)))⟩,
    ⟨some 72, none, .op (.mv (.tmp 109))⟩]
def c9_18 : C := .reg [⟨some 110, none, .op (.mv (.tmp 12))⟩,
    ⟨some 111, none, .op (.un .not (.tmp 110))⟩,
    ⟨some 112, none, .op (.mv (.tmp 111))⟩,
    ⟨some 113, (some (112, true)), .call 34 []⟩,
    ⟨some 114, none, .op (.pick (.tmp 112) (.tmp 113) (.const (.bool false)))⟩,
    ⟨some 6, none, .op (.mv (.tmp 114))⟩]
def c9 : Fn' := ⟨(.seq c9_0 (.seq (.seq c9_1 (.cond (.tmp 39) (.seq c9_2 .ret) .skip)) (.seq c9_3 (.seq (.seq c9_4 (.cond (.tmp 53) (.seq c9_5 .ret) .skip)) (.seq (.seq c9_6 (.cond (.tmp 55) (.seq c9_7 .ret) .skip)) (.seq c9_8 (.seq c9_9 (.seq (.seq c9_10 (.block 0 (.loop (.seq c9_11 (.seq (.cond (.tmp 73) .skip (.exit 0)) (.seq (.block 1 (.seq c9_12 (.seq c9_13 (.seq (.seq c9_14 (.cond (.tmp 101) (.seq c9_15 .ret) .skip)) (.seq c9_16 (.cond (.tmp 108) (.exit 0) .skip)))))) c9_17)))))) (.seq c9_18 .ret))))))))), [.tmp 6]⟩
theorem comp9 : compFn Tryz.prog 9 = some c9 := by kernel_rfl

def c10_0 : C := .reg [⟨some 4, none, .op (.box (.tmp 0))⟩,
    ⟨some 6, none, .op (.box (.tmp 2))⟩,
    ⟨some 8, none, .op (.mv (.const (.bool false)))⟩]
def c10_1 : C := .reg [⟨some 14, none, .op (.ld (some 6) (.tmp 4))⟩,
    ⟨some 15, none, .op (.ld (some 1) (.tmp 6))⟩,
    ⟨some 16, none, .call 32 [.tmp 14, .tmp 15]⟩,
    ⟨some 17, none, .op (.mv (.tmp 16))⟩,
    ⟨some 18, (some (17, false)), .op (.ld (some 6) (.tmp 4))⟩,
    ⟨some 19, (some (17, false)), .op (.ld (some 1) (.tmp 6))⟩,
    ⟨some 20, (some (17, false)), .call 33 [.tmp 18, .tmp 19]⟩,
    ⟨some 21, (some (17, false)), .op (.mv (.tmp 20))⟩,
    ⟨some 22, (some (21, true)), .op (.mv (.tmp 1))⟩,
    ⟨some 23, (some (21, true)), .op (.bin .geq (.tmp 22) (.const (.int .i64 0)))⟩,
    ⟨some 24, (some (17, false)), .op (.pick (.tmp 21) (.tmp 23) (.const (.bool false)))⟩,
    ⟨some 25, (some (17, false)), .op (.mv (.tmp 24))⟩,
    ⟨some 26, (some (25, true)), .op (.mv (.tmp 1))⟩,
    ⟨some 27, (some (25, true)), .op (.fa 4 (.tmp 4))⟩,
    ⟨some 28, (some (25, true)), .op (.ld none (.tmp 27))⟩,
    ⟨some 29, (some (25, true)), .op (.len (.tmp 28))⟩,
    ⟨some 30, (some (25, true)), .op (.bin .lss (.tmp 26) (.tmp 29))⟩,
    ⟨some 31, (some (17, false)), .op (.pick (.tmp 25) (.tmp 30) (.const (.bool false)))⟩,
    ⟨some 32, (some (17, false)), .op (.mv (.tmp 31))⟩,
    ⟨some 33, (some (32, true)), .op (.mv (.tmp 3))⟩,
    ⟨some 34, (some (32, true)), .op (.bin .geq (.tmp 33) (.const (.int .i64 0)))⟩,
    ⟨some 35, (some (17, false)), .op (.pick (.tmp 32) (.tmp 34) (.const (.bool false)))⟩,
    ⟨some 36, (some (17, false)), .op (.mv (.tmp 35))⟩,
    ⟨some 37, (some (36, true)), .op (.mv (.tmp 3))⟩,
    ⟨some 38, (some (36, true)), .op (.bin .leq (.tmp 37) (.const (.int .i64 1048576)))⟩,
    ⟨some 39, (some (17, false)), .op (.pick (.tmp 36) (.tmp 38) (.const (.bool false)))⟩,
    ⟨some 40, none, .op (.pick (.tmp 17) (.const (.bool true)) (.tmp 39))⟩]
def c10_2 : C := .reg [⟨some 41, none, .call 34 []⟩,
    ⟨some 8, none, .op (.mv (.tmp 41))⟩]
def c10_3 : C := .reg [⟨some 43, none, .op (.ld (some 6) (.tmp 4))⟩,
    ⟨some 44, none, .op (.mv (.tmp 1))⟩,
    ⟨some 45, none, .op (.ld (some 1) (.tmp 6))⟩,
    ⟨some 46, none, .op (.mv (.tmp 3))⟩,
    ⟨some 47, none, .call 35 [.tmp 43, .tmp 44, .tmp 45, .tmp 46]⟩,
    ⟨some 42, none, .op (.mv (.tmp 47))⟩,
    ⟨some 48, none, .op (.ext (.tmp 42) 0)⟩,
    ⟨some 49, none, .op (.ext (.tmp 42) 1)⟩,
    ⟨some 50, none, .op (.ext (.tmp 42) 2)⟩,
    ⟨some 51, none, .op (.ext (.tmp 42) 3)⟩,
    ⟨some 52, none, .op (.ext (.tmp 42) 4)⟩,
    ⟨some 9, none, .op (.mv (.tmp 48))⟩,
    ⟨some 10, none, .op (.mv (.tmp 49))⟩,
    ⟨some 11, none, .op (.mv (.tmp 50))⟩,
    ⟨some 12, none, .op (.mv (.tmp 51))⟩,
    ⟨some 13, none, .op (.mv (.tmp 52))⟩]
def c10_4 : C := .reg [⟨some 53, none, .op (.mv (.tmp 13))⟩,
    ⟨some 54, none, .op (.bin .eql (.tmp 53) (.const (.int .i64 2)))⟩,
    ⟨some 55, none, .op (.mv (.tmp 54))⟩,
    ⟨some 56, (some (55, true)), .op (.mv (.tmp 9))⟩,
    ⟨some 57, (some (55, true)), .op (.bin .eql (.tmp 56) (.const (.int .u8 0)))⟩,
    ⟨some 58, none, .op (.pick (.tmp 55) (.tmp 57) (.const (.bool false)))⟩,
    ⟨some 59, none, .op (.mv (.tmp 58))⟩,
    ⟨some 60, (some (59, true)), .op (.mv (.tmp 10))⟩,
    ⟨some 61, (some (59, true)), .op (.bin .eql (.tmp 60) (.const (.int .i64 0)))⟩,
    ⟨some 62, none, .op (.pick (.tmp 59) (.tmp 61) (.const (.bool false)))⟩,
    ⟨some 63, none, .op (.mv (.tmp 62))⟩,
    ⟨some 64, (some (63, true)), .op (.mv (.tmp 11))⟩,
    ⟨some 65, (some (63, true)), .op (.len (.tmp 64))⟩,
    ⟨some 66, (some (63, true)), .op (.mv (.tmp 12))⟩,
    ⟨some 67, (some (63, true)), .op (.len (.tmp 66))⟩,
    ⟨some 68, (some (63, true)), .op (.bin .add (.tmp 65) (.tmp 67))⟩,
    ⟨some 69, (some (63, true)), .op (.bin .eql (.tmp 68) (.const (.int .i64 0)))⟩,
    ⟨some 70, none, .op (.pick (.tmp 63) (.tmp 69) (.const (.bool false)))⟩,
    ⟨some 71, none, .op (.mv (.tmp 70))⟩,
    ⟨some 72, (some (71, true)), .call 34 []⟩,
    ⟨some 73, none, .op (.pick (.tmp 71) (.tmp 72) (.const (.bool false)))⟩,
    ⟨some 8, none, .op (.mv (.tmp 73))⟩]
def c10 : Fn' := ⟨(.seq c10_0 (.seq (.seq c10_1 (.cond (.tmp 40) (.seq c10_2 .ret) .skip)) (.seq c10_3 (.seq c10_4 .ret)))), [.tmp 8]⟩
theorem comp10 : compFn Tryz.prog 10 = some c10 := by kernel_rfl

def c32_0 : C := .reg [⟨some 2, none, .op (.box (.tmp 0))⟩,
    ⟨some 3, none, .op (.box (.tmp 1))⟩,
    ⟨some 4, none, .op (.mv (.const (.bool false)))⟩]
def c32_1 : C := .reg [⟨some 5, none, .op (.fa 0 (.tmp 2))⟩,
    ⟨some 6, none, .op (.ld none (.tmp 5))⟩,
    ⟨some 7, none, .op (.bin .gtr (.tmp 6) (.const (.int .i64 300)))⟩,
    ⟨some 8, none, .op (.mv (.tmp 7))⟩,
    ⟨some 9, (some (8, false)), .op (.fa 1 (.tmp 2))⟩,
    ⟨some 10, (some (8, false)), .op (.ld none (.tmp 9))⟩,
    ⟨some 11, (some (8, false)), .op (.len (.tmp 10))⟩,
    ⟨some 12, (some (8, false)), .op (.bin .gtr (.tmp 11) (.const (.int .i64 300)))⟩,
    ⟨some 13, none, .op (.pick (.tmp 8) (.const (.bool true)) (.tmp 12))⟩,
    ⟨some 14, none, .op (.mv (.tmp 13))⟩,
    ⟨some 15, (some (14, false)), .op (.fa 2 (.tmp 2))⟩,
    ⟨some 16, (some (14, false)), .op (.ld none (.tmp 15))⟩,
    ⟨some 17, (some (14, false)), .op (.len (.tmp 16))⟩,
    ⟨some 18, (some (14, false)), .op (.bin .gtr (.tmp 17) (.const (.int .i64 300)))⟩,
    ⟨some 19, none, .op (.pick (.tmp 14) (.const (.bool true)) (.tmp 18))⟩,
    ⟨some 20, none, .op (.mv (.tmp 19))⟩,
    ⟨some 21, (some (20, false)), .op (.fa 5 (.tmp 2))⟩,
    ⟨some 22, (some (20, false)), .op (.ld none (.tmp 21))⟩,
    ⟨some 23, (some (20, false)), .op (.len (.tmp 22))⟩,
    ⟨some 24, (some (20, false)), .op (.bin .gtr (.tmp 23) (.const (.int .i64 100)))⟩,
    ⟨some 25, none, .op (.pick (.tmp 20) (.const (.bool true)) (.tmp 24))⟩,
    ⟨some 26, none, .op (.mv (.tmp 25))⟩,
    ⟨some 27, (some (26, false)), .op (.fa 0 (.tmp 3))⟩,
    ⟨some 28, (some (26, false)), .op (.ld none (.tmp 27))⟩,
    ⟨some 29, (some (26, false)), .op (.len (.tmp 28))⟩,
    ⟨some 30, (some (26, false)), .op (.bin .gtr (.tmp 29) (.const (.int .i64 200)))⟩,
    ⟨some 31, none, .op (.pick (.tmp 26) (.const (.bool true)) (.tmp 30))⟩,
    ⟨some 4, none, .op (.mv (.tmp 31))⟩]
def c32 : Fn' := ⟨(.seq c32_0 (.seq c32_1 .ret)), [.tmp 4]⟩
theorem comp32 : compFn Tryz.prog 32 = some c32 := by kernel_rfl

def c33_0 : C := .reg [⟨some 2, none, .op (.box (.tmp 0))⟩,
    ⟨some 3, none, .op (.box (.tmp 1))⟩,
    ⟨some 4, none, .op (.mv (.const (.bool false)))⟩]
def c33_1 : C := .reg [⟨some 8, none, .op (.ld (some 6) (.tmp 2))⟩,
    ⟨some 9, none, .call 79 [.tmp 8]⟩,
    ⟨some 10, none, .op (.un .not (.tmp 9))⟩,
    ⟨some 11, none, .op (.mv (.tmp 10))⟩,
    ⟨some 12, (some (11, false)), .op (.fa 0 (.tmp 3))⟩,
    ⟨some 13, (some (11, false)), .op (.ld none (.tmp 12))⟩,
    ⟨some 14, (some (11, false)), .op (.len (.tmp 13))⟩,
    ⟨some 15, (some (11, false)), .op (.bin .gtr (.tmp 14) (.const (.int .i64 65536)))⟩,
    ⟨some 16, none, .op (.pick (.tmp 11) (.const (.bool true)) (.tmp 15))⟩]
def c33_2 : C := .reg [⟨some 4, none, .op (.mv (.const (.bool false)))⟩]
def c33_3 : C := .reg [⟨some 5, none, .op (.mv (.const (.int .i64 0)))⟩]
def c33_4 : C := .reg [⟨some 17, none, .op (.mv (.tmp 5))⟩,
    ⟨some 18, none, .op (.fa 0 (.tmp 3))⟩,
    ⟨some 19, none, .op (.ld none (.tmp 18))⟩,
    ⟨some 20, none, .op (.len (.tmp 19))⟩,
    ⟨some 21, none, .op (.bin .lss (.tmp 17) (.tmp 20))⟩]
def c33_5 : C := .reg [⟨some 24, none, .op (.fa 0 (.tmp 3))⟩,
    ⟨some 25, none, .op (.ld none (.tmp 24))⟩,
    ⟨some 26, none, .op (.mv (.tmp 5))⟩,
    ⟨some 27, none, .op (.ia 1 (.tmp 25) (.tmp 26))⟩,
    ⟨some 28, none, .op (.ld none (.tmp 27))⟩,
    ⟨some 29, none, .op (.len (.tmp 28))⟩,
    ⟨some 30, none, .op (.bin .gtr (.tmp 29) (.const (.int .i64 4096)))⟩]
def c33_6 : C := .reg [⟨some 4, none, .op (.mv (.const (.bool false)))⟩]
def c33_7 : C := .reg [⟨some 6, none, .op (.mv (.const (.int .i64 0)))⟩]
def c33_8 : C := .reg [⟨some 31, none, .op (.mv (.tmp 6))⟩,
    ⟨some 32, none, .op (.fa 0 (.tmp 3))⟩,
    ⟨some 33, none, .op (.ld none (.tmp 32))⟩,
    ⟨some 34, none, .op (.mv (.tmp 5))⟩,
    ⟨some 35, none, .op (.ia 1 (.tmp 33) (.tmp 34))⟩,
    ⟨some 36, none, .op (.ld none (.tmp 35))⟩,
    ⟨some 37, none, .op (.len (.tmp 36))⟩,
    ⟨some 38, none, .op (.bin .lss (.tmp 31) (.tmp 37))⟩]
def c33_9 : C := .reg [⟨some 41, none, .op (.fa 0 (.tmp 3))⟩,
    ⟨some 42, none, .op (.ld none (.tmp 41))⟩,
    ⟨some 43, none, .op (.mv (.tmp 5))⟩,
    ⟨some 44, none, .op (.ia 1 (.tmp 42) (.tmp 43))⟩,
    ⟨some 45, none, .op (.ld none (.tmp 44))⟩,
    ⟨some 46, none, .op (.mv (.tmp 6))⟩,
    ⟨some 47, none, .op (.ia 1 (.tmp 45) (.tmp 46))⟩,
    ⟨some 48, none, .op (.ld none (.tmp 47))⟩,
    ⟨some 49, none, .op (.bin .quo (.tmp 48) (.const (.int .u32 2)))⟩,
    ⟨some 50, none, .op (.conv .i64 (.tmp 49))⟩,
    ⟨some 7, none, .op (.mv (.tmp 50))⟩]
def c33_10 : C := .reg [⟨some 51, none, .op (.mv (.tmp 7))⟩,
    ⟨some 52, none, .op (.fa 0 (.tmp 2))⟩,
    ⟨some 53, none, .op (.ld none (.tmp 52))⟩,
    ⟨some 54, none, .op (.bin .leq (.tmp 51) (.tmp 53))⟩,
    ⟨some 55, none, .op (.mv (.tmp 54))⟩,
    ⟨some 56, (some (55, false)), .op (.mv (.tmp 7))⟩,
    ⟨some 57, (some (55, false)), .op (.fa 0 (.tmp 2))⟩,
    ⟨some 58, (some (55, false)), .op (.ld none (.tmp 57))⟩,
    ⟨some 59, (some (55, false)), .op (.fa 1 (.tmp 2))⟩,
    ⟨some 60, (some (55, false)), .op (.ld none (.tmp 59))⟩,
    ⟨some 61, (some (55, false)), .op (.len (.tmp 60))⟩,
    ⟨some 62, (some (55, false)), .op (.bin .add (.tmp 58) (.tmp 61))⟩,
    ⟨some 63, (some (55, false)), .op (.bin .gtr (.tmp 56) (.tmp 62))⟩,
    ⟨some 64, none, .op (.pick (.tmp 55) (.const (.bool true)) (.tmp 63))⟩]
def c33_11 : C := .reg [⟨some 4, none, .op (.mv (.const (.bool false)))⟩]
def c33_12 : C := .reg [⟨some 39, none, .op (.mv (.tmp 6))⟩,
    ⟨some 40, none, .op (.bin .add (.tmp 39) (.const (.int .i64 1)))⟩,
    ⟨some 6, none, .op (.mv (.tmp 40))⟩]
def c33_13 : C := .reg [⟨some 22, none, .op (.mv (.tmp 5))⟩,
    ⟨some 23, none, .op (.bin .add (.tmp 22) (.const (.int .i64 1)))⟩,
    ⟨some 5, none, .op (.mv (.tmp 23))⟩]
def c33_14 : C := .reg [⟨some 4, none, .op (.mv (.const (.bool true)))⟩]
def c33 : Fn' := ⟨(.seq c33_0 (.seq (.seq c33_1 (.cond (.tmp 16) (.seq c33_2 .ret) .skip)) (.seq (.seq c33_3 (.block 0 (.loop (.seq (.seq c33_4 (.cond (.tmp 21) .skip (.exit 0))) (.seq (.block 1 (.seq (.seq c33_5 (.cond (.tmp 30) (.seq c33_6 .ret) .skip)) (.seq c33_7 (.block 2 (.loop (.seq (.seq c33_8 (.cond (.tmp 38) .skip (.exit 2))) (.seq (.block 3 (.seq c33_9 (.seq c33_10 (.cond (.tmp 64) (.seq c33_11 .ret) .skip)))) c33_12))))))) c33_13))))) (.seq c33_14 .ret)))), [.tmp 4]⟩
theorem comp33 : compFn Tryz.prog 33 = some c33 := by kernel_rfl

def c36_0 : C := .reg [⟨some 3, none, .op (.box (.tmp 0))⟩,
    ⟨some 4, none, .op (.box (.tmp 1))⟩,
    ⟨some 6, none, .op (.mv (.const (.bool false)))⟩,
    ⟨some 7, none, .op (.mv (.const (.int .i64 0)))⟩]
def c36_1 : C := .reg [⟨some 13, none, .op (.ld (some 6) (.tmp 3))⟩,
    ⟨some 14, none, .op (.ld (some 1) (.tmp 4))⟩,
    ⟨some 15, none, .call 33 [.tmp 13, .tmp 14]⟩,
    ⟨some 16, none, .op (.un .not (.tmp 15))⟩,
    ⟨some 17, none, .op (.mv (.tmp 16))⟩,
    ⟨some 18, (some (17, false)), .op (.ld (some 6) (.tmp 3))⟩,
    ⟨some 19, (some (17, false)), .op (.mv (.tmp 2))⟩,
    ⟨some 20, (some (17, false)), .call 89 [.tmp 18, .tmp 19]⟩,
    ⟨some 21, (some (17, false)), .op (.un .not (.tmp 20))⟩,
    ⟨some 22, none, .op (.pick (.tmp 17) (.const (.bool true)) (.tmp 21))⟩]
def c36_2 : C := .reg [⟨some 6, none, .op (.mv (.const (.bool false)))⟩,
    ⟨some 7, none, .op (.mv (.const (.int .i64 2)))⟩]
def c36_3 : C := .reg [⟨some 8, none, .op (.mv (.const (.int .i64 0)))⟩]
def c36_4 : C := .reg [⟨some 23, none, .op (.mv (.tmp 8))⟩,
    ⟨some 24, none, .op (.fa 0 (.tmp 4))⟩,
    ⟨some 25, none, .op (.ld none (.tmp 24))⟩,
    ⟨some 26, none, .op (.len (.tmp 25))⟩,
    ⟨some 27, none, .op (.bin .lss (.tmp 23) (.tmp 26))⟩]
def c36_5 : C := .reg [⟨some 9, none, .op (.mv (.const (.bool false)))⟩]
def c36_6 : C := .reg [⟨some 10, none, .op (.mv (.const (.int .i64 0)))⟩]
def c36_7 : C := .reg [⟨some 30, none, .op (.mv (.tmp 10))⟩,
    ⟨some 31, none, .op (.fa 0 (.tmp 4))⟩,
    ⟨some 32, none, .op (.ld none (.tmp 31))⟩,
    ⟨some 33, none, .op (.mv (.tmp 8))⟩,
    ⟨some 34, none, .op (.ia 1 (.tmp 32) (.tmp 33))⟩,
    ⟨some 35, none, .op (.ld none (.tmp 34))⟩,
    ⟨some 36, none, .op (.len (.tmp 35))⟩,
    ⟨some 37, none, .op (.bin .lss (.tmp 30) (.tmp 36))⟩]
def c36_8 : C := .reg [⟨some 40, none, .op (.fa 0 (.tmp 4))⟩,
    ⟨some 41, none, .op (.ld none (.tmp 40))⟩,
    ⟨some 42, none, .op (.mv (.tmp 8))⟩,
    ⟨some 43, none, .op (.ia 1 (.tmp 41) (.tmp 42))⟩,
    ⟨some 44, none, .op (.ld none (.tmp 43))⟩,
    ⟨some 45, none, .op (.mv (.tmp 10))⟩,
    ⟨some 46, none, .op (.ia 1 (.tmp 44) (.tmp 45))⟩,
    ⟨some 47, none, .op (.ld none (.tmp 46))⟩,
    ⟨some 11, none, .op (.mv (.tmp 47))⟩]
def c36_9 : C := .reg [⟨some 48, none, .op (.mv (.tmp 2))⟩,
    ⟨some 49, none, .op (.mv (.tmp 11))⟩,
    ⟨some 50, none, .op (.bin .quo (.tmp 49) (.const (.int .u32 2)))⟩,
    ⟨some 51, none, .op (.conv .i64 (.tmp 50))⟩,
    ⟨some 52, none, .op (.bin .sub (.tmp 51) (.const (.int .i64 1)))⟩,
    ⟨some 53, none, .op (.fa 0 (.tmp 3))⟩,
    ⟨some 54, none, .op (.ld none (.tmp 53))⟩,
    ⟨some 55, none, .op (.bin .sub (.tmp 52) (.tmp 54))⟩,
    ⟨some 56, none, .op (.ia 1 (.tmp 48) (.tmp 55))⟩,
    ⟨some 57, none, .op (.ld none (.tmp 56))⟩,
    ⟨some 12, none, .op (.mv (.tmp 57))⟩]
def c36_10 : C := .reg [⟨some 58, none, .op (.mv (.tmp 9))⟩,
    ⟨some 59, none, .op (.mv (.tmp 58))⟩,
    ⟨some 60, (some (59, false)), .op (.mv (.tmp 12))⟩,
    ⟨some 61, (some (59, false)), .op (.bin .eql (.tmp 60) (.const (.int .u8 1)))⟩,
    ⟨some 62, (some (59, false)), .op (.mv (.tmp 11))⟩,
    ⟨some 63, (some (59, false)), .op (.bin .rem (.tmp 62) (.const (.int .u32 2)))⟩,
    ⟨some 64, (some (59, false)), .op (.bin .eql (.tmp 63) (.const (.int .u32 0)))⟩,
    ⟨some 65, (some (59, false)), .op (.beq false (.tmp 61) (.tmp 64))⟩,
    ⟨some 66, none, .op (.pick (.tmp 59) (.const (.bool true)) (.tmp 65))⟩,
    ⟨some 9, none, .op (.mv (.tmp 66))⟩]
def c36_11 : C := .reg [⟨some 38, none, .op (.mv (.tmp 10))⟩,
    ⟨some 39, none, .op (.bin .add (.tmp 38) (.const (.int .i64 1)))⟩,
    ⟨some 10, none, .op (.mv (.tmp 39))⟩]
def c36_12 : C := .reg [⟨some 67, none, .op (.mv (.tmp 9))⟩,
    ⟨some 68, none, .op (.un .not (.tmp 67))⟩]
def c36_13 : C := .reg [⟨some 6, none, .op (.mv (.const (.bool false)))⟩,
    ⟨some 7, none, .op (.mv (.const (.int .i64 0)))⟩]
def c36_14 : C := .reg [⟨some 28, none, .op (.mv (.tmp 8))⟩,
    ⟨some 29, none, .op (.bin .add (.tmp 28) (.const (.int .i64 1)))⟩,
    ⟨some 8, none, .op (.mv (.tmp 29))⟩]
def c36_15 : C := .reg [⟨some 6, none, .op (.mv (.const (.bool true)))⟩,
    ⟨some 7, none, .op (.mv (.const (.int .i64 0)))⟩]
def c36 : Fn' := ⟨(.seq c36_0 (.seq (.seq c36_1 (.cond (.tmp 22) (.seq c36_2 .ret) .skip)) (.seq (.seq c36_3 (.block 0 (.loop (.seq (.seq c36_4 (.cond (.tmp 27) .skip (.exit 0))) (.seq (.block 1 (.seq c36_5 (.seq (.seq c36_6 (.block 2 (.loop (.seq (.seq c36_7 (.cond (.tmp 37) .skip (.exit 2))) (.seq (.block 3 (.seq c36_8 (.seq c36_9 c36_10))) c36_11))))) (.seq c36_12 (.cond (.tmp 68) (.seq c36_13 .ret) .skip))))) c36_14))))) (.seq c36_15 .ret)))), [.tmp 6, .tmp 7]⟩
theorem comp36 : compFn Tryz.prog 36 = some c36 := by kernel_rfl

def c37_0 : C := .reg [⟨some 2, none, .op (.box (.tmp 0))⟩,
    ⟨some 4, none, .op (.mv (.const (.bool false)))⟩]
def c37_1 : C := .reg [⟨some 5, none, .op (.mv (.const (.int .i64 0)))⟩]
def c37_2 : C := .reg [⟨some 6, none, .op (.mv (.tmp 5))⟩,
    ⟨some 7, none, .op (.fa 1 (.tmp 2))⟩,
    ⟨some 8, none, .op (.ld none (.tmp 7))⟩,
    ⟨some 9, none, .op (.len (.tmp 8))⟩,
    ⟨some 10, none, .op (.bin .lss (.tmp 6) (.tmp 9))⟩]
def c37_3 : C := .regD 0 [⟨0, ⟨some 13, none, .op (.fa 1 (.tmp 2))⟩, none, []⟩,
    ⟨1, ⟨some 14, none, .op (.ld none (.tmp 13))⟩, none, []⟩,
    ⟨2, ⟨some 15, none, .op (.mv (.tmp 5))⟩, none, []⟩,
    ⟨3, ⟨some 16, none, .op (.ia 2 (.tmp 14) (.tmp 15))⟩, none, []⟩,
    ⟨4, ⟨some 17, none, .op (.fa 1 (.tmp 16))⟩, none, []⟩,
    ⟨5, ⟨some 18, none, .op (.ld none (.tmp 17))⟩, none, []⟩,
    ⟨6, ⟨some 19, none, .op (.bin .neq (.tmp 18) (.const (.int .u8 2)))⟩, none, []⟩,
    ⟨7, ⟨some 20, none, .op (.mv (.tmp 19))⟩, none, []⟩,
    ⟨8, ⟨some 21, (some (20, true)), .op (.fa 1 (.tmp 2))⟩, none, []⟩,
    ⟨9, ⟨some 22, (some (20, true)), .op (.ld none (.tmp 21))⟩, none, []⟩,
    ⟨10, ⟨some 23, (some (20, true)), .op (.mv (.tmp 5))⟩, none, []⟩,
    ⟨11, ⟨some 24, (some (20, true)), .op (.ia 2 (.tmp 22) (.tmp 23))⟩, none, []⟩,
    ⟨12, ⟨some 25, (some (20, true)), .op (.fa 1 (.tmp 24))⟩, none, []⟩,
    ⟨13, ⟨some 26, (some (20, true)), .op (.ld none (.tmp 25))⟩, none, []⟩,
    ⟨14, ⟨some 27, (some (20, true)), .op (.mv (.tmp 1))⟩, none, []⟩,
    ⟨15, ⟨some 28, (some (20, true)), .op (.mv (.tmp 5))⟩, none, []⟩,
    ⟨16, ⟨some 29, (some (20, true)), .op (.ia 1 (.tmp 27) (.tmp 28))⟩, none, []⟩,
    ⟨17, ⟨some 30, (some (20, true)), .op (.ld none (.tmp 29))⟩, none, []⟩,
    ⟨18, ⟨some 31, (some (20, true)), .op (.bin .neq (.tmp 26) (.tmp 30))⟩, none, []⟩,
    ⟨19, ⟨some 32, none, .op (.pick (.tmp 20) (.tmp 31) (.const (.bool false)))⟩, none, []⟩]
def c37_4 : C := .reg [⟨some 4, none, .op (.mv (.const (.bool false)))⟩]
def c37_5 : C := .reg [⟨some 11, none, .op (.mv (.tmp 5))⟩,
    ⟨some 12, none, .op (.bin .add (.tmp 11) (.const (.int .i64 1)))⟩,
    ⟨some 5, none, .op (.mv (.tmp 12))⟩]
def c37_6 : C := .reg [⟨some 4, none, .op (.mv (.const (.bool true)))⟩]
def c37 : Fn' := ⟨(.seq c37_0 (.seq (.seq c37_1 (.block 0 (.loop (.seq (.seq c37_2 (.cond (.tmp 10) .skip (.exit 0))) (.seq (.block 1 (.seq c37_3 (.cond (.tmp 32) (.seq c37_4 .ret) .skip))) c37_5))))) (.seq c37_6 .ret))), [.tmp 4]⟩
theorem comp37 : compFn Tryz.prog 37 = some c37 := by kernel_rfl

def c38_0 : C := .reg [⟨some 4, none, .op (.box (.tmp 0))⟩,
    ⟨some 8, none, .op (.mv (.const (.int .u8 0)))⟩,
    ⟨some 9, none, .op (.mv (.const (.bool false)))⟩]
def c38_1 : C := .reg [⟨some 14, none, .op (.ld (some 6) (.tmp 4))⟩,
    ⟨some 15, none, .op (.mv (.tmp 1))⟩,
    ⟨some 16, none, .op (.mv (.tmp 2))⟩,
    ⟨some 17, none, .call 39 [.tmp 14, .tmp 15, .tmp 16]⟩,
    ⟨some 13, none, .op (.mv (.tmp 17))⟩,
    ⟨some 18, none, .op (.ext (.tmp 13) 0)⟩,
    ⟨some 19, none, .op (.ext (.tmp 13) 1)⟩,
    ⟨some 20, none, .op (.ext (.tmp 13) 2)⟩,
    ⟨some 10, none, .op (.mv (.tmp 18))⟩,
    ⟨some 11, none, .op (.mv (.tmp 19))⟩,
    ⟨some 12, none, .op (.mv (.tmp 20))⟩]
def c38_2 : C := .reg [⟨some 21, none, .op (.mv (.tmp 10))⟩,
    ⟨some 22, none, .op (.mv (.tmp 3))⟩,
    ⟨some 23, none, .call 90 [.tmp 21, .tmp 22]⟩,
    ⟨some 24, none, .op (.mv (.tmp 12))⟩,
    ⟨some 25, none, .op (.bin .eql (.tmp 24) (.const (.int .i64 0)))⟩,
    ⟨some 26, none, .op (.mv (.tmp 25))⟩,
    ⟨some 27, (some (26, true)), .op (.ld (some 6) (.tmp 4))⟩,
    ⟨some 28, (some (26, true)), .op (.mv (.tmp 10))⟩,
    ⟨some 29, (some (26, true)), .call 47 [.tmp 27, .tmp 28]⟩,
    ⟨some 30, none, .op (.pick (.tmp 26) (.tmp 29) (.const (.bool false)))⟩,
    ⟨some 8, none, .op (.mv (.tmp 23))⟩,
    ⟨some 9, none, .op (.mv (.tmp 30))⟩]
def c38 : Fn' := ⟨(.seq c38_0 (.seq c38_1 (.seq c38_2 .ret))), [.tmp 8, .tmp 9]⟩
theorem comp38 : compFn Tryz.prog 38 = some c38 := by kernel_rfl

def c39_0 : C := .reg [⟨some 3, none, .op (.box (.tmp 0))⟩,
    ⟨some 6, none, .op (.mv (.const (.slice none 0 0)))⟩,
    ⟨some 7, none, .op (.mv (.const (.slice none 0 0)))⟩,
    ⟨some 8, none, .op (.mv (.const (.int .i64 0)))⟩]
def c39_1 : C := .reg [⟨some 13, none, .op (.ld (some 6) (.tmp 3))⟩,
    ⟨some 14, none, .call 79 [.tmp 13]⟩,
    ⟨some 15, none, .op (.un .not (.tmp 14))⟩,
    ⟨some 16, none, .op (.mv (.tmp 15))⟩,
    ⟨some 17, (some (16, false)), .op (.mv (.tmp 1))⟩,
    ⟨some 18, (some (16, false)), .op (.fa 1 (.tmp 3))⟩,
    ⟨some 19, (some (16, false)), .op (.ld none (.tmp 18))⟩,
    ⟨some 20, (some (16, false)), .op (.len (.tmp 19))⟩,
    ⟨some 21, (some (16, false)), .call 91 [.tmp 17, .tmp 20]⟩,
    ⟨some 22, (some (16, false)), .op (.un .not (.tmp 21))⟩,
    ⟨some 23, none, .op (.pick (.tmp 16) (.const (.bool true)) (.tmp 22))⟩,
    ⟨some 24, none, .op (.mv (.tmp 23))⟩,
    ⟨some 25, (some (24, false)), .op (.mv (.tmp 2))⟩,
    ⟨some 26, (some (24, false)), .op (.fa 0 (.tmp 3))⟩,
    ⟨some 27, (some (24, false)), .op (.ld none (.tmp 26))⟩,
    ⟨some 28, (some (24, false)), .call 91 [.tmp 25, .tmp 27]⟩,
    ⟨some 29, (some (24, false)), .op (.un .not (.tmp 28))⟩,
    ⟨some 30, none, .op (.pick (.tmp 24) (.const (.bool true)) (.tmp 29))⟩]
def c39_2 : C := .reg [⟨some 6, none, .op (.mv (.const (.slice none 0 0)))⟩,
    ⟨some 7, none, .op (.mv (.const (.slice none 0 0)))⟩,
    ⟨some 8, none, .op (.mv (.const (.int .i64 2)))⟩]
def c39_3 : C := .reg [⟨some 31, none, .op (.mkSl (reps 1 [(.int .u8 0)]) 1 [(0, 1, .const (.int .u8 0))])⟩,
    ⟨some 9, none, .op (.mv (.tmp 31))⟩]
def c39_4 : C := .reg [⟨some 32, none, .op (.mv (.tmp 9))⟩,
    ⟨some 33, none, .op (.mv (.tmp 2))⟩,
    ⟨some 34, none, .op (.app 1 1 (.tmp 32) (.tmp 33))⟩,
    ⟨some 35, none, .op (.mv (.tmp 1))⟩,
    ⟨some 36, none, .op (.app 1 1 (.tmp 34) (.tmp 35))⟩,
    ⟨some 9, none, .op (.mv (.tmp 36))⟩]
def c39_5 : C := .reg [⟨some 10, none, .op (.mv (.const (.int .i64 0)))⟩]
def c39_6 : C := .reg [⟨some 37, none, .op (.mv (.tmp 10))⟩,
    ⟨some 38, none, .op (.fa 2 (.tmp 3))⟩,
    ⟨some 39, none, .op (.ld none (.tmp 38))⟩,
    ⟨some 40, none, .op (.len (.tmp 39))⟩,
    ⟨some 41, none, .op (.bin .lss (.tmp 37) (.tmp 40))⟩]
def c39_7 : C := .regD 1 [⟨0, ⟨some 44, none, .op (.mv (.tmp 9))⟩, none, []⟩,
    ⟨1, ⟨some 45, none, .op (.mv (.tmp 9))⟩, none, []⟩,
    ⟨2, ⟨some 46, none, .op (.fa 2 (.tmp 3))⟩, none, []⟩,
    ⟨3, ⟨some 47, none, .op (.ld none (.tmp 46))⟩, none, []⟩,
    ⟨4, ⟨some 48, none, .op (.mv (.tmp 10))⟩, none, []⟩,
    ⟨5, ⟨some 49, none, .op (.ia 2 (.tmp 47) (.tmp 48))⟩, none, []⟩,
    ⟨6, ⟨some 50, none, .op (.fa 0 (.tmp 49))⟩, none, []⟩,
    ⟨7, ⟨some 51, none, .op (.ld none (.tmp 50))⟩, none, []⟩,
    ⟨9, ⟨some 53, none, .op (.mv (.tmp 9))⟩, none, []⟩,
    ⟨10, ⟨some 54, none, .op (.fa 2 (.tmp 3))⟩, none, []⟩,
    ⟨11, ⟨some 55, none, .op (.ld none (.tmp 54))⟩, none, []⟩,
    ⟨12, ⟨some 56, none, .op (.mv (.tmp 10))⟩, none, []⟩,
    ⟨13, ⟨some 57, none, .op (.ia 2 (.tmp 55) (.tmp 56))⟩, none, []⟩,
    ⟨14, ⟨some 58, none, .op (.fa 1 (.tmp 57))⟩, none, []⟩,
    ⟨15, ⟨some 59, none, .op (.ld none (.tmp 58))⟩, none, []⟩,
    ⟨8, ⟨some 52, none, .call 90 [.tmp 45, .tmp 51]⟩, none, [(none, .tmp 58, 59, none), (none, .tmp 54, 55, none)]⟩,
    ⟨16, ⟨some 60, none, .call 90 [.tmp 53, .tmp 59]⟩, none, []⟩,
    ⟨17, ⟨some 61, none, .call 92 [.tmp 52, .tmp 60]⟩, none, []⟩,
    ⟨18, ⟨some 62, none, .op (.mkSl (reps 1 [(.int .u8 0)]) 1 [(0, 1, .tmp 61)])⟩, some 0, []⟩,
    ⟨19, ⟨some 63, none, .op (.app 1 1 (.tmp 44) (.tmp 62))⟩, none, []⟩,
    ⟨20, ⟨some 9, none, .op (.mv (.tmp 63))⟩, none, []⟩]
def c39_8 : C := .reg [⟨some 42, none, .op (.mv (.tmp 10))⟩,
    ⟨some 43, none, .op (.bin .add (.tmp 42) (.const (.int .i64 1)))⟩,
    ⟨some 10, none, .op (.mv (.tmp 43))⟩]
def c39_9 : C := .reg [⟨some 11, none, .op (.mv (.const (.slice none 0 0)))⟩]
def c39_10 : C := .reg [⟨some 12, none, .op (.mv (.const (.int .i64 0)))⟩]
def c39_11 : C := .reg [⟨some 64, none, .op (.mv (.tmp 12))⟩,
    ⟨some 65, none, .op (.fa 1 (.tmp 3))⟩,
    ⟨some 66, none, .op (.ld none (.tmp 65))⟩,
    ⟨some 67, none, .op (.len (.tmp 66))⟩,
    ⟨some 68, none, .op (.bin .lss (.tmp 64) (.tmp 67))⟩]
def c39_12 : C := .reg [⟨some 71, none, .op (.mv (.tmp 11))⟩,
    ⟨some 72, none, .op (.mv (.tmp 9))⟩,
    ⟨some 73, none, .op (.fa 1 (.tmp 3))⟩,
    ⟨some 74, none, .op (.ld none (.tmp 73))⟩,
    ⟨some 75, none, .op (.mv (.tmp 12))⟩,
    ⟨some 76, none, .op (.ia 2 (.tmp 74) (.tmp 75))⟩,
    ⟨some 77, none, .op (.fa 0 (.tmp 76))⟩,
    ⟨some 78, none, .op (.ld none (.tmp 77))⟩,
    ⟨some 79, none, .call 90 [.tmp 72, .tmp 78]⟩,
    ⟨some 80, none, .op (.mkSl (reps 1 [(.int .u8 0)]) 1 [(0, 1, .tmp 79)])⟩,
    ⟨some 81, none, .op (.app 1 1 (.tmp 71) (.tmp 80))⟩,
    ⟨some 11, none, .op (.mv (.tmp 81))⟩]
def c39_13 : C := .reg [⟨some 69, none, .op (.mv (.tmp 12))⟩,
    ⟨some 70, none, .op (.bin .add (.tmp 69) (.const (.int .i64 1)))⟩,
    ⟨some 12, none, .op (.mv (.tmp 70))⟩]
def c39_14 : C := .reg [⟨some 82, none, .op (.mv (.tmp 9))⟩,
    ⟨some 83, none, .op (.mv (.tmp 11))⟩,
    ⟨some 6, none, .op (.mv (.tmp 82))⟩,
    ⟨some 7, none, .op (.mv (.tmp 83))⟩,
    ⟨some 8, none, .op (.mv (.const (.int .i64 0)))⟩]
def c39 : Fn' := ⟨(.seq c39_0 (.seq (.seq c39_1 (.cond (.tmp 30) (.seq c39_2 .ret) .skip)) (.seq c39_3 (.seq c39_4 (.seq (.seq c39_5 (.block 0 (.loop (.seq (.seq c39_6 (.cond (.tmp 41) .skip (.exit 0))) (.seq (.block 1 c39_7) c39_8))))) (.seq c39_9 (.seq (.seq c39_10 (.block 2 (.loop (.seq (.seq c39_11 (.cond (.tmp 68) .skip (.exit 2))) (.seq (.block 3 c39_12) c39_13))))) (.seq c39_14 .ret)))))))), [.tmp 6, .tmp 7, .tmp 8]⟩
theorem comp39 : compFn Tryz.prog 39 = some c39 := by kernel_rfl

def c40_0 : C := .reg [⟨some 1, none, .op (.box (.tmp 0))⟩,
    ⟨some 2, none, .op (.mv (.const (.bool false)))⟩]
def c40_1 : C := .reg [⟨some 3, none, .op (.ld (some 6) (.tmp 1))⟩,
    ⟨some 4, none, .call 79 [.tmp 3]⟩,
    ⟨some 5, none, .op (.mv (.tmp 4))⟩,
    ⟨some 6, (some (5, true)), .op (.fa 1 (.tmp 1))⟩,
    ⟨some 7, (some (5, true)), .op (.ld none (.tmp 6))⟩,
    ⟨some 8, (some (5, true)), .op (.len (.tmp 7))⟩,
    ⟨some 9, (some (5, true)), .op (.bin .leq (.tmp 8) (.const (.int .i64 4)))⟩,
    ⟨some 10, none, .op (.pick (.tmp 5) (.tmp 9) (.const (.bool false)))⟩,
    ⟨some 11, none, .op (.mv (.tmp 10))⟩,
    ⟨some 12, (some (11, true)), .op (.fa 0 (.tmp 1))⟩,
    ⟨some 13, (some (11, true)), .op (.ld none (.tmp 12))⟩,
    ⟨some 14, (some (11, true)), .op (.bin .leq (.tmp 13) (.const (.int .i64 3)))⟩,
    ⟨some 15, none, .op (.pick (.tmp 11) (.tmp 14) (.const (.bool false)))⟩,
    ⟨some 16, none, .op (.mv (.tmp 15))⟩,
    ⟨some 17, (some (16, true)), .op (.fa 2 (.tmp 1))⟩,
    ⟨some 18, (some (16, true)), .op (.ld none (.tmp 17))⟩,
    ⟨some 19, (some (16, true)), .op (.len (.tmp 18))⟩,
    ⟨some 20, (some (16, true)), .op (.bin .leq (.tmp 19) (.const (.int .i64 40)))⟩,
    ⟨some 21, none, .op (.pick (.tmp 16) (.tmp 20) (.const (.bool false)))⟩,
    ⟨some 22, none, .op (.mv (.tmp 21))⟩,
    ⟨some 23, (some (22, true)), .op (.fa 5 (.tmp 1))⟩,
    ⟨some 24, (some (22, true)), .op (.ld none (.tmp 23))⟩,
    ⟨some 25, (some (22, true)), .op (.len (.tmp 24))⟩,
    ⟨some 26, (some (22, true)), .op (.bin .leq (.tmp 25) (.const (.int .i64 4)))⟩,
    ⟨some 27, none, .op (.pick (.tmp 22) (.tmp 26) (.const (.bool false)))⟩,
    ⟨some 2, none, .op (.mv (.tmp 27))⟩]
def c40 : Fn' := ⟨(.seq c40_0 (.seq c40_1 .ret)), [.tmp 2]⟩
theorem comp40 : compFn Tryz.prog 40 = some c40 := by kernel_rfl

def c41_0 : C := .reg [⟨some 3, none, .op (.box (.tmp 0))⟩,
    ⟨some 4, none, .op (.box (.tmp 1))⟩,
    ⟨some 6, none, .op (.mv (.const (.bool false)))⟩,
    ⟨some 7, none, .op (.mv (.const (.bool false)))⟩]
def c41_1 : C := .reg [⟨some 8, none, .op (.mv (.const (.bool true)))⟩,
    ⟨some 9, none, .op (.mv (.const (.bool true)))⟩]
def c41_2 : C := .reg [⟨some 10, none, .op (.mv (.const (.int .i64 0)))⟩]
def c41_3 : C := .reg [⟨some 20, none, .op (.mv (.tmp 10))⟩,
    ⟨some 21, none, .op (.fa 1 (.tmp 3))⟩,
    ⟨some 22, none, .op (.ld none (.tmp 21))⟩,
    ⟨some 23, none, .op (.len (.tmp 22))⟩,
    ⟨some 24, none, .op (.conv .u64 (.tmp 23))⟩,
    ⟨some 25, none, .op (.bin .shl (.const (.int .i64 1)) (.tmp 24))⟩,
    ⟨some 26, none, .op (.bin .lss (.tmp 20) (.tmp 25))⟩]
def c41_4 : C := .reg [⟨some 29, none, .op (.mv (.tmp 10))⟩,
    ⟨some 30, none, .op (.fa 1 (.tmp 3))⟩,
    ⟨some 31, none, .op (.ld none (.tmp 30))⟩,
    ⟨some 32, none, .op (.len (.tmp 31))⟩,
    ⟨some 33, none, .call 53 [.tmp 29, .tmp 32]⟩,
    ⟨some 11, none, .op (.mv (.tmp 33))⟩]
def c41_5 : C := .reg [⟨some 35, none, .op (.ld (some 6) (.tmp 3))⟩,
    ⟨some 36, none, .op (.ld (some 1) (.tmp 4))⟩,
    ⟨some 37, none, .op (.mv (.tmp 11))⟩,
    ⟨some 38, none, .call 36 [.tmp 35, .tmp 36, .tmp 37]⟩,
    ⟨some 34, none, .op (.mv (.tmp 38))⟩,
    ⟨some 39, none, .op (.ext (.tmp 34) 0)⟩,
    ⟨some 40, none, .op (.ext (.tmp 34) 1)⟩,
    ⟨some 12, none, .op (.mv (.tmp 39))⟩,
    ⟨some 13, none, .op (.mv (.tmp 40))⟩]
def c41_6 : C := .reg [⟨some 41, none, .op (.mv (.tmp 12))⟩,
    ⟨some 42, none, .op (.un .not (.tmp 41))⟩]
def c41_7 : C := .reg [⟨some 14, none, .op (.mv (.const (.int .i64 0)))⟩]
def c41_8 : C := .reg [⟨some 43, none, .op (.mv (.tmp 14))⟩,
    ⟨some 44, none, .op (.fa 0 (.tmp 3))⟩,
    ⟨some 45, none, .op (.ld none (.tmp 44))⟩,
    ⟨some 46, none, .op (.conv .u64 (.tmp 45))⟩,
    ⟨some 47, none, .op (.bin .shl (.const (.int .i64 1)) (.tmp 46))⟩,
    ⟨some 48, none, .op (.bin .lss (.tmp 43) (.tmp 47))⟩]
def c41_9 : C := .regD 0 [⟨0, ⟨some 52, none, .op (.ld (some 6) (.tmp 3))⟩, none, []⟩,
    ⟨1, ⟨some 53, none, .op (.mv (.tmp 11))⟩, none, []⟩,
    ⟨2, ⟨some 54, none, .op (.mv (.tmp 14))⟩, none, []⟩,
    ⟨3, ⟨some 55, none, .op (.fa 0 (.tmp 3))⟩, none, []⟩,
    ⟨4, ⟨some 56, none, .op (.ld none (.tmp 55))⟩, none, []⟩,
    ⟨5, ⟨some 57, none, .call 53 [.tmp 54, .tmp 56]⟩, none, [(some 6, .tmp 3, 52, none)]⟩,
    ⟨6, ⟨some 58, none, .call 39 [.tmp 52, .tmp 53, .tmp 57]⟩, none, []⟩,
    ⟨7, ⟨some 51, none, .op (.mv (.tmp 58))⟩, none, []⟩,
    ⟨8, ⟨some 59, none, .op (.ext (.tmp 51) 0)⟩, none, []⟩,
    ⟨9, ⟨some 60, none, .op (.ext (.tmp 51) 1)⟩, none, []⟩,
    ⟨10, ⟨some 61, none, .op (.ext (.tmp 51) 2)⟩, none, []⟩,
    ⟨11, ⟨some 15, none, .op (.mv (.tmp 59))⟩, none, []⟩,
    ⟨12, ⟨some 16, none, .op (.mv (.tmp 60))⟩, none, []⟩,
    ⟨13, ⟨some 17, none, .op (.mv (.tmp 61))⟩, none, []⟩]
def c41_10 : C := .reg [⟨some 62, none, .op (.ld (some 6) (.tmp 3))⟩,
    ⟨some 63, none, .op (.mv (.tmp 15))⟩,
    ⟨some 64, none, .call 47 [.tmp 62, .tmp 63]⟩,
    ⟨some 65, none, .op (.un .not (.tmp 64))⟩]
def c41_11 : C := .reg [⟨some 67, none, .op (.ld (some 6) (.tmp 3))⟩,
    ⟨some 68, none, .op (.ld (some 1) (.tmp 4))⟩,
    ⟨some 69, none, .op (.mv (.tmp 16))⟩,
    ⟨some 70, none, .call 36 [.tmp 67, .tmp 68, .tmp 69]⟩,
    ⟨some 66, none, .op (.mv (.tmp 70))⟩,
    ⟨some 71, none, .op (.ext (.tmp 66) 0)⟩,
    ⟨some 72, none, .op (.ext (.tmp 66) 1)⟩,
    ⟨some 18, none, .op (.mv (.tmp 71))⟩,
    ⟨some 19, none, .op (.mv (.tmp 72))⟩]
def c41_12 : C := .reg [⟨some 73, none, .op (.mv (.tmp 8))⟩,
    ⟨some 74, none, .op (.mv (.tmp 73))⟩,
    ⟨some 75, (some (74, true)), .op (.mv (.tmp 18))⟩,
    ⟨some 76, none, .op (.pick (.tmp 74) (.tmp 75) (.const (.bool false)))⟩,
    ⟨some 8, none, .op (.mv (.tmp 76))⟩]
def c41_13 : C := .reg [⟨some 77, none, .op (.mv (.tmp 9))⟩,
    ⟨some 78, none, .op (.mv (.tmp 77))⟩,
    ⟨some 79, (some (78, true)), .op (.mv (.tmp 15))⟩,
    ⟨some 80, (some (78, true)), .op (.mv (.tmp 2))⟩,
    ⟨some 81, (some (78, true)), .call 90 [.tmp 79, .tmp 80]⟩,
    ⟨some 82, (some (78, true)), .op (.bin .neq (.tmp 81) (.const (.int .u8 1)))⟩,
    ⟨some 83, none, .op (.pick (.tmp 78) (.tmp 82) (.const (.bool false)))⟩,
    ⟨some 9, none, .op (.mv (.tmp 83))⟩]
def c41_14 : C := .reg [⟨some 49, none, .op (.mv (.tmp 14))⟩,
    ⟨some 50, none, .op (.bin .add (.tmp 49) (.const (.int .i64 1)))⟩,
    ⟨some 14, none, .op (.mv (.tmp 50))⟩]
def c41_15 : C := .reg [⟨some 27, none, .op (.mv (.tmp 10))⟩,
    ⟨some 28, none, .op (.bin .add (.tmp 27) (.const (.int .i64 1)))⟩,
    ⟨some 10, none, .op (.mv (.tmp 28))⟩]
def c41_16 : C := .reg [⟨some 84, none, .op (.mv (.tmp 8))⟩,
    ⟨some 85, none, .op (.mv (.tmp 9))⟩,
    ⟨some 6, none, .op (.mv (.tmp 84))⟩,
    ⟨some 7, none, .op (.mv (.tmp 85))⟩]
def c41 : Fn' := ⟨(.seq c41_0 (.seq c41_1 (.seq (.seq c41_2 (.block 0 (.loop (.seq (.seq c41_3 (.cond (.tmp 26) .skip (.exit 0))) (.seq (.block 1 (.seq c41_4 (.seq (.seq c41_5 (.seq c41_6 (.cond (.tmp 42) (.exit 1) .skip))) (.seq c41_7 (.block 2 (.loop (.seq (.seq c41_8 (.cond (.tmp 48) .skip (.exit 2))) (.seq (.block 3 (.seq c41_9 (.seq (.seq c41_10 (.cond (.tmp 65) (.exit 3) .skip)) (.seq c41_11 (.seq c41_12 c41_13))))) c41_14)))))))) c41_15))))) (.seq c41_16 .ret)))), [.tmp 6, .tmp 7]⟩
theorem comp41 : compFn Tryz.prog 41 = some c41 := by kernel_rfl

def c42_0 : C := .reg [⟨some 2, none, .op (.box (.tmp 0))⟩,
    ⟨some 3, none, .op (.box (.tmp 1))⟩,
    ⟨some 4, none, .op (.mv (.const (.bool false)))⟩]
def c42_1 : C := .reg [⟨some 5, none, .op (.mv (.const (.int .i64 0)))⟩]
def c42_2 : C := .reg [⟨some 9, none, .op (.mv (.tmp 5))⟩,
    ⟨some 10, none, .op (.fa 1 (.tmp 2))⟩,
    ⟨some 11, none, .op (.ld none (.tmp 10))⟩,
    ⟨some 12, none, .op (.len (.tmp 11))⟩,
    ⟨some 13, none, .op (.conv .u64 (.tmp 12))⟩,
    ⟨some 14, none, .op (.bin .shl (.const (.int .i64 1)) (.tmp 13))⟩,
    ⟨some 15, none, .op (.bin .lss (.tmp 9) (.tmp 14))⟩]
def c42_3 : C := .reg [⟨some 18, none, .op (.mv (.tmp 5))⟩,
    ⟨some 19, none, .op (.fa 1 (.tmp 2))⟩,
    ⟨some 20, none, .op (.ld none (.tmp 19))⟩,
    ⟨some 21, none, .op (.len (.tmp 20))⟩,
    ⟨some 22, none, .call 53 [.tmp 18, .tmp 21]⟩,
    ⟨some 6, none, .op (.mv (.tmp 22))⟩]
def c42_4 : C := .reg [⟨some 24, none, .op (.ld (some 6) (.tmp 2))⟩,
    ⟨some 25, none, .op (.ld (some 1) (.tmp 3))⟩,
    ⟨some 26, none, .op (.mv (.tmp 6))⟩,
    ⟨some 27, none, .call 36 [.tmp 24, .tmp 25, .tmp 26]⟩,
    ⟨some 23, none, .op (.mv (.tmp 27))⟩,
    ⟨some 28, none, .op (.ext (.tmp 23) 0)⟩,
    ⟨some 29, none, .op (.ext (.tmp 23) 1)⟩,
    ⟨some 7, none, .op (.mv (.tmp 28))⟩,
    ⟨some 8, none, .op (.mv (.tmp 29))⟩]
def c42_5 : C := .reg [⟨some 30, none, .op (.ld (some 6) (.tmp 2))⟩,
    ⟨some 31, none, .op (.mv (.tmp 6))⟩,
    ⟨some 32, none, .call 37 [.tmp 30, .tmp 31]⟩,
    ⟨some 33, none, .op (.mv (.tmp 32))⟩,
    ⟨some 34, (some (33, true)), .op (.mv (.tmp 7))⟩,
    ⟨some 35, (some (33, true)), .op (.un .not (.tmp 34))⟩,
    ⟨some 36, none, .op (.pick (.tmp 33) (.tmp 35) (.const (.bool false)))⟩]
def c42_6 : C := .reg [⟨some 4, none, .op (.mv (.const (.bool false)))⟩]
def c42_7 : C := .reg [⟨some 16, none, .op (.mv (.tmp 5))⟩,
    ⟨some 17, none, .op (.bin .add (.tmp 16) (.const (.int .i64 1)))⟩,
    ⟨some 5, none, .op (.mv (.tmp 17))⟩]
def c42_8 : C := .reg [⟨some 4, none, .op (.mv (.const (.bool true)))⟩]
def c42 : Fn' := ⟨(.seq c42_0 (.seq (.seq c42_1 (.block 0 (.loop (.seq (.seq c42_2 (.cond (.tmp 15) .skip (.exit 0))) (.seq (.block 1 (.seq c42_3 (.seq c42_4 (.seq c42_5 (.cond (.tmp 36) (.seq c42_6 .ret) .skip))))) c42_7))))) (.seq c42_8 .ret))), [.tmp 4]⟩
theorem comp42 : compFn Tryz.prog 42 = some c42 := by kernel_rfl

def c43_0 : C := .reg [⟨some 2, none, .op (.box (.tmp 0))⟩,
    ⟨some 3, none, .op (.box (.tmp 1))⟩,
    ⟨some 4, none, .op (.mv (.const (.bool false)))⟩]
def c43_1 : C := .reg [⟨some 7, none, .op (.ld (some 6) (.tmp 2))⟩,
    ⟨some 8, none, .call 79 [.tmp 7]⟩,
    ⟨some 9, none, .op (.un .not (.tmp 8))⟩,
    ⟨some 10, none, .op (.mv (.tmp 9))⟩,
    ⟨some 11, (some (10, false)), .op (.fa 0 (.tmp 3))⟩,
    ⟨some 12, (some (10, false)), .op (.ld none (.tmp 11))⟩,
    ⟨some 13, (some (10, false)), .op (.bin .lss (.tmp 12) (.const (.int .i64 0)))⟩,
    ⟨some 14, none, .op (.pick (.tmp 10) (.const (.bool true)) (.tmp 13))⟩,
    ⟨some 15, none, .op (.mv (.tmp 14))⟩,
    ⟨some 16, (some (15, false)), .op (.fa 0 (.tmp 3))⟩,
    ⟨some 17, (some (15, false)), .op (.ld none (.tmp 16))⟩,
    ⟨some 18, (some (15, false)), .op (.fa 4 (.tmp 2))⟩,
    ⟨some 19, (some (15, false)), .op (.ld none (.tmp 18))⟩,
    ⟨some 20, (some (15, false)), .op (.len (.tmp 19))⟩,
    ⟨some 21, (some (15, false)), .op (.bin .geq (.tmp 17) (.tmp 20))⟩,
    ⟨some 22, none, .op (.pick (.tmp 15) (.const (.bool true)) (.tmp 21))⟩,
    ⟨some 23, none, .op (.mv (.tmp 22))⟩,
    ⟨some 24, (some (23, false)), .op (.fa 1 (.tmp 3))⟩,
    ⟨some 25, (some (23, false)), .op (.ld none (.tmp 24))⟩,
    ⟨some 26, (some (23, false)), .op (.fa 1 (.tmp 2))⟩,
    ⟨some 27, (some (23, false)), .op (.ld none (.tmp 26))⟩,
    ⟨some 28, (some (23, false)), .op (.len (.tmp 27))⟩,
    ⟨some 29, (some (23, false)), .call 93 [.tmp 25, .tmp 28]⟩,
    ⟨some 30, (some (23, false)), .op (.un .not (.tmp 29))⟩,
    ⟨some 31, none, .op (.pick (.tmp 23) (.const (.bool true)) (.tmp 30))⟩,
    ⟨some 32, none, .op (.mv (.tmp 31))⟩,
    ⟨some 33, (some (32, false)), .op (.fa 2 (.tmp 3))⟩,
    ⟨some 34, (some (32, false)), .op (.ld none (.tmp 33))⟩,
    ⟨some 35, (some (32, false)), .op (.len (.tmp 34))⟩,
    ⟨some 36, (some (32, false)), .op (.bin .lss (.tmp 35) (.const (.int .i64 1)))⟩,
    ⟨some 37, none, .op (.pick (.tmp 32) (.const (.bool true)) (.tmp 36))⟩,
    ⟨some 38, none, .op (.mv (.tmp 37))⟩,
    ⟨some 39, (some (38, false)), .op (.fa 2 (.tmp 3))⟩,
    ⟨some 40, (some (38, false)), .op (.ld none (.tmp 39))⟩,
    ⟨some 41, (some (38, false)), .op (.len (.tmp 40))⟩,
    ⟨some 42, (some (38, false)), .op (.bin .gtr (.tmp 41) (.const (.int .i64 256)))⟩,
    ⟨some 43, none, .op (.pick (.tmp 38) (.const (.bool true)) (.tmp 42))⟩]
def c43_2 : C := .reg [⟨some 4, none, .op (.mv (.const (.bool false)))⟩]
def c43_3 : C := .reg [⟨some 5, none, .op (.mv (.const (.int .i64 0)))⟩]
def c43_4 : C := .reg [⟨some 44, none, .op (.mv (.tmp 5))⟩,
    ⟨some 45, none, .op (.fa 2 (.tmp 3))⟩,
    ⟨some 46, none, .op (.ld none (.tmp 45))⟩,
    ⟨some 47, none, .op (.len (.tmp 46))⟩,
    ⟨some 48, none, .op (.bin .lss (.tmp 44) (.tmp 47))⟩]
def c43_5 : C := .regD 0 [⟨0, ⟨some 51, none, .op (.fa 2 (.tmp 3))⟩, none, []⟩,
    ⟨1, ⟨some 52, none, .op (.ld none (.tmp 51))⟩, none, []⟩,
    ⟨2, ⟨some 53, none, .op (.mv (.tmp 5))⟩, none, []⟩,
    ⟨3, ⟨some 54, none, .op (.ia 1 (.tmp 52) (.tmp 53))⟩, none, []⟩,
    ⟨4, ⟨some 55, none, .op (.ld none (.tmp 54))⟩, none, []⟩,
    ⟨5, ⟨some 56, none, .op (.fa 0 (.tmp 2))⟩, none, []⟩,
    ⟨6, ⟨some 57, none, .op (.ld none (.tmp 56))⟩, none, []⟩,
    ⟨7, ⟨some 58, none, .call 93 [.tmp 55, .tmp 57]⟩, none, []⟩,
    ⟨8, ⟨some 59, none, .op (.un .not (.tmp 58))⟩, none, []⟩]
def c43_6 : C := .reg [⟨some 4, none, .op (.mv (.const (.bool false)))⟩]
def c43_7 : C := .reg [⟨some 49, none, .op (.mv (.tmp 5))⟩,
    ⟨some 50, none, .op (.bin .add (.tmp 49) (.const (.int .i64 1)))⟩,
    ⟨some 5, none, .op (.mv (.tmp 50))⟩]
def c43_8 : C := .reg [⟨some 6, none, .op (.mv (.const (.int .i64 0)))⟩]
def c43_9 : C := .reg [⟨some 60, none, .op (.mv (.tmp 6))⟩,
    ⟨some 61, none, .op (.fa 1 (.tmp 3))⟩,
    ⟨some 62, none, .op (.ld none (.tmp 61))⟩,
    ⟨some 63, none, .op (.len (.tmp 62))⟩,
    ⟨some 64, none, .op (.bin .lss (.tmp 60) (.tmp 63))⟩]
def c43_10 : C := .regD 0 [⟨0, ⟨some 67, none, .op (.fa 1 (.tmp 2))⟩, none, []⟩,
    ⟨1, ⟨some 68, none, .op (.ld none (.tmp 67))⟩, none, []⟩,
    ⟨2, ⟨some 69, none, .op (.mv (.tmp 6))⟩, none, []⟩,
    ⟨3, ⟨some 70, none, .op (.ia 2 (.tmp 68) (.tmp 69))⟩, none, []⟩,
    ⟨4, ⟨some 71, none, .op (.fa 1 (.tmp 70))⟩, none, []⟩,
    ⟨5, ⟨some 72, none, .op (.ld none (.tmp 71))⟩, none, []⟩,
    ⟨6, ⟨some 73, none, .op (.bin .neq (.tmp 72) (.const (.int .u8 2)))⟩, none, []⟩,
    ⟨7, ⟨some 74, none, .op (.mv (.tmp 73))⟩, none, []⟩,
    ⟨8, ⟨some 75, (some (74, true)), .op (.fa 1 (.tmp 2))⟩, none, []⟩,
    ⟨9, ⟨some 76, (some (74, true)), .op (.ld none (.tmp 75))⟩, none, []⟩,
    ⟨10, ⟨some 77, (some (74, true)), .op (.mv (.tmp 6))⟩, none, []⟩,
    ⟨11, ⟨some 78, (some (74, true)), .op (.ia 2 (.tmp 76) (.tmp 77))⟩, none, []⟩,
    ⟨12, ⟨some 79, (some (74, true)), .op (.fa 1 (.tmp 78))⟩, none, []⟩,
    ⟨13, ⟨some 80, (some (74, true)), .op (.ld none (.tmp 79))⟩, none, []⟩,
    ⟨14, ⟨some 81, (some (74, true)), .op (.fa 1 (.tmp 3))⟩, none, []⟩,
    ⟨15, ⟨some 82, (some (74, true)), .op (.ld none (.tmp 81))⟩, none, []⟩,
    ⟨16, ⟨some 83, (some (74, true)), .op (.mv (.tmp 6))⟩, none, []⟩,
    ⟨17, ⟨some 84, (some (74, true)), .op (.ia 1 (.tmp 82) (.tmp 83))⟩, none, []⟩,
    ⟨18, ⟨some 85, (some (74, true)), .op (.ld none (.tmp 84))⟩, none, []⟩,
    ⟨19, ⟨some 86, (some (74, true)), .op (.bin .neq (.tmp 80) (.tmp 85))⟩, none, []⟩,
    ⟨20, ⟨some 87, none, .op (.pick (.tmp 74) (.tmp 86) (.const (.bool false)))⟩, none, []⟩]
def c43_11 : C := .reg [⟨some 4, none, .op (.mv (.const (.bool false)))⟩]
def c43_12 : C := .reg [⟨some 65, none, .op (.mv (.tmp 6))⟩,
    ⟨some 66, none, .op (.bin .add (.tmp 65) (.const (.int .i64 1)))⟩,
    ⟨some 6, none, .op (.mv (.tmp 66))⟩]
def c43_13 : C := .reg [⟨some 4, none, .op (.mv (.const (.bool true)))⟩]
def c43 : Fn' := ⟨(.seq c43_0 (.seq (.seq c43_1 (.cond (.tmp 43) (.seq c43_2 .ret) .skip)) (.seq (.seq c43_3 (.block 0 (.loop (.seq (.seq c43_4 (.cond (.tmp 48) .skip (.exit 0))) (.seq (.block 1 (.seq c43_5 (.cond (.tmp 59) (.seq c43_6 .ret) .skip))) c43_7))))) (.seq (.seq c43_8 (.block 2 (.loop (.seq (.seq c43_9 (.cond (.tmp 64) .skip (.exit 2))) (.seq (.block 3 (.seq c43_10 (.cond (.tmp 87) (.seq c43_11 .ret) .skip))) c43_12))))) (.seq c43_13 .ret))))), [.tmp 4]⟩
theorem comp43 : compFn Tryz.prog 43 = some c43 := by kernel_rfl

def c44_0 : C := .reg [⟨some 2, none, .op (.box (.tmp 0))⟩,
    ⟨some 3, none, .op (.box (.tmp 1))⟩,
    ⟨some 4, none, .op (.mv (.const (.bool false)))⟩,
    ⟨some 5, none, .op (.mv (.const (.int .i64 0)))⟩]
def c44_1 : C := .reg [⟨some 8, none, .op (.ld (some 6) (.tmp 2))⟩,
    ⟨some 9, none, .op (.ld (some 3) (.tmp 3))⟩,
    ⟨some 10, none, .call 43 [.tmp 8, .tmp 9]⟩,
    ⟨some 11, none, .op (.un .not (.tmp 10))⟩]
def c44_2 : C := .reg [⟨some 4, none, .op (.mv (.const (.bool false)))⟩,
    ⟨some 5, none, .op (.mv (.const (.int .i64 2)))⟩]
def c44_3 : C := .regD 0 [⟨0, ⟨some 13, none, .op (.ld (some 6) (.tmp 2))⟩, none, []⟩,
    ⟨1, ⟨some 14, none, .op (.ld (some 3) (.tmp 3))⟩, none, []⟩,
    ⟨2, ⟨some 15, none, .call 46 [.tmp 14]⟩, none, [(some 6, .tmp 2, 13, none)]⟩,
    ⟨3, ⟨some 16, none, .call 94 [.tmp 13, .tmp 15]⟩, none, []⟩,
    ⟨4, ⟨some 12, none, .op (.mv (.tmp 16))⟩, none, []⟩,
    ⟨5, ⟨some 17, none, .op (.ext (.tmp 12) 0)⟩, none, []⟩,
    ⟨6, ⟨some 18, none, .op (.ext (.tmp 12) 1)⟩, none, []⟩,
    ⟨7, ⟨some 6, none, .op (.mv (.tmp 17))⟩, none, []⟩,
    ⟨8, ⟨some 7, none, .op (.mv (.tmp 18))⟩, none, []⟩]
def c44_4 : C := .reg [⟨some 19, none, .op (.mv (.tmp 6))⟩,
    ⟨some 20, none, .op (.bin .eql (.tmp 19) (.const (.int .u8 1)))⟩,
    ⟨some 21, none, .op (.mv (.tmp 7))⟩,
    ⟨some 4, none, .op (.mv (.tmp 20))⟩,
    ⟨some 5, none, .op (.mv (.tmp 21))⟩]
def c44 : Fn' := ⟨(.seq c44_0 (.seq (.seq c44_1 (.cond (.tmp 11) (.seq c44_2 .ret) .skip)) (.seq c44_3 (.seq c44_4 .ret)))), [.tmp 4, .tmp 5]⟩
theorem comp44 : compFn Tryz.prog 44 = some c44 := by kernel_rfl

def c45_0 : C := .reg [⟨some 2, none, .op (.box (.tmp 0))⟩,
    ⟨some 3, none, .op (.box (.tmp 1))⟩,
    ⟨some 4, none, .op (.mv (.const (.slice none 0 0)))⟩,
    ⟨some 5, none, .op (.mv (.const (.int .i64 0)))⟩]
def c45_1 : C := .reg [⟨some 12, none, .op (.ld (some 6) (.tmp 2))⟩,
    ⟨some 13, none, .op (.ld (some 3) (.tmp 3))⟩,
    ⟨some 14, none, .call 43 [.tmp 12, .tmp 13]⟩,
    ⟨some 15, none, .op (.un .not (.tmp 14))⟩]
def c45_2 : C := .reg [⟨some 4, none, .op (.mv (.const (.slice none 0 0)))⟩,
    ⟨some 5, none, .op (.mv (.const (.int .i64 2)))⟩]
def c45_3 : C := .reg [⟨some 6, none, .op (.mv (.const (.slice none 0 0)))⟩]
def c45_4 : C := .reg [⟨some 16, none, .op (.fa 1 (.tmp 3))⟩,
    ⟨some 17, none, .op (.ld none (.tmp 16))⟩,
    ⟨some 7, none, .op (.mv (.tmp 17))⟩]
def c45_5 : C := .reg [⟨some 8, none, .op (.mv (.const (.int .i64 0)))⟩]
def c45_6 : C := .reg [⟨some 18, none, .op (.mv (.tmp 8))⟩,
    ⟨some 19, none, .op (.fa 2 (.tmp 3))⟩,
    ⟨some 20, none, .op (.ld none (.tmp 19))⟩,
    ⟨some 21, none, .op (.len (.tmp 20))⟩,
    ⟨some 22, none, .op (.bin .lss (.tmp 18) (.tmp 21))⟩]
def c45_7 : C := .regD 0 [⟨0, ⟨some 26, none, .op (.ld (some 6) (.tmp 2))⟩, none, []⟩,
    ⟨1, ⟨some 27, none, .op (.mv (.tmp 7))⟩, none, []⟩,
    ⟨2, ⟨some 28, none, .op (.fa 2 (.tmp 3))⟩, none, []⟩,
    ⟨3, ⟨some 29, none, .op (.ld none (.tmp 28))⟩, none, []⟩,
    ⟨4, ⟨some 30, none, .op (.mv (.tmp 8))⟩, none, []⟩,
    ⟨5, ⟨some 31, none, .op (.ia 1 (.tmp 29) (.tmp 30))⟩, none, []⟩,
    ⟨6, ⟨some 32, none, .op (.ld none (.tmp 31))⟩, none, []⟩,
    ⟨7, ⟨some 33, none, .call 39 [.tmp 26, .tmp 27, .tmp 32]⟩, none, []⟩,
    ⟨8, ⟨some 25, none, .op (.mv (.tmp 33))⟩, none, []⟩,
    ⟨9, ⟨some 34, none, .op (.ext (.tmp 25) 0)⟩, none, []⟩,
    ⟨10, ⟨some 35, none, .op (.ext (.tmp 25) 1)⟩, none, []⟩,
    ⟨11, ⟨some 36, none, .op (.ext (.tmp 25) 2)⟩, none, []⟩,
    ⟨12, ⟨some 9, none, .op (.mv (.tmp 34))⟩, none, []⟩,
    ⟨13, ⟨some 10, none, .op (.mv (.tmp 35))⟩, none, []⟩,
    ⟨14, ⟨some 11, none, .op (.mv (.tmp 36))⟩, none, []⟩]
def c45_8 : C := .reg [⟨some 37, none, .op (.mv (.tmp 6))⟩,
    ⟨some 38, none, .op (.mv (.tmp 9))⟩,
    ⟨some 39, none, .op (.mkSl (reps 1 [(.slice none 0 0)]) 1 [(0, 1, .tmp 38)])⟩,
    ⟨some 40, none, .op (.app 1 24 (.tmp 37) (.tmp 39))⟩,
    ⟨some 6, none, .op (.mv (.tmp 40))⟩]
def c45_9 : C := .reg [⟨some 41, none, .op (.mv (.tmp 10))⟩,
    ⟨some 7, none, .op (.mv (.tmp 41))⟩]
def c45_10 : C := .reg [⟨some 23, none, .op (.mv (.tmp 8))⟩,
    ⟨some 24, none, .op (.bin .add (.tmp 23) (.const (.int .i64 1)))⟩,
    ⟨some 8, none, .op (.mv (.tmp 24))⟩]
def c45_11 : C := .reg [⟨some 42, none, .op (.mv (.tmp 6))⟩,
    ⟨some 4, none, .op (.mv (.tmp 42))⟩,
    ⟨some 5, none, .op (.mv (.const (.int .i64 0)))⟩]
def c45 : Fn' := ⟨(.seq c45_0 (.seq (.seq c45_1 (.cond (.tmp 15) (.seq c45_2 .ret) .skip)) (.seq c45_3 (.seq c45_4 (.seq (.seq c45_5 (.block 0 (.loop (.seq (.seq c45_6 (.cond (.tmp 22) .skip (.exit 0))) (.seq (.block 1 (.seq c45_7 (.seq c45_8 c45_9))) c45_10))))) (.seq c45_11 .ret)))))), [.tmp 4, .tmp 5]⟩
theorem comp45 : compFn Tryz.prog 45 = some c45 := by kernel_rfl

def c46_0 : C := .reg [⟨some 1, none, .op (.box (.tmp 0))⟩,
    ⟨some 2, none, .op (.new [(.int .i64 0), (.slice none 0 0), (.slice none 0 0)])⟩]
def c46_1 : C := .regD 1 [⟨0, ⟨some 5, none, .op (.fa 0 (.tmp 1))⟩, none, []⟩,
    ⟨1, ⟨some 6, none, .op (.ld none (.tmp 5))⟩, none, []⟩,
    ⟨2, ⟨some 7, none, .op (.fa 1 (.tmp 1))⟩, none, []⟩,
    ⟨3, ⟨some 8, none, .op (.ld none (.tmp 7))⟩, none, []⟩,
    ⟨4, ⟨some 9, none, .call 95 [.tmp 8]⟩, none, [(none, .tmp 5, 6, none)]⟩,
    ⟨5, ⟨some 10, none, .op (.mk [(.int .i64 0), (.slice none 0 0), (.slice none 0 0)] [(0, 1, .tmp 6), (1, 1, .tmp 9)])⟩, none, []⟩,
    ⟨6, ⟨some 3, none, .op (.new [(.int .i64 0), (.slice none 0 0), (.slice none 0 0)])⟩, some 0, []⟩,
    ⟨7, ⟨none, none, .op (.st 3 (.tmp 3) (.tmp 10))⟩, none, []⟩]
def c46_2 : C := .reg [⟨some 4, none, .op (.mv (.const (.int .i64 0)))⟩]
def c46_3 : C := .reg [⟨some 11, none, .op (.mv (.tmp 4))⟩,
    ⟨some 12, none, .op (.fa 2 (.tmp 1))⟩,
    ⟨some 13, none, .op (.ld none (.tmp 12))⟩,
    ⟨some 14, none, .op (.len (.tmp 13))⟩,
    ⟨some 15, none, .op (.bin .lss (.tmp 11) (.tmp 14))⟩]
def c46_4 : C := .regD 1 [⟨0, ⟨some 18, none, .op (.fa 2 (.tmp 3))⟩, none, []⟩,
    ⟨1, ⟨some 19, none, .op (.ld none (.tmp 18))⟩, none, []⟩,
    ⟨2, ⟨some 20, none, .op (.fa 2 (.tmp 1))⟩, none, []⟩,
    ⟨3, ⟨some 21, none, .op (.ld none (.tmp 20))⟩, none, []⟩,
    ⟨4, ⟨some 22, none, .op (.mv (.tmp 4))⟩, none, []⟩,
    ⟨5, ⟨some 23, none, .op (.ia 1 (.tmp 21) (.tmp 22))⟩, none, []⟩,
    ⟨6, ⟨some 24, none, .op (.ld none (.tmp 23))⟩, none, []⟩,
    ⟨7, ⟨some 25, none, .call 95 [.tmp 24]⟩, none, [(none, .tmp 18, 19, none)]⟩,
    ⟨8, ⟨some 26, none, .op (.mkSl (reps 1 [(.slice none 0 0)]) 1 [(0, 1, .tmp 25)])⟩, some 0, []⟩,
    ⟨9, ⟨some 27, none, .op (.app 1 24 (.tmp 19) (.tmp 26))⟩, none, []⟩,
    ⟨10, ⟨some 28, none, .op (.fa 2 (.tmp 3))⟩, none, []⟩,
    ⟨11, ⟨none, none, .op (.st 1 (.tmp 28) (.tmp 27))⟩, none, []⟩]
def c46_5 : C := .reg [⟨some 16, none, .op (.mv (.tmp 4))⟩,
    ⟨some 17, none, .op (.bin .add (.tmp 16) (.const (.int .i64 1)))⟩,
    ⟨some 4, none, .op (.mv (.tmp 17))⟩]
def c46_6 : C := .reg [⟨some 29, none, .op (.ld (some 3) (.tmp 3))⟩,
    ⟨none, none, .op (.st 3 (.tmp 2) (.tmp 29))⟩]
def c46 : Fn' := ⟨(.seq c46_0 (.seq c46_1 (.seq (.seq c46_2 (.block 0 (.loop (.seq (.seq c46_3 (.cond (.tmp 15) .skip (.exit 0))) (.seq (.block 1 c46_4) c46_5))))) (.seq c46_6 .ret)))), [.cell 2 (some 3)]⟩
theorem comp46 : compFn Tryz.prog 46 = some c46 := by kernel_rfl

def c47_0 : C := .reg [⟨some 2, none, .op (.box (.tmp 0))⟩,
    ⟨some 4, none, .op (.mv (.const (.bool false)))⟩]
def c47_1 : C := .reg [⟨some 5, none, .op (.mv (.const (.int .i64 0)))⟩]
def c47_2 : C := .reg [⟨some 6, none, .op (.mv (.tmp 5))⟩,
    ⟨some 7, none, .op (.fa 5 (.tmp 2))⟩,
    ⟨some 8, none, .op (.ld none (.tmp 7))⟩,
    ⟨some 9, none, .op (.len (.tmp 8))⟩,
    ⟨some 10, none, .op (.bin .lss (.tmp 6) (.tmp 9))⟩]
def c47_3 : C := .reg [⟨some 13, none, .op (.mv (.tmp 1))⟩,
    ⟨some 14, none, .op (.fa 5 (.tmp 2))⟩,
    ⟨some 15, none, .op (.ld none (.tmp 14))⟩,
    ⟨some 16, none, .op (.mv (.tmp 5))⟩,
    ⟨some 17, none, .op (.ia 1 (.tmp 15) (.tmp 16))⟩,
    ⟨some 18, none, .op (.ld none (.tmp 17))⟩,
    ⟨some 19, none, .call 90 [.tmp 13, .tmp 18]⟩,
    ⟨some 20, none, .op (.bin .neq (.tmp 19) (.const (.int .u8 1)))⟩]
def c47_4 : C := .reg [⟨some 4, none, .op (.mv (.const (.bool false)))⟩]
def c47_5 : C := .reg [⟨some 11, none, .op (.mv (.tmp 5))⟩,
    ⟨some 12, none, .op (.bin .add (.tmp 11) (.const (.int .i64 1)))⟩,
    ⟨some 5, none, .op (.mv (.tmp 12))⟩]
def c47_6 : C := .reg [⟨some 4, none, .op (.mv (.const (.bool true)))⟩]
def c47 : Fn' := ⟨(.seq c47_0 (.seq (.seq c47_1 (.block 0 (.loop (.seq (.seq c47_2 (.cond (.tmp 10) .skip (.exit 0))) (.seq (.block 1 (.seq c47_3 (.cond (.tmp 20) (.seq c47_4 .ret) .skip))) c47_5))))) (.seq c47_6 .ret))), [.tmp 4]⟩
theorem comp47 : compFn Tryz.prog 47 = some c47 := by kernel_rfl

def c53_0 : C := .reg [⟨some 4, none, .op (.mv (.const (.slice none 0 0)))⟩]
def c53_1 : C := .reg [⟨some 5, none, .op (.mv (.const (.slice none 0 0)))⟩]
def c53_2 : C := .reg [⟨some 6, none, .op (.mv (.const (.int .i64 0)))⟩]
def c53_3 : C := .reg [⟨some 7, none, .op (.mv (.tmp 6))⟩,
    ⟨some 8, none, .op (.mv (.tmp 1))⟩,
    ⟨some 9, none, .op (.bin .lss (.tmp 7) (.tmp 8))⟩]
def c53_4 : C := .reg [⟨some 12, none, .op (.mv (.tmp 5))⟩,
    ⟨some 13, none, .op (.mv (.tmp 0))⟩,
    ⟨some 14, none, .op (.mv (.tmp 6))⟩,
    ⟨some 15, none, .op (.conv .u64 (.tmp 14))⟩,
    ⟨some 16, none, .op (.bin .shr (.tmp 13) (.tmp 15))⟩,
    ⟨some 17, none, .op (.bin .rem (.tmp 16) (.const (.int .i64 2)))⟩,
    ⟨some 18, none, .op (.conv .u8 (.tmp 17))⟩,
    ⟨some 19, none, .op (.mkSl (reps 1 [(.int .u8 0)]) 1 [(0, 1, .tmp 18)])⟩,
    ⟨some 20, none, .op (.app 1 1 (.tmp 12) (.tmp 19))⟩,
    ⟨some 5, none, .op (.mv (.tmp 20))⟩]
def c53_5 : C := .reg [⟨some 10, none, .op (.mv (.tmp 6))⟩,
    ⟨some 11, none, .op (.bin .add (.tmp 10) (.const (.int .i64 1)))⟩,
    ⟨some 6, none, .op (.mv (.tmp 11))⟩]
def c53_6 : C := .reg [⟨some 21, none, .op (.mv (.tmp 5))⟩,
    ⟨some 4, none, .op (.mv (.tmp 21))⟩]
def c53 : Fn' := ⟨(.seq c53_0 (.seq c53_1 (.seq (.seq c53_2 (.block 0 (.loop (.seq (.seq c53_3 (.cond (.tmp 9) .skip (.exit 0))) (.seq (.block 1 c53_4) c53_5))))) (.seq c53_6 .ret)))), [.tmp 4]⟩
theorem comp53 : compFn Tryz.prog 53 = some c53 := by kernel_rfl

def c79_0 : C := .reg [⟨some 1, none, .op (.box (.tmp 0))⟩,
    ⟨some 2, none, .op (.mv (.const (.bool false)))⟩]
def c79_1 : C := .reg [⟨some 7, none, .op (.fa 0 (.tmp 1))⟩,
    ⟨some 8, none, .op (.ld none (.tmp 7))⟩,
    ⟨some 9, none, .op (.bin .lss (.tmp 8) (.const (.int .i64 0)))⟩,
    ⟨some 10, none, .op (.mv (.tmp 9))⟩,
    ⟨some 11, (some (10, false)), .op (.fa 0 (.tmp 1))⟩,
    ⟨some 12, (some (10, false)), .op (.ld none (.tmp 11))⟩,
    ⟨some 13, (some (10, false)), .op (.bin .gtr (.tmp 12) (.const (.int .i64 16384)))⟩,
    ⟨some 14, none, .op (.pick (.tmp 10) (.const (.bool true)) (.tmp 13))⟩,
    ⟨some 15, none, .op (.mv (.tmp 14))⟩,
    ⟨some 16, (some (15, false)), .op (.fa 1 (.tmp 1))⟩,
    ⟨some 17, (some (15, false)), .op (.ld none (.tmp 16))⟩,
    ⟨some 18, (some (15, false)), .op (.len (.tmp 17))⟩,
    ⟨some 19, (some (15, false)), .op (.bin .gtr (.tmp 18) (.const (.int .i64 16384)))⟩,
    ⟨some 20, none, .op (.pick (.tmp 15) (.const (.bool true)) (.tmp 19))⟩,
    ⟨some 21, none, .op (.mv (.tmp 20))⟩,
    ⟨some 22, (some (21, false)), .op (.fa 2 (.tmp 1))⟩,
    ⟨some 23, (some (21, false)), .op (.ld none (.tmp 22))⟩,
    ⟨some 24, (some (21, false)), .op (.len (.tmp 23))⟩,
    ⟨some 25, (some (21, false)), .op (.bin .gtr (.tmp 24) (.const (.int .i64 16384)))⟩,
    ⟨some 26, none, .op (.pick (.tmp 21) (.const (.bool true)) (.tmp 25))⟩]
def c79_2 : C := .reg [⟨some 2, none, .op (.mv (.const (.bool false)))⟩]
def c79_3 : C := .reg [⟨some 27, none, .op (.fa 0 (.tmp 1))⟩,
    ⟨some 28, none, .op (.ld none (.tmp 27))⟩,
    ⟨some 29, none, .op (.fa 1 (.tmp 1))⟩,
    ⟨some 30, none, .op (.ld none (.tmp 29))⟩,
    ⟨some 31, none, .op (.len (.tmp 30))⟩,
    ⟨some 32, none, .op (.bin .add (.tmp 28) (.tmp 31))⟩,
    ⟨some 33, none, .op (.fa 2 (.tmp 1))⟩,
    ⟨some 34, none, .op (.ld none (.tmp 33))⟩,
    ⟨some 35, none, .op (.len (.tmp 34))⟩,
    ⟨some 36, none, .op (.bin .add (.tmp 32) (.tmp 35))⟩,
    ⟨some 3, none, .op (.mv (.tmp 36))⟩]
def c79_4 : C := .reg [⟨some 37, none, .op (.mv (.tmp 3))⟩,
    ⟨some 38, none, .op (.bin .gtr (.tmp 37) (.const (.int .i64 16384)))⟩]
def c79_5 : C := .reg [⟨some 2, none, .op (.mv (.const (.bool false)))⟩]
def c79_6 : C := .reg [⟨some 4, none, .op (.mv (.const (.int .i64 0)))⟩]
def c79_7 : C := .reg [⟨some 39, none, .op (.mv (.tmp 4))⟩,
    ⟨some 40, none, .op (.fa 1 (.tmp 1))⟩,
    ⟨some 41, none, .op (.ld none (.tmp 40))⟩,
    ⟨some 42, none, .op (.len (.tmp 41))⟩,
    ⟨some 43, none, .op (.bin .lss (.tmp 39) (.tmp 42))⟩]
def c79_8 : C := .reg [⟨some 46, none, .op (.fa 1 (.tmp 1))⟩,
    ⟨some 47, none, .op (.ld none (.tmp 46))⟩,
    ⟨some 48, none, .op (.mv (.tmp 4))⟩,
    ⟨some 49, none, .op (.ia 2 (.tmp 47) (.tmp 48))⟩,
    ⟨some 50, none, .op (.fa 0 (.tmp 49))⟩,
    ⟨some 51, none, .op (.ld none (.tmp 50))⟩,
    ⟨some 52, none, .op (.bin .quo (.tmp 51) (.const (.int .u32 2)))⟩,
    ⟨some 53, none, .op (.conv .i64 (.tmp 52))⟩,
    ⟨some 54, none, .op (.mv (.tmp 3))⟩,
    ⟨some 55, none, .op (.bin .gtr (.tmp 53) (.tmp 54))⟩,
    ⟨some 56, none, .op (.mv (.tmp 55))⟩,
    ⟨some 57, (some (56, false)), .op (.fa 1 (.tmp 1))⟩,
    ⟨some 58, (some (56, false)), .op (.ld none (.tmp 57))⟩,
    ⟨some 59, (some (56, false)), .op (.mv (.tmp 4))⟩,
    ⟨some 60, (some (56, false)), .op (.ia 2 (.tmp 58) (.tmp 59))⟩,
    ⟨some 61, (some (56, false)), .op (.fa 1 (.tmp 60))⟩,
    ⟨some 62, (some (56, false)), .op (.ld none (.tmp 61))⟩,
    ⟨some 63, (some (56, false)), .op (.bin .gtr (.tmp 62) (.const (.int .u8 2)))⟩,
    ⟨some 64, none, .op (.pick (.tmp 56) (.const (.bool true)) (.tmp 63))⟩]
def c79_9 : C := .reg [⟨some 2, none, .op (.mv (.const (.bool false)))⟩]
def c79_10 : C := .reg [⟨some 44, none, .op (.mv (.tmp 4))⟩,
    ⟨some 45, none, .op (.bin .add (.tmp 44) (.const (.int .i64 1)))⟩,
    ⟨some 4, none, .op (.mv (.tmp 45))⟩]
def c79_11 : C := .reg [⟨some 5, none, .op (.mv (.const (.int .i64 0)))⟩]
def c79_12 : C := .reg [⟨some 65, none, .op (.mv (.tmp 5))⟩,
    ⟨some 66, none, .op (.fa 2 (.tmp 1))⟩,
    ⟨some 67, none, .op (.ld none (.tmp 66))⟩,
    ⟨some 68, none, .op (.len (.tmp 67))⟩,
    ⟨some 69, none, .op (.bin .lss (.tmp 65) (.tmp 68))⟩]
def c79_13 : C := .reg [⟨some 72, none, .op (.fa 2 (.tmp 1))⟩,
    ⟨some 73, none, .op (.ld none (.tmp 72))⟩,
    ⟨some 74, none, .op (.mv (.tmp 5))⟩,
    ⟨some 75, none, .op (.ia 2 (.tmp 73) (.tmp 74))⟩,
    ⟨some 76, none, .op (.ld (some 2) (.tmp 75))⟩,
    ⟨some 6, none, .op (.new [(.int .u32 0), (.int .u32 0)])⟩,
    ⟨none, none, .op (.st 2 (.tmp 6) (.tmp 76))⟩]
def c79_14 : C := .reg [⟨some 77, none, .op (.fa 0 (.tmp 6))⟩,
    ⟨some 78, none, .op (.ld none (.tmp 77))⟩,
    ⟨some 79, none, .op (.bin .quo (.tmp 78) (.const (.int .u32 2)))⟩,
    ⟨some 80, none, .op (.conv .i64 (.tmp 79))⟩,
    ⟨some 81, none, .op (.fa 0 (.tmp 1))⟩,
    ⟨some 82, none, .op (.ld none (.tmp 81))⟩,
    ⟨some 83, none, .op (.fa 1 (.tmp 1))⟩,
    ⟨some 84, none, .op (.ld none (.tmp 83))⟩,
    ⟨some 85, none, .op (.len (.tmp 84))⟩,
    ⟨some 86, none, .op (.bin .add (.tmp 82) (.tmp 85))⟩,
    ⟨some 87, none, .op (.bin .add (.tmp 86) (.const (.int .i64 1)))⟩,
    ⟨some 88, none, .op (.mv (.tmp 5))⟩,
    ⟨some 89, none, .op (.bin .add (.tmp 87) (.tmp 88))⟩,
    ⟨some 90, none, .op (.bin .geq (.tmp 80) (.tmp 89))⟩,
    ⟨some 91, none, .op (.mv (.tmp 90))⟩,
    ⟨some 92, (some (91, false)), .op (.fa 0 (.tmp 6))⟩,
    ⟨some 93, (some (91, false)), .op (.ld none (.tmp 92))⟩,
    ⟨some 94, (some (91, false)), .op (.fa 1 (.tmp 6))⟩,
    ⟨some 95, (some (91, false)), .op (.ld none (.tmp 94))⟩,
    ⟨some 96, (some (91, false)), .op (.bin .lss (.tmp 93) (.tmp 95))⟩,
    ⟨some 97, none, .op (.pick (.tmp 91) (.const (.bool true)) (.tmp 96))⟩]
def c79_15 : C := .reg [⟨some 2, none, .op (.mv (.const (.bool false)))⟩]
def c79_16 : C := .reg [⟨some 70, none, .op (.mv (.tmp 5))⟩,
    ⟨some 71, none, .op (.bin .add (.tmp 70) (.const (.int .i64 1)))⟩,
    ⟨some 5, none, .op (.mv (.tmp 71))⟩]
def c79_17 : C := .reg [⟨some 98, none, .op (.fa 3 (.tmp 1))⟩,
    ⟨some 99, none, .op (.ld none (.tmp 98))⟩,
    ⟨some 100, none, .op (.mv (.tmp 3))⟩,
    ⟨some 101, none, .call 129 [.tmp 99, .tmp 100]⟩,
    ⟨some 102, none, .op (.mv (.tmp 101))⟩,
    ⟨some 103, (some (102, true)), .op (.fa 4 (.tmp 1))⟩,
    ⟨some 104, (some (102, true)), .op (.ld none (.tmp 103))⟩,
    ⟨some 105, (some (102, true)), .op (.mv (.tmp 3))⟩,
    ⟨some 106, (some (102, true)), .call 129 [.tmp 104, .tmp 105]⟩,
    ⟨some 107, none, .op (.pick (.tmp 102) (.tmp 106) (.const (.bool false)))⟩,
    ⟨some 108, none, .op (.mv (.tmp 107))⟩,
    ⟨some 109, (some (108, true)), .op (.fa 5 (.tmp 1))⟩,
    ⟨some 110, (some (108, true)), .op (.ld none (.tmp 109))⟩,
    ⟨some 111, (some (108, true)), .op (.mv (.tmp 3))⟩,
    ⟨some 112, (some (108, true)), .call 129 [.tmp 110, .tmp 111]⟩,
    ⟨some 113, none, .op (.pick (.tmp 108) (.tmp 112) (.const (.bool false)))⟩,
    ⟨some 2, none, .op (.mv (.tmp 113))⟩]
def c79 : Fn' := ⟨(.seq c79_0 (.seq (.seq c79_1 (.cond (.tmp 26) (.seq c79_2 .ret) .skip)) (.seq c79_3 (.seq (.seq c79_4 (.cond (.tmp 38) (.seq c79_5 .ret) .skip)) (.seq (.seq c79_6 (.block 0 (.loop (.seq (.seq c79_7 (.cond (.tmp 43) .skip (.exit 0))) (.seq (.block 1 (.seq c79_8 (.cond (.tmp 64) (.seq c79_9 .ret) .skip))) c79_10))))) (.seq (.seq c79_11 (.block 2 (.loop (.seq (.seq c79_12 (.cond (.tmp 69) .skip (.exit 2))) (.seq (.block 3 (.seq c79_13 (.seq c79_14 (.cond (.tmp 97) (.seq c79_15 .ret) .skip)))) c79_16))))) (.seq c79_17 .ret))))))), [.tmp 2]⟩
theorem comp79 : compFn Tryz.prog 79 = some c79 := by kernel_rfl

def c89_0 : C := .reg [⟨some 2, none, .op (.box (.tmp 0))⟩,
    ⟨some 4, none, .op (.mv (.const (.bool false)))⟩]
def c89_1 : C := .reg [⟨some 5, none, .op (.mv (.const (.int .i64 0)))⟩]
def c89_2 : C := .reg [⟨some 6, none, .op (.mv (.tmp 5))⟩,
    ⟨some 7, none, .op (.mv (.tmp 1))⟩,
    ⟨some 8, none, .op (.len (.tmp 7))⟩,
    ⟨some 9, none, .op (.bin .lss (.tmp 6) (.tmp 8))⟩]
def c89_3 : C := .reg [⟨some 12, none, .op (.mv (.tmp 1))⟩,
    ⟨some 13, none, .op (.mv (.tmp 5))⟩,
    ⟨some 14, none, .op (.ia 1 (.tmp 12) (.tmp 13))⟩,
    ⟨some 15, none, .op (.ld none (.tmp 14))⟩,
    ⟨some 16, none, .op (.bin .gtr (.tmp 15) (.const (.int .u8 1)))⟩]
def c89_4 : C := .reg [⟨some 4, none, .op (.mv (.const (.bool false)))⟩]
def c89_5 : C := .reg [⟨some 10, none, .op (.mv (.tmp 5))⟩,
    ⟨some 11, none, .op (.bin .add (.tmp 10) (.const (.int .i64 1)))⟩,
    ⟨some 5, none, .op (.mv (.tmp 11))⟩]
def c89_6 : C := .reg [⟨some 17, none, .op (.mv (.tmp 1))⟩,
    ⟨some 18, none, .op (.len (.tmp 17))⟩,
    ⟨some 19, none, .op (.fa 1 (.tmp 2))⟩,
    ⟨some 20, none, .op (.ld none (.tmp 19))⟩,
    ⟨some 21, none, .op (.len (.tmp 20))⟩,
    ⟨some 22, none, .op (.bin .eql (.tmp 18) (.tmp 21))⟩,
    ⟨some 4, none, .op (.mv (.tmp 22))⟩]
def c89 : Fn' := ⟨(.seq c89_0 (.seq (.seq c89_1 (.block 0 (.loop (.seq (.seq c89_2 (.cond (.tmp 9) .skip (.exit 0))) (.seq (.block 1 (.seq c89_3 (.cond (.tmp 16) (.seq c89_4 .ret) .skip))) c89_5))))) (.seq c89_6 .ret))), [.tmp 4]⟩
theorem comp89 : compFn Tryz.prog 89 = some c89 := by kernel_rfl

def c90_0 : C := .reg [⟨some 4, none, .op (.mv (.const (.int .u8 0)))⟩]
def c90_1 : C := .reg [⟨some 5, none, .op (.mv (.tmp 1))⟩,
    ⟨some 6, none, .op (.bin .quo (.tmp 5) (.const (.int .u32 2)))⟩,
    ⟨some 7, none, .op (.conv .i64 (.tmp 6))⟩,
    ⟨some 8, none, .op (.mv (.tmp 0))⟩,
    ⟨some 9, none, .op (.len (.tmp 8))⟩,
    ⟨some 10, none, .op (.bin .geq (.tmp 7) (.tmp 9))⟩,
    ⟨some 11, none, .op (.mv (.tmp 10))⟩,
    ⟨some 12, (some (11, false)), .op (.mv (.tmp 0))⟩,
    ⟨some 13, (some (11, false)), .op (.mv (.tmp 1))⟩,
    ⟨some 14, (some (11, false)), .op (.bin .quo (.tmp 13) (.const (.int .u32 2)))⟩,
    ⟨some 15, (some (11, false)), .op (.ia 1 (.tmp 12) (.tmp 14))⟩,
    ⟨some 16, (some (11, false)), .op (.ld none (.tmp 15))⟩,
    ⟨some 17, (some (11, false)), .op (.bin .gtr (.tmp 16) (.const (.int .u8 2)))⟩,
    ⟨some 18, none, .op (.pick (.tmp 11) (.const (.bool true)) (.tmp 17))⟩]
def c90_2 : C := .reg [⟨some 4, none, .op (.mv (.const (.int .u8 2)))⟩]
def c90_3 : C := .reg [⟨some 19, none, .op (.mv (.tmp 1))⟩,
    ⟨some 20, none, .op (.bin .rem (.tmp 19) (.const (.int .u32 2)))⟩,
    ⟨some 21, none, .op (.bin .eql (.tmp 20) (.const (.int .u32 1)))⟩]
def c90_4 : C := .reg [⟨some 22, none, .op (.mv (.tmp 0))⟩,
    ⟨some 23, none, .op (.mv (.tmp 1))⟩,
    ⟨some 24, none, .op (.bin .quo (.tmp 23) (.const (.int .u32 2)))⟩,
    ⟨some 25, none, .op (.ia 1 (.tmp 22) (.tmp 24))⟩,
    ⟨some 26, none, .op (.ld none (.tmp 25))⟩,
    ⟨some 27, none, .call 143 [.tmp 26]⟩,
    ⟨some 4, none, .op (.mv (.tmp 27))⟩]
def c90_5 : C := .reg [⟨some 28, none, .op (.mv (.tmp 0))⟩,
    ⟨some 29, none, .op (.mv (.tmp 1))⟩,
    ⟨some 30, none, .op (.bin .quo (.tmp 29) (.const (.int .u32 2)))⟩,
    ⟨some 31, none, .op (.ia 1 (.tmp 28) (.tmp 30))⟩,
    ⟨some 32, none, .op (.ld none (.tmp 31))⟩,
    ⟨some 4, none, .op (.mv (.tmp 32))⟩]
def c90 : Fn' := ⟨(.seq c90_0 (.seq (.seq c90_1 (.cond (.tmp 18) (.seq c90_2 .ret) .skip)) (.seq (.seq c90_3 (.cond (.tmp 21) (.seq c90_4 .ret) .skip)) (.seq c90_5 .ret)))), [.tmp 4]⟩
theorem comp90 : compFn Tryz.prog 90 = some c90 := by kernel_rfl

def c91_0 : C := .reg [⟨some 4, none, .op (.mv (.const (.bool false)))⟩]
def c91_1 : C := .reg [⟨some 5, none, .op (.mv (.const (.int .i64 0)))⟩]
def c91_2 : C := .reg [⟨some 6, none, .op (.mv (.tmp 5))⟩,
    ⟨some 7, none, .op (.mv (.tmp 0))⟩,
    ⟨some 8, none, .op (.len (.tmp 7))⟩,
    ⟨some 9, none, .op (.bin .lss (.tmp 6) (.tmp 8))⟩]
def c91_3 : C := .reg [⟨some 12, none, .op (.mv (.tmp 0))⟩,
    ⟨some 13, none, .op (.mv (.tmp 5))⟩,
    ⟨some 14, none, .op (.ia 1 (.tmp 12) (.tmp 13))⟩,
    ⟨some 15, none, .op (.ld none (.tmp 14))⟩,
    ⟨some 16, none, .op (.bin .gtr (.tmp 15) (.const (.int .u8 2)))⟩]
def c91_4 : C := .reg [⟨some 4, none, .op (.mv (.const (.bool false)))⟩]
def c91_5 : C := .reg [⟨some 10, none, .op (.mv (.tmp 5))⟩,
    ⟨some 11, none, .op (.bin .add (.tmp 10) (.const (.int .i64 1)))⟩,
    ⟨some 5, none, .op (.mv (.tmp 11))⟩]
def c91_6 : C := .reg [⟨some 17, none, .op (.mv (.tmp 0))⟩,
    ⟨some 18, none, .op (.len (.tmp 17))⟩,
    ⟨some 19, none, .op (.mv (.tmp 1))⟩,
    ⟨some 20, none, .op (.bin .eql (.tmp 18) (.tmp 19))⟩,
    ⟨some 4, none, .op (.mv (.tmp 20))⟩]
def c91 : Fn' := ⟨(.seq c91_0 (.seq (.seq c91_1 (.block 0 (.loop (.seq (.seq c91_2 (.cond (.tmp 9) .skip (.exit 0))) (.seq (.block 1 (.seq c91_3 (.cond (.tmp 16) (.seq c91_4 .ret) .skip))) c91_5))))) (.seq c91_6 .ret))), [.tmp 4]⟩
theorem comp91 : compFn Tryz.prog 91 = some c91 := by kernel_rfl

def c92_0 : C := .reg [⟨some 4, none, .op (.mv (.const (.int .u8 0)))⟩]
def c92_1 : C := .reg [⟨some 5, none, .op (.mv (.tmp 0))⟩,
    ⟨some 6, none, .op (.bin .eql (.tmp 5) (.const (.int .u8 0)))⟩,
    ⟨some 7, none, .op (.mv (.tmp 6))⟩,
    ⟨some 8, (some (7, false)), .op (.mv (.tmp 1))⟩,
    ⟨some 9, (some (7, false)), .op (.bin .eql (.tmp 8) (.const (.int .u8 0)))⟩,
    ⟨some 10, none, .op (.pick (.tmp 7) (.const (.bool true)) (.tmp 9))⟩]
def c92_2 : C := .reg [⟨some 4, none, .op (.mv (.const (.int .u8 0)))⟩]
def c92_3 : C := .reg [⟨some 11, none, .op (.mv (.tmp 0))⟩,
    ⟨some 12, none, .op (.bin .eql (.tmp 11) (.const (.int .u8 1)))⟩,
    ⟨some 13, none, .op (.mv (.tmp 12))⟩,
    ⟨some 14, (some (13, true)), .op (.mv (.tmp 1))⟩,
    ⟨some 15, (some (13, true)), .op (.bin .eql (.tmp 14) (.const (.int .u8 1)))⟩,
    ⟨some 16, none, .op (.pick (.tmp 13) (.tmp 15) (.const (.bool false)))⟩]
def c92_4 : C := .reg [⟨some 4, none, .op (.mv (.const (.int .u8 1)))⟩]
def c92_5 : C := .reg [⟨some 4, none, .op (.mv (.const (.int .u8 2)))⟩]
def c92 : Fn' := ⟨(.seq c92_0 (.seq (.seq c92_1 (.cond (.tmp 10) (.seq c92_2 .ret) .skip)) (.seq (.seq c92_3 (.cond (.tmp 16) (.seq c92_4 .ret) .skip)) (.seq c92_5 .ret)))), [.tmp 4]⟩
theorem comp92 : compFn Tryz.prog 92 = some c92 := by kernel_rfl

def c93_0 : C := .reg [⟨some 4, none, .op (.mv (.const (.bool false)))⟩]
def c93_1 : C := .reg [⟨some 5, none, .op (.mv (.const (.int .i64 0)))⟩]
def c93_2 : C := .reg [⟨some 6, none, .op (.mv (.tmp 5))⟩,
    ⟨some 7, none, .op (.mv (.tmp 0))⟩,
    ⟨some 8, none, .op (.len (.tmp 7))⟩,
    ⟨some 9, none, .op (.bin .lss (.tmp 6) (.tmp 8))⟩]
def c93_3 : C := .reg [⟨some 12, none, .op (.mv (.tmp 0))⟩,
    ⟨some 13, none, .op (.mv (.tmp 5))⟩,
    ⟨some 14, none, .op (.ia 1 (.tmp 12) (.tmp 13))⟩,
    ⟨some 15, none, .op (.ld none (.tmp 14))⟩,
    ⟨some 16, none, .op (.bin .gtr (.tmp 15) (.const (.int .u8 2)))⟩]
def c93_4 : C := .reg [⟨some 4, none, .op (.mv (.const (.bool false)))⟩]
def c93_5 : C := .reg [⟨some 10, none, .op (.mv (.tmp 5))⟩,
    ⟨some 11, none, .op (.bin .add (.tmp 10) (.const (.int .i64 1)))⟩,
    ⟨some 5, none, .op (.mv (.tmp 11))⟩]
def c93_6 : C := .reg [⟨some 17, none, .op (.mv (.tmp 0))⟩,
    ⟨some 18, none, .op (.len (.tmp 17))⟩,
    ⟨some 19, none, .op (.mv (.tmp 1))⟩,
    ⟨some 20, none, .op (.bin .eql (.tmp 18) (.tmp 19))⟩,
    ⟨some 4, none, .op (.mv (.tmp 20))⟩]
def c93 : Fn' := ⟨(.seq c93_0 (.seq (.seq c93_1 (.block 0 (.loop (.seq (.seq c93_2 (.cond (.tmp 9) .skip (.exit 0))) (.seq (.block 1 (.seq c93_3 (.cond (.tmp 16) (.seq c93_4 .ret) .skip))) c93_5))))) (.seq c93_6 .ret))), [.tmp 4]⟩
theorem comp93 : compFn Tryz.prog 93 = some c93 := by kernel_rfl

def c94_0 : C := .reg [⟨some 2, none, .op (.box (.tmp 0))⟩,
    ⟨some 3, none, .op (.box (.tmp 1))⟩,
    ⟨some 4, none, .op (.mv (.const (.int .u8 0)))⟩,
    ⟨some 5, none, .op (.mv (.const (.int .i64 0)))⟩]
def c94_1 : C := .reg [⟨some 12, none, .op (.ld (some 6) (.tmp 2))⟩,
    ⟨some 13, none, .op (.ld (some 3) (.tmp 3))⟩,
    ⟨some 14, none, .call 45 [.tmp 12, .tmp 13]⟩,
    ⟨some 11, none, .op (.mv (.tmp 14))⟩,
    ⟨some 15, none, .op (.ext (.tmp 11) 0)⟩,
    ⟨some 16, none, .op (.ext (.tmp 11) 1)⟩,
    ⟨some 6, none, .op (.mv (.tmp 15))⟩,
    ⟨some 7, none, .op (.mv (.tmp 16))⟩]
def c94_2 : C := .reg [⟨some 17, none, .op (.mv (.tmp 7))⟩,
    ⟨some 18, none, .op (.bin .neq (.tmp 17) (.const (.int .i64 0)))⟩]
def c94_3 : C := .reg [⟨some 19, none, .op (.mv (.tmp 7))⟩,
    ⟨some 4, none, .op (.mv (.const (.int .u8 0)))⟩,
    ⟨some 5, none, .op (.mv (.tmp 19))⟩]
def c94_4 : C := .regD 0 [⟨0, ⟨some 20, none, .op (.mv (.tmp 6))⟩, none, []⟩,
    ⟨1, ⟨some 21, none, .op (.mv (.tmp 6))⟩, none, []⟩,
    ⟨2, ⟨some 22, none, .op (.len (.tmp 21))⟩, none, []⟩,
    ⟨3, ⟨some 23, none, .op (.bin .sub (.tmp 22) (.const (.int .i64 1)))⟩, none, []⟩,
    ⟨4, ⟨some 24, none, .op (.ia 1 (.tmp 20) (.tmp 23))⟩, none, []⟩,
    ⟨5, ⟨some 25, none, .op (.ld none (.tmp 24))⟩, none, []⟩,
    ⟨6, ⟨some 26, none, .op (.fa 4 (.tmp 2))⟩, none, []⟩,
    ⟨7, ⟨some 27, none, .op (.ld none (.tmp 26))⟩, none, []⟩,
    ⟨8, ⟨some 28, none, .op (.fa 0 (.tmp 3))⟩, none, []⟩,
    ⟨9, ⟨some 29, none, .op (.ld none (.tmp 28))⟩, none, []⟩,
    ⟨10, ⟨some 30, none, .op (.ia 1 (.tmp 27) (.tmp 29))⟩, none, []⟩,
    ⟨11, ⟨some 31, none, .op (.ld none (.tmp 30))⟩, none, []⟩,
    ⟨12, ⟨some 32, none, .call 90 [.tmp 25, .tmp 31]⟩, none, []⟩,
    ⟨13, ⟨some 8, none, .op (.mv (.tmp 32))⟩, none, []⟩]
def c94_5 : C := .reg [⟨some 9, none, .op (.mv (.const (.int .i64 0)))⟩]
def c94_6 : C := .reg [⟨some 33, none, .op (.mv (.tmp 9))⟩,
    ⟨some 34, none, .op (.mv (.tmp 6))⟩,
    ⟨some 35, none, .op (.len (.tmp 34))⟩,
    ⟨some 36, none, .op (.bin .lss (.tmp 33) (.tmp 35))⟩]
def c94_7 : C := .reg [⟨some 10, none, .op (.mv (.const (.int .i64 0)))⟩]
def c94_8 : C := .reg [⟨some 39, none, .op (.mv (.tmp 10))⟩,
    ⟨some 40, none, .op (.fa 5 (.tmp 2))⟩,
    ⟨some 41, none, .op (.ld none (.tmp 40))⟩,
    ⟨some 42, none, .op (.len (.tmp 41))⟩,
    ⟨some 43, none, .op (.bin .lss (.tmp 39) (.tmp 42))⟩]
def c94_9 : C := .regD 0 [⟨0, ⟨some 46, none, .op (.mv (.tmp 8))⟩, none, []⟩,
    ⟨1, ⟨some 47, none, .op (.mv (.tmp 6))⟩, none, []⟩,
    ⟨2, ⟨some 48, none, .op (.mv (.tmp 9))⟩, none, []⟩,
    ⟨3, ⟨some 49, none, .op (.ia 1 (.tmp 47) (.tmp 48))⟩, none, []⟩,
    ⟨4, ⟨some 50, none, .op (.ld none (.tmp 49))⟩, none, []⟩,
    ⟨5, ⟨some 51, none, .op (.fa 5 (.tmp 2))⟩, none, []⟩,
    ⟨6, ⟨some 52, none, .op (.ld none (.tmp 51))⟩, none, []⟩,
    ⟨7, ⟨some 53, none, .op (.mv (.tmp 10))⟩, none, []⟩,
    ⟨8, ⟨some 54, none, .op (.ia 1 (.tmp 52) (.tmp 53))⟩, none, []⟩,
    ⟨9, ⟨some 55, none, .op (.ld none (.tmp 54))⟩, none, []⟩,
    ⟨10, ⟨some 56, none, .call 90 [.tmp 50, .tmp 55]⟩, none, []⟩,
    ⟨11, ⟨some 57, none, .call 92 [.tmp 46, .tmp 56]⟩, none, []⟩,
    ⟨12, ⟨some 8, none, .op (.mv (.tmp 57))⟩, none, []⟩]
def c94_10 : C := .reg [⟨some 44, none, .op (.mv (.tmp 10))⟩,
    ⟨some 45, none, .op (.bin .add (.tmp 44) (.const (.int .i64 1)))⟩,
    ⟨some 10, none, .op (.mv (.tmp 45))⟩]
def c94_11 : C := .reg [⟨some 37, none, .op (.mv (.tmp 9))⟩,
    ⟨some 38, none, .op (.bin .add (.tmp 37) (.const (.int .i64 1)))⟩,
    ⟨some 9, none, .op (.mv (.tmp 38))⟩]
def c94_12 : C := .reg [⟨some 58, none, .op (.mv (.tmp 8))⟩,
    ⟨some 4, none, .op (.mv (.tmp 58))⟩,
    ⟨some 5, none, .op (.mv (.const (.int .i64 0)))⟩]
def c94 : Fn' := ⟨(.seq c94_0 (.seq c94_1 (.seq (.seq c94_2 (.cond (.tmp 18) (.seq c94_3 .ret) .skip)) (.seq c94_4 (.seq (.seq c94_5 (.block 0 (.loop (.seq (.seq c94_6 (.cond (.tmp 36) .skip (.exit 0))) (.seq (.block 1 (.seq c94_7 (.block 2 (.loop (.seq (.seq c94_8 (.cond (.tmp 43) .skip (.exit 2))) (.seq (.block 3 c94_9) c94_10)))))) c94_11))))) (.seq c94_12 .ret)))))), [.tmp 4, .tmp 5]⟩
theorem comp94 : compFn Tryz.prog 94 = some c94 := by kernel_rfl

def c95_0 : C := .reg [⟨some 2, none, .op (.mv (.const (.slice none 0 0)))⟩]
def c95_1 : C := .reg [⟨some 3, none, .op (.mv (.const (.slice none 0 0)))⟩]
def c95_2 : C := .reg [⟨some 4, none, .op (.mv (.const (.int .i64 0)))⟩]
def c95_3 : C := .reg [⟨some 5, none, .op (.mv (.tmp 4))⟩,
    ⟨some 6, none, .op (.mv (.tmp 0))⟩,
    ⟨some 7, none, .op (.len (.tmp 6))⟩,
    ⟨some 8, none, .op (.bin .lss (.tmp 5) (.tmp 7))⟩]
def c95_4 : C := .reg [⟨some 11, none, .op (.mv (.tmp 0))⟩,
    ⟨some 12, none, .op (.mv (.tmp 4))⟩,
    ⟨some 13, none, .op (.ia 1 (.tmp 11) (.tmp 12))⟩,
    ⟨some 14, none, .op (.ld none (.tmp 13))⟩,
    ⟨some 15, none, .op (.bin .eql (.tmp 14) (.const (.int .u8 2)))⟩]
def c95_5 : C := .reg [⟨some 16, none, .op (.mv (.tmp 3))⟩,
    ⟨some 17, none, .op (.mkSl (reps 1 [(.int .u8 0)]) 1 [(0, 1, .const (.int .u8 0))])⟩,
    ⟨some 18, none, .op (.app 1 1 (.tmp 16) (.tmp 17))⟩,
    ⟨some 3, none, .op (.mv (.tmp 18))⟩]
def c95_6 : C := .reg [⟨some 19, none, .op (.mv (.tmp 3))⟩,
    ⟨some 20, none, .op (.mv (.tmp 0))⟩,
    ⟨some 21, none, .op (.mv (.tmp 4))⟩,
    ⟨some 22, none, .op (.ia 1 (.tmp 20) (.tmp 21))⟩,
    ⟨some 23, none, .op (.ld none (.tmp 22))⟩,
    ⟨some 24, none, .op (.mkSl (reps 1 [(.int .u8 0)]) 1 [(0, 1, .tmp 23)])⟩,
    ⟨some 25, none, .op (.app 1 1 (.tmp 19) (.tmp 24))⟩,
    ⟨some 3, none, .op (.mv (.tmp 25))⟩]
def c95_7 : C := .reg [⟨some 9, none, .op (.mv (.tmp 4))⟩,
    ⟨some 10, none, .op (.bin .add (.tmp 9) (.const (.int .i64 1)))⟩,
    ⟨some 4, none, .op (.mv (.tmp 10))⟩]
def c95_8 : C := .reg [⟨some 26, none, .op (.mv (.tmp 3))⟩,
    ⟨some 2, none, .op (.mv (.tmp 26))⟩]
def c95 : Fn' := ⟨(.seq c95_0 (.seq c95_1 (.seq (.seq c95_2 (.block 0 (.loop (.seq (.seq c95_3 (.cond (.tmp 8) .skip (.exit 0))) (.seq (.block 1 (.seq c95_4 (.cond (.tmp 15) c95_5 c95_6))) c95_7))))) (.seq c95_8 .ret)))), [.tmp 2]⟩
theorem comp95 : compFn Tryz.prog 95 = some c95 := by kernel_rfl

def c129_0 : C := .reg [⟨some 4, none, .op (.mv (.const (.bool false)))⟩]
def c129_1 : C := .reg [⟨some 5, none, .op (.mv (.const (.int .i64 0)))⟩]
def c129_2 : C := .reg [⟨some 6, none, .op (.mv (.tmp 5))⟩,
    ⟨some 7, none, .op (.mv (.tmp 0))⟩,
    ⟨some 8, none, .op (.len (.tmp 7))⟩,
    ⟨some 9, none, .op (.bin .lss (.tmp 6) (.tmp 8))⟩]
def c129_3 : C := .reg [⟨some 12, none, .op (.mv (.tmp 0))⟩,
    ⟨some 13, none, .op (.mv (.tmp 5))⟩,
    ⟨some 14, none, .op (.ia 1 (.tmp 12) (.tmp 13))⟩,
    ⟨some 15, none, .op (.ld none (.tmp 14))⟩,
    ⟨some 16, none, .op (.bin .quo (.tmp 15) (.const (.int .u32 2)))⟩,
    ⟨some 17, none, .op (.conv .i64 (.tmp 16))⟩,
    ⟨some 18, none, .op (.mv (.tmp 1))⟩,
    ⟨some 19, none, .op (.bin .gtr (.tmp 17) (.tmp 18))⟩]
def c129_4 : C := .reg [⟨some 4, none, .op (.mv (.const (.bool false)))⟩]
def c129_5 : C := .reg [⟨some 10, none, .op (.mv (.tmp 5))⟩,
    ⟨some 11, none, .op (.bin .add (.tmp 10) (.const (.int .i64 1)))⟩,
    ⟨some 5, none, .op (.mv (.tmp 11))⟩]
def c129_6 : C := .reg [⟨some 20, none, .op (.mv (.tmp 0))⟩,
    ⟨some 21, none, .op (.len (.tmp 20))⟩,
    ⟨some 22, none, .op (.bin .leq (.tmp 21) (.const (.int .i64 1024)))⟩,
    ⟨some 4, none, .op (.mv (.tmp 22))⟩]
def c129 : Fn' := ⟨(.seq c129_0 (.seq (.seq c129_1 (.block 0 (.loop (.seq (.seq c129_2 (.cond (.tmp 9) .skip (.exit 0))) (.seq (.block 1 (.seq c129_3 (.cond (.tmp 19) (.seq c129_4 .ret) .skip))) c129_5))))) (.seq c129_6 .ret))), [.tmp 4]⟩
theorem comp129 : compFn Tryz.prog 129 = some c129 := by kernel_rfl

def c143_0 : C := .reg [⟨some 2, none, .op (.mv (.const (.int .u8 0)))⟩]
def c143_1 : C := .reg [⟨some 3, none, .op (.mv (.tmp 0))⟩,
    ⟨some 4, none, .op (.bin .eql (.tmp 3) (.const (.int .u8 0)))⟩]
def c143_2 : C := .reg [⟨some 2, none, .op (.mv (.const (.int .u8 1)))⟩]
def c143_3 : C := .reg [⟨some 5, none, .op (.mv (.tmp 0))⟩,
    ⟨some 6, none, .op (.bin .eql (.tmp 5) (.const (.int .u8 1)))⟩]
def c143_4 : C := .reg [⟨some 2, none, .op (.mv (.const (.int .u8 0)))⟩]
def c143_5 : C := .reg [⟨some 2, none, .op (.mv (.const (.int .u8 2)))⟩]
def c143 : Fn' := ⟨(.seq c143_0 (.seq (.seq c143_1 (.cond (.tmp 4) (.seq c143_2 .ret) .skip)) (.seq (.seq c143_3 (.cond (.tmp 6) (.seq c143_4 .ret) .skip)) (.seq c143_5 .ret)))), [.tmp 2]⟩
theorem comp143 : compFn Tryz.prog 143 = some c143 := by kernel_rfl

end Go.Proofs.YtmmpnmekiplhfaaGreat
