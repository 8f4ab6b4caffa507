/-
  The codes of the functions that the solver reaches.
-/
import Derived.Test.YtmmpnmekiplhfaaGreatAeComp
import Derived.Test.YtmmpnmekiplhfaaGreatRows
import Derived.KernelRfl
namespace Go.Proofs.YtmmpnmekiplhfaaGreat
open Go Go.Ae

def c225_0 : C := .reg [⟨some 10, none, .op (.mv (.const (.int .i64 0)))⟩]
def c225_1 : C := .regD 0 [⟨0, ⟨some 13, none, .op (.mv (.tmp 0))⟩, none, []⟩,
    ⟨1, ⟨some 14, none, .op (.mv (.tmp 1))⟩, none, []⟩,
    ⟨2, ⟨some 15, none, .op (.mv (.tmp 0))⟩, none, []⟩,
    ⟨3, ⟨some 16, none, .op (.mv (.tmp 3))⟩, none, []⟩,
    ⟨4, ⟨some 17, none, .op (.mv (.tmp 0))⟩, none, []⟩,
    ⟨5, ⟨some 18, none, .op (.mv (.tmp 3))⟩, none, []⟩,
    ⟨6, ⟨some 19, none, .op (.ia 1 (.tmp 17) (.tmp 18))⟩, none, []⟩,
    ⟨7, ⟨some 20, none, .op (.ld none (.tmp 19))⟩, none, []⟩,
    ⟨8, ⟨some 21, none, .op (.mv (.tmp 0))⟩, none, []⟩,
    ⟨9, ⟨some 22, none, .op (.mv (.tmp 1))⟩, none, []⟩,
    ⟨10, ⟨some 23, none, .op (.ia 1 (.tmp 21) (.tmp 22))⟩, none, []⟩,
    ⟨11, ⟨some 24, none, .op (.ld none (.tmp 23))⟩, none, []⟩,
    ⟨12, ⟨some 25, none, .op (.ia 1 (.tmp 13) (.tmp 14))⟩, none, []⟩,
    ⟨13, ⟨none, none, .op (.st 1 (.tmp 25) (.tmp 20))⟩, none, []⟩,
    ⟨14, ⟨some 26, none, .op (.ia 1 (.tmp 15) (.tmp 16))⟩, none, []⟩,
    ⟨15, ⟨none, none, .op (.st 1 (.tmp 26) (.tmp 24))⟩, none, []⟩]
def c225_2 : C := .reg [⟨some 27, none, .op (.mv (.tmp 1))⟩,
    ⟨some 28, none, .op (.bin .add (.tmp 27) (.const (.int .i64 1)))⟩,
    ⟨some 29, none, .op (.mv (.tmp 2))⟩,
    ⟨some 30, none, .op (.bin .sub (.tmp 29) (.const (.int .i64 1)))⟩,
    ⟨some 11, none, .op (.mv (.tmp 28))⟩,
    ⟨some 12, none, .op (.mv (.tmp 30))⟩]
def c225_3 : C := .regD 0 [⟨0, ⟨some 31, none, .op (.mv (.tmp 11))⟩, none, []⟩,
    ⟨1, ⟨some 32, none, .op (.mv (.tmp 12))⟩, none, []⟩,
    ⟨2, ⟨some 33, none, .op (.bin .leq (.tmp 31) (.tmp 32))⟩, none, []⟩,
    ⟨3, ⟨some 34, none, .op (.mv (.tmp 33))⟩, none, []⟩,
    ⟨4, ⟨some 35, (some (34, true)), .op (.mv (.tmp 4))⟩, none, []⟩,
    ⟨5, ⟨some 36, (some (34, true)), .op (.mv (.tmp 0))⟩, none, []⟩,
    ⟨6, ⟨some 37, (some (34, true)), .op (.mv (.tmp 1))⟩, none, []⟩,
    ⟨7, ⟨some 38, (some (34, true)), .op (.ia 1 (.tmp 36) (.tmp 37))⟩, none, []⟩,
    ⟨8, ⟨some 39, (some (34, true)), .op (.ld none (.tmp 38))⟩, none, []⟩,
    ⟨9, ⟨some 40, (some (34, true)), .op (.mv (.tmp 0))⟩, none, []⟩,
    ⟨10, ⟨some 41, (some (34, true)), .op (.mv (.tmp 11))⟩, none, []⟩,
    ⟨11, ⟨some 42, (some (34, true)), .op (.ia 1 (.tmp 40) (.tmp 41))⟩, none, []⟩,
    ⟨12, ⟨some 43, (some (34, true)), .op (.ld none (.tmp 42))⟩, none, []⟩,
    ⟨13, ⟨some 44, (some (34, true)), .callv (.tmp 35) [.tmp 39, .tmp 43]⟩, none, []⟩,
    ⟨14, ⟨some 45, (some (34, true)), .op (.bin .lss (.tmp 44) (.const (.int .i64 0)))⟩, none, []⟩,
    ⟨15, ⟨some 46, (some (34, true)), .op (.un .not (.tmp 45))⟩, none, []⟩,
    ⟨16, ⟨some 47, none, .op (.pick (.tmp 34) (.tmp 46) (.const (.bool false)))⟩, none, []⟩]
def c225_4 : C := .reg [⟨some 48, none, .op (.mv (.tmp 11))⟩,
    ⟨some 49, none, .op (.bin .add (.tmp 48) (.const (.int .i64 1)))⟩,
    ⟨some 11, none, .op (.mv (.tmp 49))⟩]
def c225_5 : C := .regD 0 [⟨0, ⟨some 50, none, .op (.mv (.tmp 11))⟩, none, []⟩,
    ⟨1, ⟨some 51, none, .op (.mv (.tmp 12))⟩, none, []⟩,
    ⟨2, ⟨some 52, none, .op (.bin .leq (.tmp 50) (.tmp 51))⟩, none, []⟩,
    ⟨3, ⟨some 53, none, .op (.mv (.tmp 52))⟩, none, []⟩,
    ⟨4, ⟨some 54, (some (53, true)), .op (.mv (.tmp 4))⟩, none, []⟩,
    ⟨5, ⟨some 55, (some (53, true)), .op (.mv (.tmp 0))⟩, none, []⟩,
    ⟨6, ⟨some 56, (some (53, true)), .op (.mv (.tmp 1))⟩, none, []⟩,
    ⟨7, ⟨some 57, (some (53, true)), .op (.ia 1 (.tmp 55) (.tmp 56))⟩, none, []⟩,
    ⟨8, ⟨some 58, (some (53, true)), .op (.ld none (.tmp 57))⟩, none, []⟩,
    ⟨9, ⟨some 59, (some (53, true)), .op (.mv (.tmp 0))⟩, none, []⟩,
    ⟨10, ⟨some 60, (some (53, true)), .op (.mv (.tmp 12))⟩, none, []⟩,
    ⟨11, ⟨some 61, (some (53, true)), .op (.ia 1 (.tmp 59) (.tmp 60))⟩, none, []⟩,
    ⟨12, ⟨some 62, (some (53, true)), .op (.ld none (.tmp 61))⟩, none, []⟩,
    ⟨13, ⟨some 63, (some (53, true)), .callv (.tmp 54) [.tmp 58, .tmp 62]⟩, none, []⟩,
    ⟨14, ⟨some 64, (some (53, true)), .op (.bin .lss (.tmp 63) (.const (.int .i64 0)))⟩, none, []⟩,
    ⟨15, ⟨some 65, none, .op (.pick (.tmp 53) (.tmp 64) (.const (.bool false)))⟩, none, []⟩]
def c225_6 : C := .reg [⟨some 66, none, .op (.mv (.tmp 12))⟩,
    ⟨some 67, none, .op (.bin .sub (.tmp 66) (.const (.int .i64 1)))⟩,
    ⟨some 12, none, .op (.mv (.tmp 67))⟩]
def c225_7 : C := .reg [⟨some 68, none, .op (.mv (.tmp 11))⟩,
    ⟨some 69, none, .op (.mv (.tmp 12))⟩,
    ⟨some 70, none, .op (.bin .gtr (.tmp 68) (.tmp 69))⟩]
def c225_8 : C := .regD 0 [⟨0, ⟨some 71, none, .op (.mv (.tmp 0))⟩, none, []⟩,
    ⟨1, ⟨some 72, none, .op (.mv (.tmp 11))⟩, none, []⟩,
    ⟨2, ⟨some 73, none, .op (.mv (.tmp 0))⟩, none, []⟩,
    ⟨3, ⟨some 74, none, .op (.mv (.tmp 12))⟩, none, []⟩,
    ⟨4, ⟨some 75, none, .op (.mv (.tmp 0))⟩, none, []⟩,
    ⟨5, ⟨some 76, none, .op (.mv (.tmp 12))⟩, none, []⟩,
    ⟨6, ⟨some 77, none, .op (.ia 1 (.tmp 75) (.tmp 76))⟩, none, []⟩,
    ⟨7, ⟨some 78, none, .op (.ld none (.tmp 77))⟩, none, []⟩,
    ⟨8, ⟨some 79, none, .op (.mv (.tmp 0))⟩, none, []⟩,
    ⟨9, ⟨some 80, none, .op (.mv (.tmp 11))⟩, none, []⟩,
    ⟨10, ⟨some 81, none, .op (.ia 1 (.tmp 79) (.tmp 80))⟩, none, []⟩,
    ⟨11, ⟨some 82, none, .op (.ld none (.tmp 81))⟩, none, []⟩,
    ⟨12, ⟨some 83, none, .op (.ia 1 (.tmp 71) (.tmp 72))⟩, none, []⟩,
    ⟨13, ⟨none, none, .op (.st 1 (.tmp 83) (.tmp 78))⟩, none, []⟩,
    ⟨14, ⟨some 84, none, .op (.ia 1 (.tmp 73) (.tmp 74))⟩, none, []⟩,
    ⟨15, ⟨none, none, .op (.st 1 (.tmp 84) (.tmp 82))⟩, none, []⟩]
def c225_9 : C := .reg [⟨some 85, none, .op (.mv (.tmp 11))⟩,
    ⟨some 86, none, .op (.bin .add (.tmp 85) (.const (.int .i64 1)))⟩,
    ⟨some 11, none, .op (.mv (.tmp 86))⟩]
def c225_10 : C := .reg [⟨some 87, none, .op (.mv (.tmp 12))⟩,
    ⟨some 88, none, .op (.bin .sub (.tmp 87) (.const (.int .i64 1)))⟩,
    ⟨some 12, none, .op (.mv (.tmp 88))⟩]
def c225_11 : C := .reg [⟨some 89, none, .op (.mv (.tmp 11))⟩,
    ⟨some 10, none, .op (.mv (.tmp 89))⟩]
def c225 : Fn' := ⟨(.seq c225_0 (.seq c225_1 (.seq c225_2 (.seq (.block 0 (.loop (.block 1 (.seq (.block 2 (.loop (.seq (.seq c225_3 (.cond (.tmp 47) .skip (.exit 2))) (.block 3 c225_4)))) (.seq (.block 4 (.loop (.seq (.seq c225_5 (.cond (.tmp 65) .skip (.exit 4))) (.block 5 c225_6)))) (.seq (.seq c225_7 (.cond (.tmp 70) (.exit 0) .skip)) (.seq c225_8 (.seq c225_9 c225_10)))))))) (.seq c225_11 .ret))))), [.tmp 10]⟩
theorem comp225 : compFn Tryz.prog 225 = some c225 := by kernel_rfl

def c226_0 : C := .reg [⟨some 10, none, .op (.mv (.const (.int .i64 0)))⟩,
    ⟨some 11, none, .op (.mv (.const (.bool false)))⟩]
def c226_1 : C := .regD 0 [⟨0, ⟨some 14, none, .op (.mv (.tmp 0))⟩, none, []⟩,
    ⟨1, ⟨some 15, none, .op (.mv (.tmp 1))⟩, none, []⟩,
    ⟨2, ⟨some 16, none, .op (.mv (.tmp 0))⟩, none, []⟩,
    ⟨3, ⟨some 17, none, .op (.mv (.tmp 3))⟩, none, []⟩,
    ⟨4, ⟨some 18, none, .op (.mv (.tmp 0))⟩, none, []⟩,
    ⟨5, ⟨some 19, none, .op (.mv (.tmp 3))⟩, none, []⟩,
    ⟨6, ⟨some 20, none, .op (.ia 1 (.tmp 18) (.tmp 19))⟩, none, []⟩,
    ⟨7, ⟨some 21, none, .op (.ld none (.tmp 20))⟩, none, []⟩,
    ⟨8, ⟨some 22, none, .op (.mv (.tmp 0))⟩, none, []⟩,
    ⟨9, ⟨some 23, none, .op (.mv (.tmp 1))⟩, none, []⟩,
    ⟨10, ⟨some 24, none, .op (.ia 1 (.tmp 22) (.tmp 23))⟩, none, []⟩,
    ⟨11, ⟨some 25, none, .op (.ld none (.tmp 24))⟩, none, []⟩,
    ⟨12, ⟨some 26, none, .op (.ia 1 (.tmp 14) (.tmp 15))⟩, none, []⟩,
    ⟨13, ⟨none, none, .op (.st 1 (.tmp 26) (.tmp 21))⟩, none, []⟩,
    ⟨14, ⟨some 27, none, .op (.ia 1 (.tmp 16) (.tmp 17))⟩, none, []⟩,
    ⟨15, ⟨none, none, .op (.st 1 (.tmp 27) (.tmp 25))⟩, none, []⟩]
def c226_2 : C := .reg [⟨some 28, none, .op (.mv (.tmp 1))⟩,
    ⟨some 29, none, .op (.bin .add (.tmp 28) (.const (.int .i64 1)))⟩,
    ⟨some 30, none, .op (.mv (.tmp 2))⟩,
    ⟨some 31, none, .op (.bin .sub (.tmp 30) (.const (.int .i64 1)))⟩,
    ⟨some 12, none, .op (.mv (.tmp 29))⟩,
    ⟨some 13, none, .op (.mv (.tmp 31))⟩]
def c226_3 : C := .regD 0 [⟨0, ⟨some 32, none, .op (.mv (.tmp 12))⟩, none, []⟩,
    ⟨1, ⟨some 33, none, .op (.mv (.tmp 13))⟩, none, []⟩,
    ⟨2, ⟨some 34, none, .op (.bin .leq (.tmp 32) (.tmp 33))⟩, none, []⟩,
    ⟨3, ⟨some 35, none, .op (.mv (.tmp 34))⟩, none, []⟩,
    ⟨4, ⟨some 36, (some (35, true)), .op (.mv (.tmp 4))⟩, none, []⟩,
    ⟨5, ⟨some 37, (some (35, true)), .op (.mv (.tmp 0))⟩, none, []⟩,
    ⟨6, ⟨some 38, (some (35, true)), .op (.mv (.tmp 12))⟩, none, []⟩,
    ⟨7, ⟨some 39, (some (35, true)), .op (.ia 1 (.tmp 37) (.tmp 38))⟩, none, []⟩,
    ⟨8, ⟨some 40, (some (35, true)), .op (.ld none (.tmp 39))⟩, none, []⟩,
    ⟨9, ⟨some 41, (some (35, true)), .op (.mv (.tmp 0))⟩, none, []⟩,
    ⟨10, ⟨some 42, (some (35, true)), .op (.mv (.tmp 1))⟩, none, []⟩,
    ⟨11, ⟨some 43, (some (35, true)), .op (.ia 1 (.tmp 41) (.tmp 42))⟩, none, []⟩,
    ⟨12, ⟨some 44, (some (35, true)), .op (.ld none (.tmp 43))⟩, none, []⟩,
    ⟨13, ⟨some 45, (some (35, true)), .callv (.tmp 36) [.tmp 40, .tmp 44]⟩, none, []⟩,
    ⟨14, ⟨some 46, (some (35, true)), .op (.bin .lss (.tmp 45) (.const (.int .i64 0)))⟩, none, []⟩,
    ⟨15, ⟨some 47, none, .op (.pick (.tmp 35) (.tmp 46) (.const (.bool false)))⟩, none, []⟩]
def c226_4 : C := .reg [⟨some 48, none, .op (.mv (.tmp 12))⟩,
    ⟨some 49, none, .op (.bin .add (.tmp 48) (.const (.int .i64 1)))⟩,
    ⟨some 12, none, .op (.mv (.tmp 49))⟩]
def c226_5 : C := .regD 0 [⟨0, ⟨some 50, none, .op (.mv (.tmp 12))⟩, none, []⟩,
    ⟨1, ⟨some 51, none, .op (.mv (.tmp 13))⟩, none, []⟩,
    ⟨2, ⟨some 52, none, .op (.bin .leq (.tmp 50) (.tmp 51))⟩, none, []⟩,
    ⟨3, ⟨some 53, none, .op (.mv (.tmp 52))⟩, none, []⟩,
    ⟨4, ⟨some 54, (some (53, true)), .op (.mv (.tmp 4))⟩, none, []⟩,
    ⟨5, ⟨some 55, (some (53, true)), .op (.mv (.tmp 0))⟩, none, []⟩,
    ⟨6, ⟨some 56, (some (53, true)), .op (.mv (.tmp 13))⟩, none, []⟩,
    ⟨7, ⟨some 57, (some (53, true)), .op (.ia 1 (.tmp 55) (.tmp 56))⟩, none, []⟩,
    ⟨8, ⟨some 58, (some (53, true)), .op (.ld none (.tmp 57))⟩, none, []⟩,
    ⟨9, ⟨some 59, (some (53, true)), .op (.mv (.tmp 0))⟩, none, []⟩,
    ⟨10, ⟨some 60, (some (53, true)), .op (.mv (.tmp 1))⟩, none, []⟩,
    ⟨11, ⟨some 61, (some (53, true)), .op (.ia 1 (.tmp 59) (.tmp 60))⟩, none, []⟩,
    ⟨12, ⟨some 62, (some (53, true)), .op (.ld none (.tmp 61))⟩, none, []⟩,
    ⟨13, ⟨some 63, (some (53, true)), .callv (.tmp 54) [.tmp 58, .tmp 62]⟩, none, []⟩,
    ⟨14, ⟨some 64, (some (53, true)), .op (.bin .lss (.tmp 63) (.const (.int .i64 0)))⟩, none, []⟩,
    ⟨15, ⟨some 65, (some (53, true)), .op (.un .not (.tmp 64))⟩, none, []⟩,
    ⟨16, ⟨some 66, none, .op (.pick (.tmp 53) (.tmp 65) (.const (.bool false)))⟩, none, []⟩]
def c226_6 : C := .reg [⟨some 67, none, .op (.mv (.tmp 13))⟩,
    ⟨some 68, none, .op (.bin .sub (.tmp 67) (.const (.int .i64 1)))⟩,
    ⟨some 13, none, .op (.mv (.tmp 68))⟩]
def c226_7 : C := .reg [⟨some 69, none, .op (.mv (.tmp 12))⟩,
    ⟨some 70, none, .op (.mv (.tmp 13))⟩,
    ⟨some 71, none, .op (.bin .gtr (.tmp 69) (.tmp 70))⟩]
def c226_8 : C := .regD 0 [⟨0, ⟨some 72, none, .op (.mv (.tmp 0))⟩, none, []⟩,
    ⟨1, ⟨some 73, none, .op (.mv (.tmp 13))⟩, none, []⟩,
    ⟨2, ⟨some 74, none, .op (.mv (.tmp 0))⟩, none, []⟩,
    ⟨3, ⟨some 75, none, .op (.mv (.tmp 1))⟩, none, []⟩,
    ⟨4, ⟨some 76, none, .op (.mv (.tmp 0))⟩, none, []⟩,
    ⟨5, ⟨some 77, none, .op (.mv (.tmp 1))⟩, none, []⟩,
    ⟨6, ⟨some 78, none, .op (.ia 1 (.tmp 76) (.tmp 77))⟩, none, []⟩,
    ⟨7, ⟨some 79, none, .op (.ld none (.tmp 78))⟩, none, []⟩,
    ⟨8, ⟨some 80, none, .op (.mv (.tmp 0))⟩, none, []⟩,
    ⟨9, ⟨some 81, none, .op (.mv (.tmp 13))⟩, none, []⟩,
    ⟨10, ⟨some 82, none, .op (.ia 1 (.tmp 80) (.tmp 81))⟩, none, []⟩,
    ⟨11, ⟨some 83, none, .op (.ld none (.tmp 82))⟩, none, []⟩,
    ⟨12, ⟨some 84, none, .op (.ia 1 (.tmp 72) (.tmp 73))⟩, none, []⟩,
    ⟨13, ⟨none, none, .op (.st 1 (.tmp 84) (.tmp 79))⟩, none, []⟩,
    ⟨14, ⟨some 85, none, .op (.ia 1 (.tmp 74) (.tmp 75))⟩, none, []⟩,
    ⟨15, ⟨none, none, .op (.st 1 (.tmp 85) (.tmp 83))⟩, none, []⟩]
def c226_9 : C := .reg [⟨some 86, none, .op (.mv (.tmp 13))⟩,
    ⟨some 10, none, .op (.mv (.tmp 86))⟩,
    ⟨some 11, none, .op (.mv (.const (.bool true)))⟩]
def c226_10 : C := .regD 0 [⟨0, ⟨some 87, none, .op (.mv (.tmp 0))⟩, none, []⟩,
    ⟨1, ⟨some 88, none, .op (.mv (.tmp 12))⟩, none, []⟩,
    ⟨2, ⟨some 89, none, .op (.mv (.tmp 0))⟩, none, []⟩,
    ⟨3, ⟨some 90, none, .op (.mv (.tmp 13))⟩, none, []⟩,
    ⟨4, ⟨some 91, none, .op (.mv (.tmp 0))⟩, none, []⟩,
    ⟨5, ⟨some 92, none, .op (.mv (.tmp 13))⟩, none, []⟩,
    ⟨6, ⟨some 93, none, .op (.ia 1 (.tmp 91) (.tmp 92))⟩, none, []⟩,
    ⟨7, ⟨some 94, none, .op (.ld none (.tmp 93))⟩, none, []⟩,
    ⟨8, ⟨some 95, none, .op (.mv (.tmp 0))⟩, none, []⟩,
    ⟨9, ⟨some 96, none, .op (.mv (.tmp 12))⟩, none, []⟩,
    ⟨10, ⟨some 97, none, .op (.ia 1 (.tmp 95) (.tmp 96))⟩, none, []⟩,
    ⟨11, ⟨some 98, none, .op (.ld none (.tmp 97))⟩, none, []⟩,
    ⟨12, ⟨some 99, none, .op (.ia 1 (.tmp 87) (.tmp 88))⟩, none, []⟩,
    ⟨13, ⟨none, none, .op (.st 1 (.tmp 99) (.tmp 94))⟩, none, []⟩,
    ⟨14, ⟨some 100, none, .op (.ia 1 (.tmp 89) (.tmp 90))⟩, none, []⟩,
    ⟨15, ⟨none, none, .op (.st 1 (.tmp 100) (.tmp 98))⟩, none, []⟩]
def c226_11 : C := .reg [⟨some 101, none, .op (.mv (.tmp 12))⟩,
    ⟨some 102, none, .op (.bin .add (.tmp 101) (.const (.int .i64 1)))⟩,
    ⟨some 12, none, .op (.mv (.tmp 102))⟩]
def c226_12 : C := .reg [⟨some 103, none, .op (.mv (.tmp 13))⟩,
    ⟨some 104, none, .op (.bin .sub (.tmp 103) (.const (.int .i64 1)))⟩,
    ⟨some 13, none, .op (.mv (.tmp 104))⟩]
def c226_13 : C := .regD 0 [⟨0, ⟨some 105, none, .op (.mv (.tmp 12))⟩, none, []⟩,
    ⟨1, ⟨some 106, none, .op (.mv (.tmp 13))⟩, none, []⟩,
    ⟨2, ⟨some 107, none, .op (.bin .leq (.tmp 105) (.tmp 106))⟩, none, []⟩,
    ⟨3, ⟨some 108, none, .op (.mv (.tmp 107))⟩, none, []⟩,
    ⟨4, ⟨some 109, (some (108, true)), .op (.mv (.tmp 4))⟩, none, []⟩,
    ⟨5, ⟨some 110, (some (108, true)), .op (.mv (.tmp 0))⟩, none, []⟩,
    ⟨6, ⟨some 111, (some (108, true)), .op (.mv (.tmp 12))⟩, none, []⟩,
    ⟨7, ⟨some 112, (some (108, true)), .op (.ia 1 (.tmp 110) (.tmp 111))⟩, none, []⟩,
    ⟨8, ⟨some 113, (some (108, true)), .op (.ld none (.tmp 112))⟩, none, []⟩,
    ⟨9, ⟨some 114, (some (108, true)), .op (.mv (.tmp 0))⟩, none, []⟩,
    ⟨10, ⟨some 115, (some (108, true)), .op (.mv (.tmp 1))⟩, none, []⟩,
    ⟨11, ⟨some 116, (some (108, true)), .op (.ia 1 (.tmp 114) (.tmp 115))⟩, none, []⟩,
    ⟨12, ⟨some 117, (some (108, true)), .op (.ld none (.tmp 116))⟩, none, []⟩,
    ⟨13, ⟨some 118, (some (108, true)), .callv (.tmp 109) [.tmp 113, .tmp 117]⟩, none, []⟩,
    ⟨14, ⟨some 119, (some (108, true)), .op (.bin .lss (.tmp 118) (.const (.int .i64 0)))⟩, none, []⟩,
    ⟨15, ⟨some 120, none, .op (.pick (.tmp 108) (.tmp 119) (.const (.bool false)))⟩, none, []⟩]
def c226_14 : C := .reg [⟨some 121, none, .op (.mv (.tmp 12))⟩,
    ⟨some 122, none, .op (.bin .add (.tmp 121) (.const (.int .i64 1)))⟩,
    ⟨some 12, none, .op (.mv (.tmp 122))⟩]
def c226_15 : C := .regD 0 [⟨0, ⟨some 123, none, .op (.mv (.tmp 12))⟩, none, []⟩,
    ⟨1, ⟨some 124, none, .op (.mv (.tmp 13))⟩, none, []⟩,
    ⟨2, ⟨some 125, none, .op (.bin .leq (.tmp 123) (.tmp 124))⟩, none, []⟩,
    ⟨3, ⟨some 126, none, .op (.mv (.tmp 125))⟩, none, []⟩,
    ⟨4, ⟨some 127, (some (126, true)), .op (.mv (.tmp 4))⟩, none, []⟩,
    ⟨5, ⟨some 128, (some (126, true)), .op (.mv (.tmp 0))⟩, none, []⟩,
    ⟨6, ⟨some 129, (some (126, true)), .op (.mv (.tmp 13))⟩, none, []⟩,
    ⟨7, ⟨some 130, (some (126, true)), .op (.ia 1 (.tmp 128) (.tmp 129))⟩, none, []⟩,
    ⟨8, ⟨some 131, (some (126, true)), .op (.ld none (.tmp 130))⟩, none, []⟩,
    ⟨9, ⟨some 132, (some (126, true)), .op (.mv (.tmp 0))⟩, none, []⟩,
    ⟨10, ⟨some 133, (some (126, true)), .op (.mv (.tmp 1))⟩, none, []⟩,
    ⟨11, ⟨some 134, (some (126, true)), .op (.ia 1 (.tmp 132) (.tmp 133))⟩, none, []⟩,
    ⟨12, ⟨some 135, (some (126, true)), .op (.ld none (.tmp 134))⟩, none, []⟩,
    ⟨13, ⟨some 136, (some (126, true)), .callv (.tmp 127) [.tmp 131, .tmp 135]⟩, none, []⟩,
    ⟨14, ⟨some 137, (some (126, true)), .op (.bin .lss (.tmp 136) (.const (.int .i64 0)))⟩, none, []⟩,
    ⟨15, ⟨some 138, (some (126, true)), .op (.un .not (.tmp 137))⟩, none, []⟩,
    ⟨16, ⟨some 139, none, .op (.pick (.tmp 126) (.tmp 138) (.const (.bool false)))⟩, none, []⟩]
def c226_16 : C := .reg [⟨some 140, none, .op (.mv (.tmp 13))⟩,
    ⟨some 141, none, .op (.bin .sub (.tmp 140) (.const (.int .i64 1)))⟩,
    ⟨some 13, none, .op (.mv (.tmp 141))⟩]
def c226_17 : C := .reg [⟨some 142, none, .op (.mv (.tmp 12))⟩,
    ⟨some 143, none, .op (.mv (.tmp 13))⟩,
    ⟨some 144, none, .op (.bin .gtr (.tmp 142) (.tmp 143))⟩]
def c226_18 : C := .regD 0 [⟨0, ⟨some 145, none, .op (.mv (.tmp 0))⟩, none, []⟩,
    ⟨1, ⟨some 146, none, .op (.mv (.tmp 12))⟩, none, []⟩,
    ⟨2, ⟨some 147, none, .op (.mv (.tmp 0))⟩, none, []⟩,
    ⟨3, ⟨some 148, none, .op (.mv (.tmp 13))⟩, none, []⟩,
    ⟨4, ⟨some 149, none, .op (.mv (.tmp 0))⟩, none, []⟩,
    ⟨5, ⟨some 150, none, .op (.mv (.tmp 13))⟩, none, []⟩,
    ⟨6, ⟨some 151, none, .op (.ia 1 (.tmp 149) (.tmp 150))⟩, none, []⟩,
    ⟨7, ⟨some 152, none, .op (.ld none (.tmp 151))⟩, none, []⟩,
    ⟨8, ⟨some 153, none, .op (.mv (.tmp 0))⟩, none, []⟩,
    ⟨9, ⟨some 154, none, .op (.mv (.tmp 12))⟩, none, []⟩,
    ⟨10, ⟨some 155, none, .op (.ia 1 (.tmp 153) (.tmp 154))⟩, none, []⟩,
    ⟨11, ⟨some 156, none, .op (.ld none (.tmp 155))⟩, none, []⟩,
    ⟨12, ⟨some 157, none, .op (.ia 1 (.tmp 145) (.tmp 146))⟩, none, []⟩,
    ⟨13, ⟨none, none, .op (.st 1 (.tmp 157) (.tmp 152))⟩, none, []⟩,
    ⟨14, ⟨some 158, none, .op (.ia 1 (.tmp 147) (.tmp 148))⟩, none, []⟩,
    ⟨15, ⟨none, none, .op (.st 1 (.tmp 158) (.tmp 156))⟩, none, []⟩]
def c226_19 : C := .reg [⟨some 159, none, .op (.mv (.tmp 12))⟩,
    ⟨some 160, none, .op (.bin .add (.tmp 159) (.const (.int .i64 1)))⟩,
    ⟨some 12, none, .op (.mv (.tmp 160))⟩]
def c226_20 : C := .reg [⟨some 161, none, .op (.mv (.tmp 13))⟩,
    ⟨some 162, none, .op (.bin .sub (.tmp 161) (.const (.int .i64 1)))⟩,
    ⟨some 13, none, .op (.mv (.tmp 162))⟩]
def c226_21 : C := .regD 0 [⟨0, ⟨some 163, none, .op (.mv (.tmp 0))⟩, none, []⟩,
    ⟨1, ⟨some 164, none, .op (.mv (.tmp 13))⟩, none, []⟩,
    ⟨2, ⟨some 165, none, .op (.mv (.tmp 0))⟩, none, []⟩,
    ⟨3, ⟨some 166, none, .op (.mv (.tmp 1))⟩, none, []⟩,
    ⟨4, ⟨some 167, none, .op (.mv (.tmp 0))⟩, none, []⟩,
    ⟨5, ⟨some 168, none, .op (.mv (.tmp 1))⟩, none, []⟩,
    ⟨6, ⟨some 169, none, .op (.ia 1 (.tmp 167) (.tmp 168))⟩, none, []⟩,
    ⟨7, ⟨some 170, none, .op (.ld none (.tmp 169))⟩, none, []⟩,
    ⟨8, ⟨some 171, none, .op (.mv (.tmp 0))⟩, none, []⟩,
    ⟨9, ⟨some 172, none, .op (.mv (.tmp 13))⟩, none, []⟩,
    ⟨10, ⟨some 173, none, .op (.ia 1 (.tmp 171) (.tmp 172))⟩, none, []⟩,
    ⟨11, ⟨some 174, none, .op (.ld none (.tmp 173))⟩, none, []⟩,
    ⟨12, ⟨some 175, none, .op (.ia 1 (.tmp 163) (.tmp 164))⟩, none, []⟩,
    ⟨13, ⟨none, none, .op (.st 1 (.tmp 175) (.tmp 170))⟩, none, []⟩,
    ⟨14, ⟨some 176, none, .op (.ia 1 (.tmp 165) (.tmp 166))⟩, none, []⟩,
    ⟨15, ⟨none, none, .op (.st 1 (.tmp 176) (.tmp 174))⟩, none, []⟩]
def c226_22 : C := .reg [⟨some 177, none, .op (.mv (.tmp 13))⟩,
    ⟨some 10, none, .op (.mv (.tmp 177))⟩,
    ⟨some 11, none, .op (.mv (.const (.bool false)))⟩]
def c226 : Fn' := ⟨(.seq c226_0 (.seq c226_1 (.seq c226_2 (.seq (.block 0 (.loop (.seq (.seq c226_3 (.cond (.tmp 47) .skip (.exit 0))) (.block 1 c226_4)))) (.seq (.block 2 (.loop (.seq (.seq c226_5 (.cond (.tmp 66) .skip (.exit 2))) (.block 3 c226_6)))) (.seq (.seq c226_7 (.cond (.tmp 71) (.seq c226_8 (.seq c226_9 .ret)) .skip)) (.seq c226_10 (.seq c226_11 (.seq c226_12 (.seq (.block 4 (.loop (.block 5 (.seq (.block 6 (.loop (.seq (.seq c226_13 (.cond (.tmp 120) .skip (.exit 6))) (.block 7 c226_14)))) (.seq (.block 8 (.loop (.seq (.seq c226_15 (.cond (.tmp 139) .skip (.exit 8))) (.block 9 c226_16)))) (.seq (.seq c226_17 (.cond (.tmp 144) (.exit 4) .skip)) (.seq c226_18 (.seq c226_19 c226_20)))))))) (.seq c226_21 (.seq c226_22 .ret)))))))))))), [.tmp 10, .tmp 11]⟩
theorem comp226 : compFn Tryz.prog 226 = some c226 := by kernel_rfl

def c227_0 : C := .reg [⟨some 2, none, .op (.mv (.const (.int .i64 0)))⟩]
def c227_1 : C := .reg [⟨some 3, none, .op (.mv (.tmp 0))⟩,
    ⟨some 4, none, .op (.bin .geq (.tmp 3) (.const (.int .u32 65536)))⟩]
def c227_2 : C := .reg [⟨some 5, none, .op (.mv (.tmp 0))⟩,
    ⟨some 6, none, .op (.bin .shr (.tmp 5) (.const (.int .u64 16)))⟩,
    ⟨some 0, none, .op (.mv (.tmp 6))⟩]
def c227_3 : C := .reg [⟨some 2, none, .op (.mv (.const (.int .i64 16)))⟩]
def c227_4 : C := .reg [⟨some 7, none, .op (.mv (.tmp 0))⟩,
    ⟨some 8, none, .op (.bin .geq (.tmp 7) (.const (.int .u32 256)))⟩]
def c227_5 : C := .reg [⟨some 9, none, .op (.mv (.tmp 0))⟩,
    ⟨some 10, none, .op (.bin .shr (.tmp 9) (.const (.int .u64 8)))⟩,
    ⟨some 0, none, .op (.mv (.tmp 10))⟩]
def c227_6 : C := .reg [⟨some 11, none, .op (.mv (.tmp 2))⟩,
    ⟨some 12, none, .op (.bin .add (.tmp 11) (.const (.int .i64 8)))⟩,
    ⟨some 2, none, .op (.mv (.tmp 12))⟩]
def c227_7 : C := .reg [⟨some 13, none, .op (.mv (.tmp 2))⟩,
    ⟨some 14, none, .op (.mv (.tmp 0))⟩,
    ⟨some 15, none, .op (.conv .u8 (.tmp 14))⟩,
    ⟨some 16, none, .op (.sidx (.const (.string ⟨#[0, 1, 2, 2, 3, 3, 3, 3, 4, 4, 4, 4, 4, 4, 4, 4, 5, 5, 5, 5, 5, 5, 5, 5, 5, 5, 5, 5, 5, 5, 5, 5, 6, 6, 6, 6, 6, 6, 6, 6, 6, 6, 6, 6, 6, 6, 6, 6, 6, 6, 6, 6, 6, 6, 6, 6, 6, 6, 6, 6, 6, 6, 6, 6, 7, 7, 7, 7, 7, 7, 7, 7, 7, 7, 7, 7, 7, 7, 7, 7, 7, 7, 7, 7, 7, 7, 7, 7, 7, 7, 7, 7, 7, 7, 7, 7, 7, 7, 7, 7, 7, 7, 7, 7, 7, 7, 7, 7, 7, 7, 7, 7, 7, 7, 7, 7, 7, 7, 7, 7, 7, 7, 7, 7, 7, 7, 7, 7, 8, 8, 8, 8, 8, 8, 8, 8, 8, 8, 8, 8, 8, 8, 8, 8, 8, 8, 8, 8, 8, 8, 8, 8, 8, 8, 8, 8, 8, 8, 8, 8, 8, 8, 8, 8, 8, 8, 8, 8, 8, 8, 8, 8, 8, 8, 8, 8, 8, 8, 8, 8, 8, 8, 8, 8, 8, 8, 8, 8, 8, 8, 8, 8, 8, 8, 8, 8, 8, 8, 8, 8, 8, 8, 8, 8, 8, 8, 8, 8, 8, 8, 8, 8, 8, 8, 8, 8, 8, 8, 8, 8, 8, 8, 8, 8, 8, 8, 8, 8, 8, 8, 8, 8, 8, 8, 8, 8, 8, 8, 8, 8, 8, 8, 8, 8, 8, 8, 8, 8, 8, 8, 8, 8, 8, 8, 8, 8]⟩)) (.tmp 15))⟩,
    ⟨some 17, none, .op (.conv .i64 (.tmp 16))⟩,
    ⟨some 18, none, .op (.bin .add (.tmp 13) (.tmp 17))⟩,
    ⟨some 2, none, .op (.mv (.tmp 18))⟩]
def c227 : Fn' := ⟨(.seq c227_0 (.seq (.seq c227_1 (.cond (.tmp 4) (.seq c227_2 c227_3) .skip)) (.seq (.seq c227_4 (.cond (.tmp 8) (.seq c227_5 c227_6) .skip)) (.seq c227_7 .ret)))), [.tmp 2]⟩
theorem comp227 : compFn Tryz.prog 227 = some c227 := by kernel_rfl

def c228_0 : C := .reg [⟨some 2, none, .op (.mv (.const (.int .i64 0)))⟩]
def c228_1 : C := .reg [⟨some 3, none, .op (.mv (.tmp 0))⟩,
    ⟨some 4, none, .op (.bin .geq (.tmp 3) (.const (.int .u64 4294967296)))⟩]
def c228_2 : C := .reg [⟨some 5, none, .op (.mv (.tmp 0))⟩,
    ⟨some 6, none, .op (.bin .shr (.tmp 5) (.const (.int .u64 32)))⟩,
    ⟨some 0, none, .op (.mv (.tmp 6))⟩]
def c228_3 : C := .reg [⟨some 2, none, .op (.mv (.const (.int .i64 32)))⟩]
def c228_4 : C := .reg [⟨some 7, none, .op (.mv (.tmp 0))⟩,
    ⟨some 8, none, .op (.bin .geq (.tmp 7) (.const (.int .u64 65536)))⟩]
def c228_5 : C := .reg [⟨some 9, none, .op (.mv (.tmp 0))⟩,
    ⟨some 10, none, .op (.bin .shr (.tmp 9) (.const (.int .u64 16)))⟩,
    ⟨some 0, none, .op (.mv (.tmp 10))⟩]
def c228_6 : C := .reg [⟨some 11, none, .op (.mv (.tmp 2))⟩,
    ⟨some 12, none, .op (.bin .add (.tmp 11) (.const (.int .i64 16)))⟩,
    ⟨some 2, none, .op (.mv (.tmp 12))⟩]
def c228_7 : C := .reg [⟨some 13, none, .op (.mv (.tmp 0))⟩,
    ⟨some 14, none, .op (.bin .geq (.tmp 13) (.const (.int .u64 256)))⟩]
def c228_8 : C := .reg [⟨some 15, none, .op (.mv (.tmp 0))⟩,
    ⟨some 16, none, .op (.bin .shr (.tmp 15) (.const (.int .u64 8)))⟩,
    ⟨some 0, none, .op (.mv (.tmp 16))⟩]
def c228_9 : C := .reg [⟨some 17, none, .op (.mv (.tmp 2))⟩,
    ⟨some 18, none, .op (.bin .add (.tmp 17) (.const (.int .i64 8)))⟩,
    ⟨some 2, none, .op (.mv (.tmp 18))⟩]
def c228_10 : C := .reg [⟨some 19, none, .op (.mv (.tmp 2))⟩,
    ⟨some 20, none, .op (.mv (.tmp 0))⟩,
    ⟨some 21, none, .op (.conv .u8 (.tmp 20))⟩,
    ⟨some 22, none, .op (.sidx (.const (.string ⟨#[0, 1, 2, 2, 3, 3, 3, 3, 4, 4, 4, 4, 4, 4, 4, 4, 5, 5, 5, 5, 5, 5, 5, 5, 5, 5, 5, 5, 5, 5, 5, 5, 6, 6, 6, 6, 6, 6, 6, 6, 6, 6, 6, 6, 6, 6, 6, 6, 6, 6, 6, 6, 6, 6, 6, 6, 6, 6, 6, 6, 6, 6, 6, 6, 7, 7, 7, 7, 7, 7, 7, 7, 7, 7, 7, 7, 7, 7, 7, 7, 7, 7, 7, 7, 7, 7, 7, 7, 7, 7, 7, 7, 7, 7, 7, 7, 7, 7, 7, 7, 7, 7, 7, 7, 7, 7, 7, 7, 7, 7, 7, 7, 7, 7, 7, 7, 7, 7, 7, 7, 7, 7, 7, 7, 7, 7, 7, 7, 8, 8, 8, 8, 8, 8, 8, 8, 8, 8, 8, 8, 8, 8, 8, 8, 8, 8, 8, 8, 8, 8, 8, 8, 8, 8, 8, 8, 8, 8, 8, 8, 8, 8, 8, 8, 8, 8, 8, 8, 8, 8, 8, 8, 8, 8, 8, 8, 8, 8, 8, 8, 8, 8, 8, 8, 8, 8, 8, 8, 8, 8, 8, 8, 8, 8, 8, 8, 8, 8, 8, 8, 8, 8, 8, 8, 8, 8, 8, 8, 8, 8, 8, 8, 8, 8, 8, 8, 8, 8, 8, 8, 8, 8, 8, 8, 8, 8, 8, 8, 8, 8, 8, 8, 8, 8, 8, 8, 8, 8, 8, 8, 8, 8, 8, 8, 8, 8, 8, 8, 8, 8, 8, 8, 8, 8, 8, 8]⟩)) (.tmp 21))⟩,
    ⟨some 23, none, .op (.conv .i64 (.tmp 22))⟩,
    ⟨some 24, none, .op (.bin .add (.tmp 19) (.tmp 23))⟩,
    ⟨some 2, none, .op (.mv (.tmp 24))⟩]
def c228 : Fn' := ⟨(.seq c228_0 (.seq (.seq c228_1 (.cond (.tmp 4) (.seq c228_2 c228_3) .skip)) (.seq (.seq c228_4 (.cond (.tmp 8) (.seq c228_5 c228_6) .skip)) (.seq (.seq c228_7 (.cond (.tmp 14) (.seq c228_8 c228_9) .skip)) (.seq c228_10 .ret))))), [.tmp 2]⟩
theorem comp228 : compFn Tryz.prog 228 = some c228 := by kernel_rfl

def c229_0 : C := .reg [⟨some 5, none, .op (.mv (.tmp 1))⟩,
    ⟨some 6, none, .op (.bin .sub (.tmp 5) (.const (.int .i64 1)))⟩,
    ⟨some 7, none, .op (.bin .quo (.tmp 6) (.const (.int .i64 2)))⟩,
    ⟨some 4, none, .op (.mv (.tmp 7))⟩]
def c229_1 : C := .reg [⟨some 8, none, .op (.mv (.tmp 4))⟩,
    ⟨some 9, none, .op (.mv (.tmp 1))⟩,
    ⟨some 10, none, .op (.bin .eql (.tmp 8) (.tmp 9))⟩,
    ⟨some 11, none, .op (.mv (.tmp 10))⟩,
    ⟨some 12, (some (11, false)), .op (.mv (.tmp 0))⟩,
    ⟨some 13, (some (11, false)), .op (.mv (.tmp 1))⟩,
    ⟨some 14, (some (11, false)), .op (.mv (.tmp 4))⟩,
    ⟨some 15, (some (11, false)), .inv (.tmp 12) [(249, 0), (250, 0)] [(224, 280, none), (245, 283, none), (246, 283, some none)] [.tmp 13, .tmp 14]⟩,
    ⟨some 16, (some (11, false)), .op (.un .not (.tmp 15))⟩,
    ⟨some 17, none, .op (.pick (.tmp 11) (.const (.bool true)) (.tmp 16))⟩]
def c229_2 : C := .reg [⟨some 18, none, .op (.mv (.tmp 0))⟩,
    ⟨some 19, none, .op (.mv (.tmp 4))⟩,
    ⟨some 20, none, .op (.mv (.tmp 1))⟩,
    ⟨some 21, none, .inv (.tmp 18) [(249, 0), (250, 0)] [(224, 282, none), (245, 284, none), (246, 284, some none)] [.tmp 19, .tmp 20]⟩]
def c229_3 : C := .reg [⟨some 22, none, .op (.mv (.tmp 4))⟩,
    ⟨some 1, none, .op (.mv (.tmp 22))⟩]
def c229 : Fn' := ⟨(.block 0 (.loop (.block 1 (.seq c229_0 (.seq (.seq c229_1 (.cond (.tmp 17) (.exit 0) .skip)) (.seq c229_2 c229_3)))))), []⟩
theorem comp229 : compFn Tryz.prog 229 = some c229 := by kernel_rfl

def c230_0 : C := .reg [⟨some 8, none, .op (.mv (.tmp 1))⟩,
    ⟨some 9, none, .op (.bin .add (.tmp 8) (.const (.int .i64 1)))⟩,
    ⟨some 6, none, .op (.mv (.tmp 9))⟩]
def c230_1 : C := .reg [⟨some 10, none, .op (.mv (.tmp 6))⟩,
    ⟨some 11, none, .op (.mv (.tmp 2))⟩,
    ⟨some 12, none, .op (.bin .lss (.tmp 10) (.tmp 11))⟩]
def c230_2 : C := .reg [⟨some 15, none, .op (.mv (.tmp 6))⟩,
    ⟨some 7, none, .op (.mv (.tmp 15))⟩]
def c230_3 : C := .regD 0 [⟨0, ⟨some 16, none, .op (.mv (.tmp 7))⟩, none, []⟩,
    ⟨1, ⟨some 17, none, .op (.mv (.tmp 1))⟩, none, []⟩,
    ⟨2, ⟨some 18, none, .op (.bin .gtr (.tmp 16) (.tmp 17))⟩, none, []⟩,
    ⟨3, ⟨some 19, none, .op (.mv (.tmp 18))⟩, none, []⟩,
    ⟨4, ⟨some 20, (some (19, true)), .op (.mv (.tmp 0))⟩, none, []⟩,
    ⟨5, ⟨some 21, (some (19, true)), .op (.mv (.tmp 7))⟩, none, []⟩,
    ⟨6, ⟨some 22, (some (19, true)), .op (.ia 1 (.tmp 20) (.tmp 21))⟩, none, []⟩,
    ⟨7, ⟨some 23, (some (19, true)), .op (.ld none (.tmp 22))⟩, none, []⟩,
    ⟨8, ⟨some 24, (some (19, true)), .op (.mv (.tmp 0))⟩, none, []⟩,
    ⟨9, ⟨some 25, (some (19, true)), .op (.mv (.tmp 7))⟩, none, []⟩,
    ⟨10, ⟨some 26, (some (19, true)), .op (.bin .sub (.tmp 25) (.const (.int .i64 1)))⟩, none, []⟩,
    ⟨11, ⟨some 27, (some (19, true)), .op (.ia 1 (.tmp 24) (.tmp 26))⟩, none, []⟩,
    ⟨12, ⟨some 28, (some (19, true)), .op (.ld none (.tmp 27))⟩, none, []⟩,
    ⟨13, ⟨some 29, (some (19, true)), .call 236 [.tmp 23, .tmp 28]⟩, none, []⟩,
    ⟨14, ⟨some 30, none, .op (.pick (.tmp 19) (.tmp 29) (.const (.bool false)))⟩, none, []⟩]
def c230_4 : C := .regD 0 [⟨0, ⟨some 33, none, .op (.mv (.tmp 0))⟩, none, []⟩,
    ⟨1, ⟨some 34, none, .op (.mv (.tmp 7))⟩, none, []⟩,
    ⟨2, ⟨some 35, none, .op (.mv (.tmp 0))⟩, none, []⟩,
    ⟨3, ⟨some 36, none, .op (.mv (.tmp 7))⟩, none, []⟩,
    ⟨4, ⟨some 37, none, .op (.bin .sub (.tmp 36) (.const (.int .i64 1)))⟩, none, []⟩,
    ⟨5, ⟨some 38, none, .op (.mv (.tmp 0))⟩, none, []⟩,
    ⟨6, ⟨some 39, none, .op (.mv (.tmp 7))⟩, none, []⟩,
    ⟨7, ⟨some 40, none, .op (.bin .sub (.tmp 39) (.const (.int .i64 1)))⟩, none, []⟩,
    ⟨8, ⟨some 41, none, .op (.ia 1 (.tmp 38) (.tmp 40))⟩, none, []⟩,
    ⟨9, ⟨some 42, none, .op (.ld none (.tmp 41))⟩, none, []⟩,
    ⟨10, ⟨some 43, none, .op (.mv (.tmp 0))⟩, none, []⟩,
    ⟨11, ⟨some 44, none, .op (.mv (.tmp 7))⟩, none, []⟩,
    ⟨12, ⟨some 45, none, .op (.ia 1 (.tmp 43) (.tmp 44))⟩, none, []⟩,
    ⟨13, ⟨some 46, none, .op (.ld none (.tmp 45))⟩, none, []⟩,
    ⟨14, ⟨some 47, none, .op (.ia 1 (.tmp 33) (.tmp 34))⟩, none, []⟩,
    ⟨15, ⟨none, none, .op (.st 1 (.tmp 47) (.tmp 42))⟩, none, []⟩,
    ⟨16, ⟨some 48, none, .op (.ia 1 (.tmp 35) (.tmp 37))⟩, none, []⟩,
    ⟨17, ⟨none, none, .op (.st 1 (.tmp 48) (.tmp 46))⟩, none, []⟩]
def c230_5 : C := .reg [⟨some 31, none, .op (.mv (.tmp 7))⟩,
    ⟨some 32, none, .op (.bin .sub (.tmp 31) (.const (.int .i64 1)))⟩,
    ⟨some 7, none, .op (.mv (.tmp 32))⟩]
def c230_6 : C := .reg [⟨some 13, none, .op (.mv (.tmp 6))⟩,
    ⟨some 14, none, .op (.bin .add (.tmp 13) (.const (.int .i64 1)))⟩,
    ⟨some 6, none, .op (.mv (.tmp 14))⟩]
def c230 : Fn' := ⟨(.seq c230_0 (.block 0 (.loop (.seq (.seq c230_1 (.cond (.tmp 12) .skip (.exit 0))) (.seq (.block 1 (.seq c230_2 (.block 2 (.loop (.seq (.seq c230_3 (.cond (.tmp 30) .skip (.exit 2))) (.seq (.block 3 c230_4) c230_5)))))) c230_6))))), []⟩
theorem comp230 : compFn Tryz.prog 230 = some c230 := by kernel_rfl

def c231_0 : C := .reg [⟨some 11, none, .op (.mv (.tmp 1))⟩,
    ⟨some 6, none, .op (.mv (.tmp 11))⟩]
def c231_1 : C := .reg [⟨some 7, none, .op (.mv (.const (.int .i64 0)))⟩]
def c231_2 : C := .reg [⟨some 12, none, .op (.mv (.tmp 2))⟩,
    ⟨some 13, none, .op (.mv (.tmp 1))⟩,
    ⟨some 14, none, .op (.bin .sub (.tmp 12) (.tmp 13))⟩,
    ⟨some 8, none, .op (.mv (.tmp 14))⟩]
def c231_3 : C := .reg [⟨some 15, none, .op (.mv (.tmp 8))⟩,
    ⟨some 16, none, .op (.bin .sub (.tmp 15) (.const (.int .i64 1)))⟩,
    ⟨some 17, none, .op (.bin .quo (.tmp 16) (.const (.int .i64 2)))⟩,
    ⟨some 9, none, .op (.mv (.tmp 17))⟩]
def c231_4 : C := .reg [⟨some 18, none, .op (.mv (.tmp 9))⟩,
    ⟨some 19, none, .op (.bin .geq (.tmp 18) (.const (.int .i64 0)))⟩]
def c231_5 : C := .reg [⟨some 22, none, .op (.mv (.tmp 0))⟩,
    ⟨some 23, none, .op (.mv (.tmp 9))⟩,
    ⟨some 24, none, .op (.mv (.tmp 8))⟩,
    ⟨some 25, none, .op (.mv (.tmp 6))⟩,
    ⟨some 26, none, .call 255 [.tmp 22, .tmp 23, .tmp 24, .tmp 25]⟩]
def c231_6 : C := .reg [⟨some 20, none, .op (.mv (.tmp 9))⟩,
    ⟨some 21, none, .op (.bin .sub (.tmp 20) (.const (.int .i64 1)))⟩,
    ⟨some 9, none, .op (.mv (.tmp 21))⟩]
def c231_7 : C := .reg [⟨some 27, none, .op (.mv (.tmp 8))⟩,
    ⟨some 28, none, .op (.bin .sub (.tmp 27) (.const (.int .i64 1)))⟩,
    ⟨some 10, none, .op (.mv (.tmp 28))⟩]
def c231_8 : C := .reg [⟨some 29, none, .op (.mv (.tmp 10))⟩,
    ⟨some 30, none, .op (.bin .geq (.tmp 29) (.const (.int .i64 0)))⟩]
def c231_9 : C := .regD 0 [⟨0, ⟨some 33, none, .op (.mv (.tmp 0))⟩, none, []⟩,
    ⟨1, ⟨some 34, none, .op (.mv (.tmp 6))⟩, none, []⟩,
    ⟨2, ⟨some 35, none, .op (.mv (.tmp 0))⟩, none, []⟩,
    ⟨3, ⟨some 36, none, .op (.mv (.tmp 6))⟩, none, []⟩,
    ⟨4, ⟨some 37, none, .op (.mv (.tmp 10))⟩, none, []⟩,
    ⟨5, ⟨some 38, none, .op (.bin .add (.tmp 36) (.tmp 37))⟩, none, []⟩,
    ⟨6, ⟨some 39, none, .op (.mv (.tmp 0))⟩, none, []⟩,
    ⟨7, ⟨some 40, none, .op (.mv (.tmp 6))⟩, none, []⟩,
    ⟨8, ⟨some 41, none, .op (.mv (.tmp 10))⟩, none, []⟩,
    ⟨9, ⟨some 42, none, .op (.bin .add (.tmp 40) (.tmp 41))⟩, none, []⟩,
    ⟨10, ⟨some 43, none, .op (.ia 1 (.tmp 39) (.tmp 42))⟩, none, []⟩,
    ⟨11, ⟨some 44, none, .op (.ld none (.tmp 43))⟩, none, []⟩,
    ⟨12, ⟨some 45, none, .op (.mv (.tmp 0))⟩, none, []⟩,
    ⟨13, ⟨some 46, none, .op (.mv (.tmp 6))⟩, none, []⟩,
    ⟨14, ⟨some 47, none, .op (.ia 1 (.tmp 45) (.tmp 46))⟩, none, []⟩,
    ⟨15, ⟨some 48, none, .op (.ld none (.tmp 47))⟩, none, []⟩,
    ⟨16, ⟨some 49, none, .op (.ia 1 (.tmp 33) (.tmp 34))⟩, none, []⟩,
    ⟨17, ⟨none, none, .op (.st 1 (.tmp 49) (.tmp 44))⟩, none, []⟩,
    ⟨18, ⟨some 50, none, .op (.ia 1 (.tmp 35) (.tmp 38))⟩, none, []⟩,
    ⟨19, ⟨none, none, .op (.st 1 (.tmp 50) (.tmp 48))⟩, none, []⟩]
def c231_10 : C := .reg [⟨some 51, none, .op (.mv (.tmp 0))⟩,
    ⟨some 52, none, .op (.mv (.tmp 7))⟩,
    ⟨some 53, none, .op (.mv (.tmp 10))⟩,
    ⟨some 54, none, .op (.mv (.tmp 6))⟩,
    ⟨some 55, none, .call 255 [.tmp 51, .tmp 52, .tmp 53, .tmp 54]⟩]
def c231_11 : C := .reg [⟨some 31, none, .op (.mv (.tmp 10))⟩,
    ⟨some 32, none, .op (.bin .sub (.tmp 31) (.const (.int .i64 1)))⟩,
    ⟨some 10, none, .op (.mv (.tmp 32))⟩]
def c231 : Fn' := ⟨(.seq c231_0 (.seq c231_1 (.seq c231_2 (.seq (.seq c231_3 (.block 0 (.loop (.seq (.seq c231_4 (.cond (.tmp 19) .skip (.exit 0))) (.seq (.block 1 c231_5) c231_6))))) (.seq c231_7 (.block 2 (.loop (.seq (.seq c231_8 (.cond (.tmp 30) .skip (.exit 2))) (.seq (.block 3 (.seq c231_9 c231_10)) c231_11))))))))), []⟩
theorem comp231 : compFn Tryz.prog 231 = some c231 := by kernel_rfl

def c232_0 : C := .reg [⟨some 11, none, .op (.mv (.tmp 2))⟩,
    ⟨some 12, none, .op (.mv (.tmp 1))⟩,
    ⟨some 13, none, .op (.bin .sub (.tmp 11) (.tmp 12))⟩,
    ⟨some 6, none, .op (.mv (.tmp 13))⟩]
def c232_1 : C := .reg [⟨some 14, none, .op (.mv (.tmp 6))⟩,
    ⟨some 15, none, .op (.bin .geq (.tmp 14) (.const (.int .i64 8)))⟩]
def c232_2 : C := .reg [⟨some 16, none, .op (.mv (.tmp 6))⟩,
    ⟨some 17, none, .op (.conv .u64 (.tmp 16))⟩,
    ⟨some 7, none, .op (.new [(.int .u64 0)])⟩,
    ⟨none, none, .op (.st 1 (.tmp 7) (.tmp 17))⟩]
def c232_3 : C := .reg [⟨some 18, none, .op (.mv (.tmp 6))⟩,
    ⟨some 19, none, .call 251 [.tmp 18]⟩,
    ⟨some 8, none, .op (.mv (.tmp 19))⟩]
def c232_4 : C := .reg [⟨some 20, none, .op (.mv (.tmp 1))⟩,
    ⟨some 21, none, .op (.mv (.tmp 6))⟩,
    ⟨some 22, none, .op (.bin .quo (.tmp 21) (.const (.int .i64 4)))⟩,
    ⟨some 23, none, .op (.bin .mul (.tmp 22) (.const (.int .i64 2)))⟩,
    ⟨some 24, none, .op (.bin .add (.tmp 20) (.tmp 23))⟩,
    ⟨some 25, none, .op (.bin .sub (.tmp 24) (.const (.int .i64 1)))⟩,
    ⟨some 9, none, .op (.mv (.tmp 25))⟩]
def c232_5 : C := .reg [⟨some 26, none, .op (.mv (.tmp 9))⟩,
    ⟨some 27, none, .op (.mv (.tmp 1))⟩,
    ⟨some 28, none, .op (.mv (.tmp 6))⟩,
    ⟨some 29, none, .op (.bin .quo (.tmp 28) (.const (.int .i64 4)))⟩,
    ⟨some 30, none, .op (.bin .mul (.tmp 29) (.const (.int .i64 2)))⟩,
    ⟨some 31, none, .op (.bin .add (.tmp 27) (.tmp 30))⟩,
    ⟨some 32, none, .op (.bin .add (.tmp 31) (.const (.int .i64 1)))⟩,
    ⟨some 33, none, .op (.bin .leq (.tmp 26) (.tmp 32))⟩]
def c232_6 : C := .reg [⟨some 36, none, .call 252 [.tmp 7]⟩,
    ⟨some 37, none, .op (.mv (.tmp 8))⟩,
    ⟨some 38, none, .op (.bin .sub (.tmp 37) (.const (.int .u64 1)))⟩,
    ⟨some 39, none, .op (.bin .and (.tmp 36) (.tmp 38))⟩,
    ⟨some 40, none, .op (.conv .i64 (.tmp 39))⟩,
    ⟨some 10, none, .op (.mv (.tmp 40))⟩]
def c232_7 : C := .reg [⟨some 41, none, .op (.mv (.tmp 10))⟩,
    ⟨some 42, none, .op (.mv (.tmp 6))⟩,
    ⟨some 43, none, .op (.bin .geq (.tmp 41) (.tmp 42))⟩]
def c232_8 : C := .reg [⟨some 44, none, .op (.mv (.tmp 10))⟩,
    ⟨some 45, none, .op (.mv (.tmp 6))⟩,
    ⟨some 46, none, .op (.bin .sub (.tmp 44) (.tmp 45))⟩,
    ⟨some 10, none, .op (.mv (.tmp 46))⟩]
def c232_9 : C := .regD 0 [⟨0, ⟨some 47, none, .op (.mv (.tmp 0))⟩, none, []⟩,
    ⟨1, ⟨some 48, none, .op (.mv (.tmp 9))⟩, none, []⟩,
    ⟨2, ⟨some 49, none, .op (.mv (.tmp 0))⟩, none, []⟩,
    ⟨3, ⟨some 50, none, .op (.mv (.tmp 1))⟩, none, []⟩,
    ⟨4, ⟨some 51, none, .op (.mv (.tmp 10))⟩, none, []⟩,
    ⟨5, ⟨some 52, none, .op (.bin .add (.tmp 50) (.tmp 51))⟩, none, []⟩,
    ⟨6, ⟨some 53, none, .op (.mv (.tmp 0))⟩, none, []⟩,
    ⟨7, ⟨some 54, none, .op (.mv (.tmp 1))⟩, none, []⟩,
    ⟨8, ⟨some 55, none, .op (.mv (.tmp 10))⟩, none, []⟩,
    ⟨9, ⟨some 56, none, .op (.bin .add (.tmp 54) (.tmp 55))⟩, none, []⟩,
    ⟨10, ⟨some 57, none, .op (.ia 1 (.tmp 53) (.tmp 56))⟩, none, []⟩,
    ⟨11, ⟨some 58, none, .op (.ld none (.tmp 57))⟩, none, []⟩,
    ⟨12, ⟨some 59, none, .op (.mv (.tmp 0))⟩, none, []⟩,
    ⟨13, ⟨some 60, none, .op (.mv (.tmp 9))⟩, none, []⟩,
    ⟨14, ⟨some 61, none, .op (.ia 1 (.tmp 59) (.tmp 60))⟩, none, []⟩,
    ⟨15, ⟨some 62, none, .op (.ld none (.tmp 61))⟩, none, []⟩,
    ⟨16, ⟨some 63, none, .op (.ia 1 (.tmp 47) (.tmp 48))⟩, none, []⟩,
    ⟨17, ⟨none, none, .op (.st 1 (.tmp 63) (.tmp 58))⟩, none, []⟩,
    ⟨18, ⟨some 64, none, .op (.ia 1 (.tmp 49) (.tmp 52))⟩, none, []⟩,
    ⟨19, ⟨none, none, .op (.st 1 (.tmp 64) (.tmp 62))⟩, none, []⟩]
def c232_10 : C := .reg [⟨some 34, none, .op (.mv (.tmp 9))⟩,
    ⟨some 35, none, .op (.bin .add (.tmp 34) (.const (.int .i64 1)))⟩,
    ⟨some 9, none, .op (.mv (.tmp 35))⟩]
def c232 : Fn' := ⟨(.seq c232_0 (.seq c232_1 (.cond (.tmp 15) (.seq c232_2 (.seq c232_3 (.seq c232_4 (.block 0 (.loop (.seq (.seq c232_5 (.cond (.tmp 33) .skip (.exit 0))) (.seq (.block 1 (.seq c232_6 (.seq (.seq c232_7 (.cond (.tmp 43) c232_8 .skip)) c232_9))) c232_10))))))) .skip))), []⟩
theorem comp232 : compFn Tryz.prog 232 = some c232 := by kernel_rfl

def c233_0 : C := .reg [⟨some 6, none, .op (.mv (.const (.int .i64 0)))⟩,
    ⟨some 7, none, .op (.mv (.const (.int .i64 0)))⟩]
def c233_1 : C := .reg [⟨some 13, none, .op (.mv (.tmp 2))⟩,
    ⟨some 14, none, .op (.mv (.tmp 1))⟩,
    ⟨some 15, none, .op (.bin .sub (.tmp 13) (.tmp 14))⟩,
    ⟨some 8, none, .op (.mv (.tmp 15))⟩]
def c233_2 : C := .reg [⟨some 9, none, .op (.new [(.int .i64 0)])⟩]
def c233_3 : C := .reg [⟨some 16, none, .op (.mv (.tmp 1))⟩,
    ⟨some 17, none, .op (.mv (.tmp 8))⟩,
    ⟨some 18, none, .op (.bin .quo (.tmp 17) (.const (.int .i64 4)))⟩,
    ⟨some 19, none, .op (.bin .mul (.tmp 18) (.const (.int .i64 1)))⟩,
    ⟨some 20, none, .op (.bin .add (.tmp 16) (.tmp 19))⟩,
    ⟨some 10, none, .op (.mv (.tmp 20))⟩]
def c233_4 : C := .reg [⟨some 21, none, .op (.mv (.tmp 1))⟩,
    ⟨some 22, none, .op (.mv (.tmp 8))⟩,
    ⟨some 23, none, .op (.bin .quo (.tmp 22) (.const (.int .i64 4)))⟩,
    ⟨some 24, none, .op (.bin .mul (.tmp 23) (.const (.int .i64 2)))⟩,
    ⟨some 25, none, .op (.bin .add (.tmp 21) (.tmp 24))⟩,
    ⟨some 11, none, .op (.mv (.tmp 25))⟩]
def c233_5 : C := .reg [⟨some 26, none, .op (.mv (.tmp 1))⟩,
    ⟨some 27, none, .op (.mv (.tmp 8))⟩,
    ⟨some 28, none, .op (.bin .quo (.tmp 27) (.const (.int .i64 4)))⟩,
    ⟨some 29, none, .op (.bin .mul (.tmp 28) (.const (.int .i64 3)))⟩,
    ⟨some 30, none, .op (.bin .add (.tmp 26) (.tmp 29))⟩,
    ⟨some 12, none, .op (.mv (.tmp 30))⟩]
def c233_6 : C := .reg [⟨some 31, none, .op (.mv (.tmp 8))⟩,
    ⟨some 32, none, .op (.bin .geq (.tmp 31) (.const (.int .i64 8)))⟩]
def c233_7 : C := .reg [⟨some 33, none, .op (.mv (.tmp 8))⟩,
    ⟨some 34, none, .op (.bin .geq (.tmp 33) (.const (.int .i64 50)))⟩]
def c233_8 : C := .reg [⟨some 35, none, .op (.mv (.tmp 0))⟩,
    ⟨some 36, none, .op (.mv (.tmp 10))⟩,
    ⟨some 37, none, .call 256 [.tmp 35, .tmp 36, .tmp 9]⟩,
    ⟨some 10, none, .op (.mv (.tmp 37))⟩]
def c233_9 : C := .reg [⟨some 38, none, .op (.mv (.tmp 0))⟩,
    ⟨some 39, none, .op (.mv (.tmp 11))⟩,
    ⟨some 40, none, .call 256 [.tmp 38, .tmp 39, .tmp 9]⟩,
    ⟨some 11, none, .op (.mv (.tmp 40))⟩]
def c233_10 : C := .reg [⟨some 41, none, .op (.mv (.tmp 0))⟩,
    ⟨some 42, none, .op (.mv (.tmp 12))⟩,
    ⟨some 43, none, .call 256 [.tmp 41, .tmp 42, .tmp 9]⟩,
    ⟨some 12, none, .op (.mv (.tmp 43))⟩]
def c233_11 : C := .reg [⟨some 44, none, .op (.mv (.tmp 0))⟩,
    ⟨some 45, none, .op (.mv (.tmp 10))⟩,
    ⟨some 46, none, .op (.mv (.tmp 11))⟩,
    ⟨some 47, none, .op (.mv (.tmp 12))⟩,
    ⟨some 48, none, .call 257 [.tmp 44, .tmp 45, .tmp 46, .tmp 47, .tmp 9]⟩,
    ⟨some 11, none, .op (.mv (.tmp 48))⟩]
def c233_12 : C := .reg [⟨some 49, none, .op (.ld none (.tmp 9))⟩]
def c233_13 : C := .reg [⟨some 52, none, .op (.bin .eql (.tmp 49) (.const (.int .i64 0)))⟩,
    ⟨some 51, none, .op (.mv (.tmp 52))⟩]
def c233_14 : C := .reg [⟨some 53, none, .op (.mv (.tmp 11))⟩,
    ⟨some 6, none, .op (.mv (.tmp 53))⟩,
    ⟨some 7, none, .op (.mv (.const (.int .i64 1)))⟩]
def c233_15 : C := .reg [⟨some 55, none, .op (.bin .eql (.tmp 49) (.const (.int .i64 12)))⟩,
    ⟨some 54, none, .op (.mv (.tmp 55))⟩]
def c233_16 : C := .reg [⟨some 56, none, .op (.mv (.tmp 11))⟩,
    ⟨some 6, none, .op (.mv (.tmp 56))⟩,
    ⟨some 7, none, .op (.mv (.const (.int .i64 2)))⟩]
def c233_17 : C := .reg [⟨some 50, none, .op (.mv (.tmp 11))⟩,
    ⟨some 6, none, .op (.mv (.tmp 50))⟩,
    ⟨some 7, none, .op (.mv (.const (.int .i64 0)))⟩]
def c233 : Fn' := ⟨(.seq c233_0 (.seq c233_1 (.seq c233_2 (.seq c233_3 (.seq c233_4 (.seq c233_5 (.seq (.seq c233_6 (.cond (.tmp 32) (.seq (.seq c233_7 (.cond (.tmp 34) (.seq c233_8 (.seq c233_9 c233_10)) .skip)) c233_11) .skip)) (.seq c233_12 (.block 0 (.seq c233_13 (.cond (.tmp 51) (.seq c233_14 .ret) (.seq c233_15 (.cond (.tmp 54) (.seq c233_16 .ret) (.seq c233_17 .ret)))))))))))))), [.tmp 6, .tmp 7]⟩
theorem comp233 : compFn Tryz.prog 233 = some c233 := by kernel_rfl

def c234_0 : C := .reg [⟨some 8, none, .op (.mv (.tmp 1))⟩,
    ⟨some 6, none, .op (.mv (.tmp 8))⟩]
def c234_1 : C := .reg [⟨some 9, none, .op (.mv (.tmp 2))⟩,
    ⟨some 10, none, .op (.bin .sub (.tmp 9) (.const (.int .i64 1)))⟩,
    ⟨some 7, none, .op (.mv (.tmp 10))⟩]
def c234_2 : C := .reg [⟨some 11, none, .op (.mv (.tmp 6))⟩,
    ⟨some 12, none, .op (.mv (.tmp 7))⟩,
    ⟨some 13, none, .op (.bin .lss (.tmp 11) (.tmp 12))⟩]
def c234_3 : C := .regD 0 [⟨0, ⟨some 14, none, .op (.mv (.tmp 0))⟩, none, []⟩,
    ⟨1, ⟨some 15, none, .op (.mv (.tmp 6))⟩, none, []⟩,
    ⟨2, ⟨some 16, none, .op (.mv (.tmp 0))⟩, none, []⟩,
    ⟨3, ⟨some 17, none, .op (.mv (.tmp 7))⟩, none, []⟩,
    ⟨4, ⟨some 18, none, .op (.mv (.tmp 0))⟩, none, []⟩,
    ⟨5, ⟨some 19, none, .op (.mv (.tmp 7))⟩, none, []⟩,
    ⟨6, ⟨some 20, none, .op (.ia 1 (.tmp 18) (.tmp 19))⟩, none, []⟩,
    ⟨7, ⟨some 21, none, .op (.ld none (.tmp 20))⟩, none, []⟩,
    ⟨8, ⟨some 22, none, .op (.mv (.tmp 0))⟩, none, []⟩,
    ⟨9, ⟨some 23, none, .op (.mv (.tmp 6))⟩, none, []⟩,
    ⟨10, ⟨some 24, none, .op (.ia 1 (.tmp 22) (.tmp 23))⟩, none, []⟩,
    ⟨11, ⟨some 25, none, .op (.ld none (.tmp 24))⟩, none, []⟩,
    ⟨12, ⟨some 26, none, .op (.ia 1 (.tmp 14) (.tmp 15))⟩, none, []⟩,
    ⟨13, ⟨none, none, .op (.st 1 (.tmp 26) (.tmp 21))⟩, none, []⟩,
    ⟨14, ⟨some 27, none, .op (.ia 1 (.tmp 16) (.tmp 17))⟩, none, []⟩,
    ⟨15, ⟨none, none, .op (.st 1 (.tmp 27) (.tmp 25))⟩, none, []⟩]
def c234_4 : C := .reg [⟨some 28, none, .op (.mv (.tmp 6))⟩,
    ⟨some 29, none, .op (.bin .add (.tmp 28) (.const (.int .i64 1)))⟩,
    ⟨some 6, none, .op (.mv (.tmp 29))⟩]
def c234_5 : C := .reg [⟨some 30, none, .op (.mv (.tmp 7))⟩,
    ⟨some 31, none, .op (.bin .sub (.tmp 30) (.const (.int .i64 1)))⟩,
    ⟨some 7, none, .op (.mv (.tmp 31))⟩]
def c234 : Fn' := ⟨(.seq c234_0 (.seq c234_1 (.block 0 (.loop (.seq (.seq c234_2 (.cond (.tmp 13) .skip (.exit 0))) (.block 1 (.seq c234_3 (.seq c234_4 c234_5)))))))), []⟩
theorem comp234 : compFn Tryz.prog 234 = some c234 := by kernel_rfl

def c235_0 : C := .reg [⟨some 6, none, .op (.mv (.const (.bool false)))⟩]
def c235_1 : C := .reg [⟨some 11, none, .op (.mv (.tmp 1))⟩,
    ⟨some 12, none, .op (.bin .add (.tmp 11) (.const (.int .i64 1)))⟩,
    ⟨some 7, none, .op (.mv (.tmp 12))⟩]
def c235_2 : C := .reg [⟨some 8, none, .op (.mv (.const (.int .i64 0)))⟩]
def c235_3 : C := .reg [⟨some 13, none, .op (.mv (.tmp 8))⟩,
    ⟨some 14, none, .op (.bin .lss (.tmp 13) (.const (.int .i64 5)))⟩]
def c235_4 : C := .regD 0 [⟨0, ⟨some 17, none, .op (.mv (.tmp 7))⟩, none, []⟩,
    ⟨1, ⟨some 18, none, .op (.mv (.tmp 2))⟩, none, []⟩,
    ⟨2, ⟨some 19, none, .op (.bin .lss (.tmp 17) (.tmp 18))⟩, none, []⟩,
    ⟨3, ⟨some 20, none, .op (.mv (.tmp 19))⟩, none, []⟩,
    ⟨4, ⟨some 21, (some (20, true)), .op (.mv (.tmp 0))⟩, none, []⟩,
    ⟨5, ⟨some 22, (some (20, true)), .op (.mv (.tmp 7))⟩, none, []⟩,
    ⟨6, ⟨some 23, (some (20, true)), .op (.ia 1 (.tmp 21) (.tmp 22))⟩, none, []⟩,
    ⟨7, ⟨some 24, (some (20, true)), .op (.ld none (.tmp 23))⟩, none, []⟩,
    ⟨8, ⟨some 25, (some (20, true)), .op (.mv (.tmp 0))⟩, none, []⟩,
    ⟨9, ⟨some 26, (some (20, true)), .op (.mv (.tmp 7))⟩, none, []⟩,
    ⟨10, ⟨some 27, (some (20, true)), .op (.bin .sub (.tmp 26) (.const (.int .i64 1)))⟩, none, []⟩,
    ⟨11, ⟨some 28, (some (20, true)), .op (.ia 1 (.tmp 25) (.tmp 27))⟩, none, []⟩,
    ⟨12, ⟨some 29, (some (20, true)), .op (.ld none (.tmp 28))⟩, none, []⟩,
    ⟨13, ⟨some 30, (some (20, true)), .call 236 [.tmp 24, .tmp 29]⟩, none, []⟩,
    ⟨14, ⟨some 31, (some (20, true)), .op (.un .not (.tmp 30))⟩, none, []⟩,
    ⟨15, ⟨some 32, none, .op (.pick (.tmp 20) (.tmp 31) (.const (.bool false)))⟩, none, []⟩]
def c235_5 : C := .reg [⟨some 33, none, .op (.mv (.tmp 7))⟩,
    ⟨some 34, none, .op (.bin .add (.tmp 33) (.const (.int .i64 1)))⟩,
    ⟨some 7, none, .op (.mv (.tmp 34))⟩]
def c235_6 : C := .reg [⟨some 35, none, .op (.mv (.tmp 7))⟩,
    ⟨some 36, none, .op (.mv (.tmp 2))⟩,
    ⟨some 37, none, .op (.bin .eql (.tmp 35) (.tmp 36))⟩]
def c235_7 : C := .reg [⟨some 6, none, .op (.mv (.const (.bool true)))⟩]
def c235_8 : C := .reg [⟨some 38, none, .op (.mv (.tmp 2))⟩,
    ⟨some 39, none, .op (.mv (.tmp 1))⟩,
    ⟨some 40, none, .op (.bin .sub (.tmp 38) (.tmp 39))⟩,
    ⟨some 41, none, .op (.bin .lss (.tmp 40) (.const (.int .i64 50)))⟩]
def c235_9 : C := .reg [⟨some 6, none, .op (.mv (.const (.bool false)))⟩]
def c235_10 : C := .regD 0 [⟨0, ⟨some 42, none, .op (.mv (.tmp 0))⟩, none, []⟩,
    ⟨1, ⟨some 43, none, .op (.mv (.tmp 7))⟩, none, []⟩,
    ⟨2, ⟨some 44, none, .op (.mv (.tmp 0))⟩, none, []⟩,
    ⟨3, ⟨some 45, none, .op (.mv (.tmp 7))⟩, none, []⟩,
    ⟨4, ⟨some 46, none, .op (.bin .sub (.tmp 45) (.const (.int .i64 1)))⟩, none, []⟩,
    ⟨5, ⟨some 47, none, .op (.mv (.tmp 0))⟩, none, []⟩,
    ⟨6, ⟨some 48, none, .op (.mv (.tmp 7))⟩, none, []⟩,
    ⟨7, ⟨some 49, none, .op (.bin .sub (.tmp 48) (.const (.int .i64 1)))⟩, none, []⟩,
    ⟨8, ⟨some 50, none, .op (.ia 1 (.tmp 47) (.tmp 49))⟩, none, []⟩,
    ⟨9, ⟨some 51, none, .op (.ld none (.tmp 50))⟩, none, []⟩,
    ⟨10, ⟨some 52, none, .op (.mv (.tmp 0))⟩, none, []⟩,
    ⟨11, ⟨some 53, none, .op (.mv (.tmp 7))⟩, none, []⟩,
    ⟨12, ⟨some 54, none, .op (.ia 1 (.tmp 52) (.tmp 53))⟩, none, []⟩,
    ⟨13, ⟨some 55, none, .op (.ld none (.tmp 54))⟩, none, []⟩,
    ⟨14, ⟨some 56, none, .op (.ia 1 (.tmp 42) (.tmp 43))⟩, none, []⟩,
    ⟨15, ⟨none, none, .op (.st 1 (.tmp 56) (.tmp 51))⟩, none, []⟩,
    ⟨16, ⟨some 57, none, .op (.ia 1 (.tmp 44) (.tmp 46))⟩, none, []⟩,
    ⟨17, ⟨none, none, .op (.st 1 (.tmp 57) (.tmp 55))⟩, none, []⟩]
def c235_11 : C := .reg [⟨some 58, none, .op (.mv (.tmp 7))⟩,
    ⟨some 59, none, .op (.mv (.tmp 1))⟩,
    ⟨some 60, none, .op (.bin .sub (.tmp 58) (.tmp 59))⟩,
    ⟨some 61, none, .op (.bin .geq (.tmp 60) (.const (.int .i64 2)))⟩]
def c235_12 : C := .reg [⟨some 62, none, .op (.mv (.tmp 7))⟩,
    ⟨some 63, none, .op (.bin .sub (.tmp 62) (.const (.int .i64 1)))⟩,
    ⟨some 9, none, .op (.mv (.tmp 63))⟩]
def c235_13 : C := .reg [⟨some 64, none, .op (.mv (.tmp 9))⟩,
    ⟨some 65, none, .op (.bin .geq (.tmp 64) (.const (.int .i64 1)))⟩]
def c235_14 : C := .regD 0 [⟨0, ⟨some 68, none, .op (.mv (.tmp 0))⟩, none, []⟩,
    ⟨1, ⟨some 69, none, .op (.mv (.tmp 9))⟩, none, []⟩,
    ⟨2, ⟨some 70, none, .op (.ia 1 (.tmp 68) (.tmp 69))⟩, none, []⟩,
    ⟨3, ⟨some 71, none, .op (.ld none (.tmp 70))⟩, none, []⟩,
    ⟨4, ⟨some 72, none, .op (.mv (.tmp 0))⟩, none, []⟩,
    ⟨5, ⟨some 73, none, .op (.mv (.tmp 9))⟩, none, []⟩,
    ⟨6, ⟨some 74, none, .op (.bin .sub (.tmp 73) (.const (.int .i64 1)))⟩, none, []⟩,
    ⟨7, ⟨some 75, none, .op (.ia 1 (.tmp 72) (.tmp 74))⟩, none, []⟩,
    ⟨8, ⟨some 76, none, .op (.ld none (.tmp 75))⟩, none, []⟩,
    ⟨9, ⟨some 77, none, .call 236 [.tmp 71, .tmp 76]⟩, none, []⟩,
    ⟨10, ⟨some 78, none, .op (.un .not (.tmp 77))⟩, none, []⟩]
def c235_15 : C := .regD 0 [⟨0, ⟨some 79, none, .op (.mv (.tmp 0))⟩, none, []⟩,
    ⟨1, ⟨some 80, none, .op (.mv (.tmp 9))⟩, none, []⟩,
    ⟨2, ⟨some 81, none, .op (.mv (.tmp 0))⟩, none, []⟩,
    ⟨3, ⟨some 82, none, .op (.mv (.tmp 9))⟩, none, []⟩,
    ⟨4, ⟨some 83, none, .op (.bin .sub (.tmp 82) (.const (.int .i64 1)))⟩, none, []⟩,
    ⟨5, ⟨some 84, none, .op (.mv (.tmp 0))⟩, none, []⟩,
    ⟨6, ⟨some 85, none, .op (.mv (.tmp 9))⟩, none, []⟩,
    ⟨7, ⟨some 86, none, .op (.bin .sub (.tmp 85) (.const (.int .i64 1)))⟩, none, []⟩,
    ⟨8, ⟨some 87, none, .op (.ia 1 (.tmp 84) (.tmp 86))⟩, none, []⟩,
    ⟨9, ⟨some 88, none, .op (.ld none (.tmp 87))⟩, none, []⟩,
    ⟨10, ⟨some 89, none, .op (.mv (.tmp 0))⟩, none, []⟩,
    ⟨11, ⟨some 90, none, .op (.mv (.tmp 9))⟩, none, []⟩,
    ⟨12, ⟨some 91, none, .op (.ia 1 (.tmp 89) (.tmp 90))⟩, none, []⟩,
    ⟨13, ⟨some 92, none, .op (.ld none (.tmp 91))⟩, none, []⟩,
    ⟨14, ⟨some 93, none, .op (.ia 1 (.tmp 79) (.tmp 80))⟩, none, []⟩,
    ⟨15, ⟨none, none, .op (.st 1 (.tmp 93) (.tmp 88))⟩, none, []⟩,
    ⟨16, ⟨some 94, none, .op (.ia 1 (.tmp 81) (.tmp 83))⟩, none, []⟩,
    ⟨17, ⟨none, none, .op (.st 1 (.tmp 94) (.tmp 92))⟩, none, []⟩]
def c235_16 : C := .reg [⟨some 66, none, .op (.mv (.tmp 9))⟩,
    ⟨some 67, none, .op (.bin .sub (.tmp 66) (.const (.int .i64 1)))⟩,
    ⟨some 9, none, .op (.mv (.tmp 67))⟩]
def c235_17 : C := .reg [⟨some 95, none, .op (.mv (.tmp 2))⟩,
    ⟨some 96, none, .op (.mv (.tmp 7))⟩,
    ⟨some 97, none, .op (.bin .sub (.tmp 95) (.tmp 96))⟩,
    ⟨some 98, none, .op (.bin .geq (.tmp 97) (.const (.int .i64 2)))⟩]
def c235_18 : C := .reg [⟨some 99, none, .op (.mv (.tmp 7))⟩,
    ⟨some 100, none, .op (.bin .add (.tmp 99) (.const (.int .i64 1)))⟩,
    ⟨some 10, none, .op (.mv (.tmp 100))⟩]
def c235_19 : C := .reg [⟨some 101, none, .op (.mv (.tmp 10))⟩,
    ⟨some 102, none, .op (.mv (.tmp 2))⟩,
    ⟨some 103, none, .op (.bin .lss (.tmp 101) (.tmp 102))⟩]
def c235_20 : C := .regD 0 [⟨0, ⟨some 106, none, .op (.mv (.tmp 0))⟩, none, []⟩,
    ⟨1, ⟨some 107, none, .op (.mv (.tmp 10))⟩, none, []⟩,
    ⟨2, ⟨some 108, none, .op (.ia 1 (.tmp 106) (.tmp 107))⟩, none, []⟩,
    ⟨3, ⟨some 109, none, .op (.ld none (.tmp 108))⟩, none, []⟩,
    ⟨4, ⟨some 110, none, .op (.mv (.tmp 0))⟩, none, []⟩,
    ⟨5, ⟨some 111, none, .op (.mv (.tmp 10))⟩, none, []⟩,
    ⟨6, ⟨some 112, none, .op (.bin .sub (.tmp 111) (.const (.int .i64 1)))⟩, none, []⟩,
    ⟨7, ⟨some 113, none, .op (.ia 1 (.tmp 110) (.tmp 112))⟩, none, []⟩,
    ⟨8, ⟨some 114, none, .op (.ld none (.tmp 113))⟩, none, []⟩,
    ⟨9, ⟨some 115, none, .call 236 [.tmp 109, .tmp 114]⟩, none, []⟩,
    ⟨10, ⟨some 116, none, .op (.un .not (.tmp 115))⟩, none, []⟩]
def c235_21 : C := .regD 0 [⟨0, ⟨some 117, none, .op (.mv (.tmp 0))⟩, none, []⟩,
    ⟨1, ⟨some 118, none, .op (.mv (.tmp 10))⟩, none, []⟩,
    ⟨2, ⟨some 119, none, .op (.mv (.tmp 0))⟩, none, []⟩,
    ⟨3, ⟨some 120, none, .op (.mv (.tmp 10))⟩, none, []⟩,
    ⟨4, ⟨some 121, none, .op (.bin .sub (.tmp 120) (.const (.int .i64 1)))⟩, none, []⟩,
    ⟨5, ⟨some 122, none, .op (.mv (.tmp 0))⟩, none, []⟩,
    ⟨6, ⟨some 123, none, .op (.mv (.tmp 10))⟩, none, []⟩,
    ⟨7, ⟨some 124, none, .op (.bin .sub (.tmp 123) (.const (.int .i64 1)))⟩, none, []⟩,
    ⟨8, ⟨some 125, none, .op (.ia 1 (.tmp 122) (.tmp 124))⟩, none, []⟩,
    ⟨9, ⟨some 126, none, .op (.ld none (.tmp 125))⟩, none, []⟩,
    ⟨10, ⟨some 127, none, .op (.mv (.tmp 0))⟩, none, []⟩,
    ⟨11, ⟨some 128, none, .op (.mv (.tmp 10))⟩, none, []⟩,
    ⟨12, ⟨some 129, none, .op (.ia 1 (.tmp 127) (.tmp 128))⟩, none, []⟩,
    ⟨13, ⟨some 130, none, .op (.ld none (.tmp 129))⟩, none, []⟩,
    ⟨14, ⟨some 131, none, .op (.ia 1 (.tmp 117) (.tmp 118))⟩, none, []⟩,
    ⟨15, ⟨none, none, .op (.st 1 (.tmp 131) (.tmp 126))⟩, none, []⟩,
    ⟨16, ⟨some 132, none, .op (.ia 1 (.tmp 119) (.tmp 121))⟩, none, []⟩,
    ⟨17, ⟨none, none, .op (.st 1 (.tmp 132) (.tmp 130))⟩, none, []⟩]
def c235_22 : C := .reg [⟨some 104, none, .op (.mv (.tmp 10))⟩,
    ⟨some 105, none, .op (.bin .add (.tmp 104) (.const (.int .i64 1)))⟩,
    ⟨some 10, none, .op (.mv (.tmp 105))⟩]
def c235_23 : C := .reg [⟨some 15, none, .op (.mv (.tmp 8))⟩,
    ⟨some 16, none, .op (.bin .add (.tmp 15) (.const (.int .i64 1)))⟩,
    ⟨some 8, none, .op (.mv (.tmp 16))⟩]
def c235_24 : C := .reg [⟨some 6, none, .op (.mv (.const (.bool false)))⟩]
def c235 : Fn' := ⟨(.seq c235_0 (.seq c235_1 (.seq (.seq c235_2 (.block 0 (.loop (.seq (.seq c235_3 (.cond (.tmp 14) .skip (.exit 0))) (.seq (.block 1 (.seq (.block 2 (.loop (.seq (.seq c235_4 (.cond (.tmp 32) .skip (.exit 2))) (.block 3 c235_5)))) (.seq (.seq c235_6 (.cond (.tmp 37) (.seq c235_7 .ret) .skip)) (.seq (.seq c235_8 (.cond (.tmp 41) (.seq c235_9 .ret) .skip)) (.seq c235_10 (.seq (.seq c235_11 (.cond (.tmp 61) (.seq c235_12 (.block 4 (.loop (.seq (.seq c235_13 (.cond (.tmp 65) .skip (.exit 4))) (.seq (.block 5 (.seq (.seq c235_14 (.cond (.tmp 78) (.exit 4) .skip)) c235_15)) c235_16))))) .skip)) (.seq c235_17 (.cond (.tmp 98) (.seq c235_18 (.block 6 (.loop (.seq (.seq c235_19 (.cond (.tmp 103) .skip (.exit 6))) (.seq (.block 7 (.seq (.seq c235_20 (.cond (.tmp 116) (.exit 6) .skip)) c235_21)) c235_22))))) .skip)))))))) c235_23))))) (.seq c235_24 .ret)))), [.tmp 6]⟩
theorem comp235 : compFn Tryz.prog 235 = some c235 := by kernel_rfl

def c236_0 : C := .reg [⟨some 4, none, .op (.mv (.const (.bool false)))⟩]
def c236_1 : C := .reg [⟨some 5, none, .op (.mv (.tmp 0))⟩,
    ⟨some 6, none, .call 189 [.tmp 5]⟩,
    ⟨some 7, none, .op (.mv (.tmp 6))⟩,
    ⟨some 8, (some (7, true)), .op (.mv (.tmp 1))⟩,
    ⟨some 9, (some (7, true)), .call 189 [.tmp 8]⟩,
    ⟨some 10, (some (7, true)), .op (.un .not (.tmp 9))⟩,
    ⟨some 11, none, .op (.pick (.tmp 7) (.tmp 10) (.const (.bool false)))⟩,
    ⟨some 12, none, .op (.mv (.tmp 11))⟩,
    ⟨some 13, (some (12, false)), .op (.mv (.tmp 0))⟩,
    ⟨some 14, (some (12, false)), .op (.mv (.tmp 1))⟩,
    ⟨some 15, (some (12, false)), .op (.bin .lss (.tmp 13) (.tmp 14))⟩,
    ⟨some 16, none, .op (.pick (.tmp 12) (.const (.bool true)) (.tmp 15))⟩,
    ⟨some 4, none, .op (.mv (.tmp 16))⟩]
def c236 : Fn' := ⟨(.seq c236_0 (.seq c236_1 .ret)), [.tmp 4]⟩
theorem comp236 : compFn Tryz.prog 236 = some c236 := by kernel_rfl

def c237_0 : C := .reg [⟨some 8, none, .op (.mv (.const (.int .i64 0)))⟩]
def c237_1 : C := .regD 0 [⟨0, ⟨some 11, none, .op (.mv (.tmp 0))⟩, none, []⟩,
    ⟨1, ⟨some 12, none, .op (.mv (.tmp 1))⟩, none, []⟩,
    ⟨2, ⟨some 13, none, .op (.mv (.tmp 0))⟩, none, []⟩,
    ⟨3, ⟨some 14, none, .op (.mv (.tmp 3))⟩, none, []⟩,
    ⟨4, ⟨some 15, none, .op (.mv (.tmp 0))⟩, none, []⟩,
    ⟨5, ⟨some 16, none, .op (.mv (.tmp 3))⟩, none, []⟩,
    ⟨6, ⟨some 17, none, .op (.ia 1 (.tmp 15) (.tmp 16))⟩, none, []⟩,
    ⟨7, ⟨some 18, none, .op (.ld none (.tmp 17))⟩, none, []⟩,
    ⟨8, ⟨some 19, none, .op (.mv (.tmp 0))⟩, none, []⟩,
    ⟨9, ⟨some 20, none, .op (.mv (.tmp 1))⟩, none, []⟩,
    ⟨10, ⟨some 21, none, .op (.ia 1 (.tmp 19) (.tmp 20))⟩, none, []⟩,
    ⟨11, ⟨some 22, none, .op (.ld none (.tmp 21))⟩, none, []⟩,
    ⟨12, ⟨some 23, none, .op (.ia 1 (.tmp 11) (.tmp 12))⟩, none, []⟩,
    ⟨13, ⟨none, none, .op (.st 1 (.tmp 23) (.tmp 18))⟩, none, []⟩,
    ⟨14, ⟨some 24, none, .op (.ia 1 (.tmp 13) (.tmp 14))⟩, none, []⟩,
    ⟨15, ⟨none, none, .op (.st 1 (.tmp 24) (.tmp 22))⟩, none, []⟩]
def c237_2 : C := .reg [⟨some 25, none, .op (.mv (.tmp 1))⟩,
    ⟨some 26, none, .op (.bin .add (.tmp 25) (.const (.int .i64 1)))⟩,
    ⟨some 27, none, .op (.mv (.tmp 2))⟩,
    ⟨some 28, none, .op (.bin .sub (.tmp 27) (.const (.int .i64 1)))⟩,
    ⟨some 9, none, .op (.mv (.tmp 26))⟩,
    ⟨some 10, none, .op (.mv (.tmp 28))⟩]
def c237_3 : C := .regD 0 [⟨0, ⟨some 29, none, .op (.mv (.tmp 9))⟩, none, []⟩,
    ⟨1, ⟨some 30, none, .op (.mv (.tmp 10))⟩, none, []⟩,
    ⟨2, ⟨some 31, none, .op (.bin .leq (.tmp 29) (.tmp 30))⟩, none, []⟩,
    ⟨3, ⟨some 32, none, .op (.mv (.tmp 31))⟩, none, []⟩,
    ⟨4, ⟨some 33, (some (32, true)), .op (.mv (.tmp 0))⟩, none, []⟩,
    ⟨5, ⟨some 34, (some (32, true)), .op (.mv (.tmp 1))⟩, none, []⟩,
    ⟨6, ⟨some 35, (some (32, true)), .op (.ia 1 (.tmp 33) (.tmp 34))⟩, none, []⟩,
    ⟨7, ⟨some 36, (some (32, true)), .op (.ld none (.tmp 35))⟩, none, []⟩,
    ⟨8, ⟨some 37, (some (32, true)), .op (.mv (.tmp 0))⟩, none, []⟩,
    ⟨9, ⟨some 38, (some (32, true)), .op (.mv (.tmp 9))⟩, none, []⟩,
    ⟨10, ⟨some 39, (some (32, true)), .op (.ia 1 (.tmp 37) (.tmp 38))⟩, none, []⟩,
    ⟨11, ⟨some 40, (some (32, true)), .op (.ld none (.tmp 39))⟩, none, []⟩,
    ⟨12, ⟨some 41, (some (32, true)), .call 236 [.tmp 36, .tmp 40]⟩, none, []⟩,
    ⟨13, ⟨some 42, (some (32, true)), .op (.un .not (.tmp 41))⟩, none, []⟩,
    ⟨14, ⟨some 43, none, .op (.pick (.tmp 32) (.tmp 42) (.const (.bool false)))⟩, none, []⟩]
def c237_4 : C := .reg [⟨some 44, none, .op (.mv (.tmp 9))⟩,
    ⟨some 45, none, .op (.bin .add (.tmp 44) (.const (.int .i64 1)))⟩,
    ⟨some 9, none, .op (.mv (.tmp 45))⟩]
def c237_5 : C := .regD 0 [⟨0, ⟨some 46, none, .op (.mv (.tmp 9))⟩, none, []⟩,
    ⟨1, ⟨some 47, none, .op (.mv (.tmp 10))⟩, none, []⟩,
    ⟨2, ⟨some 48, none, .op (.bin .leq (.tmp 46) (.tmp 47))⟩, none, []⟩,
    ⟨3, ⟨some 49, none, .op (.mv (.tmp 48))⟩, none, []⟩,
    ⟨4, ⟨some 50, (some (49, true)), .op (.mv (.tmp 0))⟩, none, []⟩,
    ⟨5, ⟨some 51, (some (49, true)), .op (.mv (.tmp 1))⟩, none, []⟩,
    ⟨6, ⟨some 52, (some (49, true)), .op (.ia 1 (.tmp 50) (.tmp 51))⟩, none, []⟩,
    ⟨7, ⟨some 53, (some (49, true)), .op (.ld none (.tmp 52))⟩, none, []⟩,
    ⟨8, ⟨some 54, (some (49, true)), .op (.mv (.tmp 0))⟩, none, []⟩,
    ⟨9, ⟨some 55, (some (49, true)), .op (.mv (.tmp 10))⟩, none, []⟩,
    ⟨10, ⟨some 56, (some (49, true)), .op (.ia 1 (.tmp 54) (.tmp 55))⟩, none, []⟩,
    ⟨11, ⟨some 57, (some (49, true)), .op (.ld none (.tmp 56))⟩, none, []⟩,
    ⟨12, ⟨some 58, (some (49, true)), .call 236 [.tmp 53, .tmp 57]⟩, none, []⟩,
    ⟨13, ⟨some 59, none, .op (.pick (.tmp 49) (.tmp 58) (.const (.bool false)))⟩, none, []⟩]
def c237_6 : C := .reg [⟨some 60, none, .op (.mv (.tmp 10))⟩,
    ⟨some 61, none, .op (.bin .sub (.tmp 60) (.const (.int .i64 1)))⟩,
    ⟨some 10, none, .op (.mv (.tmp 61))⟩]
def c237_7 : C := .reg [⟨some 62, none, .op (.mv (.tmp 9))⟩,
    ⟨some 63, none, .op (.mv (.tmp 10))⟩,
    ⟨some 64, none, .op (.bin .gtr (.tmp 62) (.tmp 63))⟩]
def c237_8 : C := .regD 0 [⟨0, ⟨some 65, none, .op (.mv (.tmp 0))⟩, none, []⟩,
    ⟨1, ⟨some 66, none, .op (.mv (.tmp 9))⟩, none, []⟩,
    ⟨2, ⟨some 67, none, .op (.mv (.tmp 0))⟩, none, []⟩,
    ⟨3, ⟨some 68, none, .op (.mv (.tmp 10))⟩, none, []⟩,
    ⟨4, ⟨some 69, none, .op (.mv (.tmp 0))⟩, none, []⟩,
    ⟨5, ⟨some 70, none, .op (.mv (.tmp 10))⟩, none, []⟩,
    ⟨6, ⟨some 71, none, .op (.ia 1 (.tmp 69) (.tmp 70))⟩, none, []⟩,
    ⟨7, ⟨some 72, none, .op (.ld none (.tmp 71))⟩, none, []⟩,
    ⟨8, ⟨some 73, none, .op (.mv (.tmp 0))⟩, none, []⟩,
    ⟨9, ⟨some 74, none, .op (.mv (.tmp 9))⟩, none, []⟩,
    ⟨10, ⟨some 75, none, .op (.ia 1 (.tmp 73) (.tmp 74))⟩, none, []⟩,
    ⟨11, ⟨some 76, none, .op (.ld none (.tmp 75))⟩, none, []⟩,
    ⟨12, ⟨some 77, none, .op (.ia 1 (.tmp 65) (.tmp 66))⟩, none, []⟩,
    ⟨13, ⟨none, none, .op (.st 1 (.tmp 77) (.tmp 72))⟩, none, []⟩,
    ⟨14, ⟨some 78, none, .op (.ia 1 (.tmp 67) (.tmp 68))⟩, none, []⟩,
    ⟨15, ⟨none, none, .op (.st 1 (.tmp 78) (.tmp 76))⟩, none, []⟩]
def c237_9 : C := .reg [⟨some 79, none, .op (.mv (.tmp 9))⟩,
    ⟨some 80, none, .op (.bin .add (.tmp 79) (.const (.int .i64 1)))⟩,
    ⟨some 9, none, .op (.mv (.tmp 80))⟩]
def c237_10 : C := .reg [⟨some 81, none, .op (.mv (.tmp 10))⟩,
    ⟨some 82, none, .op (.bin .sub (.tmp 81) (.const (.int .i64 1)))⟩,
    ⟨some 10, none, .op (.mv (.tmp 82))⟩]
def c237_11 : C := .reg [⟨some 83, none, .op (.mv (.tmp 9))⟩,
    ⟨some 8, none, .op (.mv (.tmp 83))⟩]
def c237 : Fn' := ⟨(.seq c237_0 (.seq c237_1 (.seq c237_2 (.seq (.block 0 (.loop (.block 1 (.seq (.block 2 (.loop (.seq (.seq c237_3 (.cond (.tmp 43) .skip (.exit 2))) (.block 3 c237_4)))) (.seq (.block 4 (.loop (.seq (.seq c237_5 (.cond (.tmp 59) .skip (.exit 4))) (.block 5 c237_6)))) (.seq (.seq c237_7 (.cond (.tmp 64) (.exit 0) .skip)) (.seq c237_8 (.seq c237_9 c237_10)))))))) (.seq c237_11 .ret))))), [.tmp 8]⟩
theorem comp237 : compFn Tryz.prog 237 = some c237 := by kernel_rfl

def c238_0 : C := .reg [⟨some 8, none, .op (.mv (.const (.int .i64 0)))⟩,
    ⟨some 9, none, .op (.mv (.const (.bool false)))⟩]
def c238_1 : C := .regD 0 [⟨0, ⟨some 12, none, .op (.mv (.tmp 0))⟩, none, []⟩,
    ⟨1, ⟨some 13, none, .op (.mv (.tmp 1))⟩, none, []⟩,
    ⟨2, ⟨some 14, none, .op (.mv (.tmp 0))⟩, none, []⟩,
    ⟨3, ⟨some 15, none, .op (.mv (.tmp 3))⟩, none, []⟩,
    ⟨4, ⟨some 16, none, .op (.mv (.tmp 0))⟩, none, []⟩,
    ⟨5, ⟨some 17, none, .op (.mv (.tmp 3))⟩, none, []⟩,
    ⟨6, ⟨some 18, none, .op (.ia 1 (.tmp 16) (.tmp 17))⟩, none, []⟩,
    ⟨7, ⟨some 19, none, .op (.ld none (.tmp 18))⟩, none, []⟩,
    ⟨8, ⟨some 20, none, .op (.mv (.tmp 0))⟩, none, []⟩,
    ⟨9, ⟨some 21, none, .op (.mv (.tmp 1))⟩, none, []⟩,
    ⟨10, ⟨some 22, none, .op (.ia 1 (.tmp 20) (.tmp 21))⟩, none, []⟩,
    ⟨11, ⟨some 23, none, .op (.ld none (.tmp 22))⟩, none, []⟩,
    ⟨12, ⟨some 24, none, .op (.ia 1 (.tmp 12) (.tmp 13))⟩, none, []⟩,
    ⟨13, ⟨none, none, .op (.st 1 (.tmp 24) (.tmp 19))⟩, none, []⟩,
    ⟨14, ⟨some 25, none, .op (.ia 1 (.tmp 14) (.tmp 15))⟩, none, []⟩,
    ⟨15, ⟨none, none, .op (.st 1 (.tmp 25) (.tmp 23))⟩, none, []⟩]
def c238_2 : C := .reg [⟨some 26, none, .op (.mv (.tmp 1))⟩,
    ⟨some 27, none, .op (.bin .add (.tmp 26) (.const (.int .i64 1)))⟩,
    ⟨some 28, none, .op (.mv (.tmp 2))⟩,
    ⟨some 29, none, .op (.bin .sub (.tmp 28) (.const (.int .i64 1)))⟩,
    ⟨some 10, none, .op (.mv (.tmp 27))⟩,
    ⟨some 11, none, .op (.mv (.tmp 29))⟩]
def c238_3 : C := .regD 0 [⟨0, ⟨some 30, none, .op (.mv (.tmp 10))⟩, none, []⟩,
    ⟨1, ⟨some 31, none, .op (.mv (.tmp 11))⟩, none, []⟩,
    ⟨2, ⟨some 32, none, .op (.bin .leq (.tmp 30) (.tmp 31))⟩, none, []⟩,
    ⟨3, ⟨some 33, none, .op (.mv (.tmp 32))⟩, none, []⟩,
    ⟨4, ⟨some 34, (some (33, true)), .op (.mv (.tmp 0))⟩, none, []⟩,
    ⟨5, ⟨some 35, (some (33, true)), .op (.mv (.tmp 10))⟩, none, []⟩,
    ⟨6, ⟨some 36, (some (33, true)), .op (.ia 1 (.tmp 34) (.tmp 35))⟩, none, []⟩,
    ⟨7, ⟨some 37, (some (33, true)), .op (.ld none (.tmp 36))⟩, none, []⟩,
    ⟨8, ⟨some 38, (some (33, true)), .op (.mv (.tmp 0))⟩, none, []⟩,
    ⟨9, ⟨some 39, (some (33, true)), .op (.mv (.tmp 1))⟩, none, []⟩,
    ⟨10, ⟨some 40, (some (33, true)), .op (.ia 1 (.tmp 38) (.tmp 39))⟩, none, []⟩,
    ⟨11, ⟨some 41, (some (33, true)), .op (.ld none (.tmp 40))⟩, none, []⟩,
    ⟨12, ⟨some 42, (some (33, true)), .call 236 [.tmp 37, .tmp 41]⟩, none, []⟩,
    ⟨13, ⟨some 43, none, .op (.pick (.tmp 33) (.tmp 42) (.const (.bool false)))⟩, none, []⟩]
def c238_4 : C := .reg [⟨some 44, none, .op (.mv (.tmp 10))⟩,
    ⟨some 45, none, .op (.bin .add (.tmp 44) (.const (.int .i64 1)))⟩,
    ⟨some 10, none, .op (.mv (.tmp 45))⟩]
def c238_5 : C := .regD 0 [⟨0, ⟨some 46, none, .op (.mv (.tmp 10))⟩, none, []⟩,
    ⟨1, ⟨some 47, none, .op (.mv (.tmp 11))⟩, none, []⟩,
    ⟨2, ⟨some 48, none, .op (.bin .leq (.tmp 46) (.tmp 47))⟩, none, []⟩,
    ⟨3, ⟨some 49, none, .op (.mv (.tmp 48))⟩, none, []⟩,
    ⟨4, ⟨some 50, (some (49, true)), .op (.mv (.tmp 0))⟩, none, []⟩,
    ⟨5, ⟨some 51, (some (49, true)), .op (.mv (.tmp 11))⟩, none, []⟩,
    ⟨6, ⟨some 52, (some (49, true)), .op (.ia 1 (.tmp 50) (.tmp 51))⟩, none, []⟩,
    ⟨7, ⟨some 53, (some (49, true)), .op (.ld none (.tmp 52))⟩, none, []⟩,
    ⟨8, ⟨some 54, (some (49, true)), .op (.mv (.tmp 0))⟩, none, []⟩,
    ⟨9, ⟨some 55, (some (49, true)), .op (.mv (.tmp 1))⟩, none, []⟩,
    ⟨10, ⟨some 56, (some (49, true)), .op (.ia 1 (.tmp 54) (.tmp 55))⟩, none, []⟩,
    ⟨11, ⟨some 57, (some (49, true)), .op (.ld none (.tmp 56))⟩, none, []⟩,
    ⟨12, ⟨some 58, (some (49, true)), .call 236 [.tmp 53, .tmp 57]⟩, none, []⟩,
    ⟨13, ⟨some 59, (some (49, true)), .op (.un .not (.tmp 58))⟩, none, []⟩,
    ⟨14, ⟨some 60, none, .op (.pick (.tmp 49) (.tmp 59) (.const (.bool false)))⟩, none, []⟩]
def c238_6 : C := .reg [⟨some 61, none, .op (.mv (.tmp 11))⟩,
    ⟨some 62, none, .op (.bin .sub (.tmp 61) (.const (.int .i64 1)))⟩,
    ⟨some 11, none, .op (.mv (.tmp 62))⟩]
def c238_7 : C := .reg [⟨some 63, none, .op (.mv (.tmp 10))⟩,
    ⟨some 64, none, .op (.mv (.tmp 11))⟩,
    ⟨some 65, none, .op (.bin .gtr (.tmp 63) (.tmp 64))⟩]
def c238_8 : C := .regD 0 [⟨0, ⟨some 66, none, .op (.mv (.tmp 0))⟩, none, []⟩,
    ⟨1, ⟨some 67, none, .op (.mv (.tmp 11))⟩, none, []⟩,
    ⟨2, ⟨some 68, none, .op (.mv (.tmp 0))⟩, none, []⟩,
    ⟨3, ⟨some 69, none, .op (.mv (.tmp 1))⟩, none, []⟩,
    ⟨4, ⟨some 70, none, .op (.mv (.tmp 0))⟩, none, []⟩,
    ⟨5, ⟨some 71, none, .op (.mv (.tmp 1))⟩, none, []⟩,
    ⟨6, ⟨some 72, none, .op (.ia 1 (.tmp 70) (.tmp 71))⟩, none, []⟩,
    ⟨7, ⟨some 73, none, .op (.ld none (.tmp 72))⟩, none, []⟩,
    ⟨8, ⟨some 74, none, .op (.mv (.tmp 0))⟩, none, []⟩,
    ⟨9, ⟨some 75, none, .op (.mv (.tmp 11))⟩, none, []⟩,
    ⟨10, ⟨some 76, none, .op (.ia 1 (.tmp 74) (.tmp 75))⟩, none, []⟩,
    ⟨11, ⟨some 77, none, .op (.ld none (.tmp 76))⟩, none, []⟩,
    ⟨12, ⟨some 78, none, .op (.ia 1 (.tmp 66) (.tmp 67))⟩, none, []⟩,
    ⟨13, ⟨none, none, .op (.st 1 (.tmp 78) (.tmp 73))⟩, none, []⟩,
    ⟨14, ⟨some 79, none, .op (.ia 1 (.tmp 68) (.tmp 69))⟩, none, []⟩,
    ⟨15, ⟨none, none, .op (.st 1 (.tmp 79) (.tmp 77))⟩, none, []⟩]
def c238_9 : C := .reg [⟨some 80, none, .op (.mv (.tmp 11))⟩,
    ⟨some 8, none, .op (.mv (.tmp 80))⟩,
    ⟨some 9, none, .op (.mv (.const (.bool true)))⟩]
def c238_10 : C := .regD 0 [⟨0, ⟨some 81, none, .op (.mv (.tmp 0))⟩, none, []⟩,
    ⟨1, ⟨some 82, none, .op (.mv (.tmp 10))⟩, none, []⟩,
    ⟨2, ⟨some 83, none, .op (.mv (.tmp 0))⟩, none, []⟩,
    ⟨3, ⟨some 84, none, .op (.mv (.tmp 11))⟩, none, []⟩,
    ⟨4, ⟨some 85, none, .op (.mv (.tmp 0))⟩, none, []⟩,
    ⟨5, ⟨some 86, none, .op (.mv (.tmp 11))⟩, none, []⟩,
    ⟨6, ⟨some 87, none, .op (.ia 1 (.tmp 85) (.tmp 86))⟩, none, []⟩,
    ⟨7, ⟨some 88, none, .op (.ld none (.tmp 87))⟩, none, []⟩,
    ⟨8, ⟨some 89, none, .op (.mv (.tmp 0))⟩, none, []⟩,
    ⟨9, ⟨some 90, none, .op (.mv (.tmp 10))⟩, none, []⟩,
    ⟨10, ⟨some 91, none, .op (.ia 1 (.tmp 89) (.tmp 90))⟩, none, []⟩,
    ⟨11, ⟨some 92, none, .op (.ld none (.tmp 91))⟩, none, []⟩,
    ⟨12, ⟨some 93, none, .op (.ia 1 (.tmp 81) (.tmp 82))⟩, none, []⟩,
    ⟨13, ⟨none, none, .op (.st 1 (.tmp 93) (.tmp 88))⟩, none, []⟩,
    ⟨14, ⟨some 94, none, .op (.ia 1 (.tmp 83) (.tmp 84))⟩, none, []⟩,
    ⟨15, ⟨none, none, .op (.st 1 (.tmp 94) (.tmp 92))⟩, none, []⟩]
def c238_11 : C := .reg [⟨some 95, none, .op (.mv (.tmp 10))⟩,
    ⟨some 96, none, .op (.bin .add (.tmp 95) (.const (.int .i64 1)))⟩,
    ⟨some 10, none, .op (.mv (.tmp 96))⟩]
def c238_12 : C := .reg [⟨some 97, none, .op (.mv (.tmp 11))⟩,
    ⟨some 98, none, .op (.bin .sub (.tmp 97) (.const (.int .i64 1)))⟩,
    ⟨some 11, none, .op (.mv (.tmp 98))⟩]
def c238_13 : C := .regD 0 [⟨0, ⟨some 99, none, .op (.mv (.tmp 10))⟩, none, []⟩,
    ⟨1, ⟨some 100, none, .op (.mv (.tmp 11))⟩, none, []⟩,
    ⟨2, ⟨some 101, none, .op (.bin .leq (.tmp 99) (.tmp 100))⟩, none, []⟩,
    ⟨3, ⟨some 102, none, .op (.mv (.tmp 101))⟩, none, []⟩,
    ⟨4, ⟨some 103, (some (102, true)), .op (.mv (.tmp 0))⟩, none, []⟩,
    ⟨5, ⟨some 104, (some (102, true)), .op (.mv (.tmp 10))⟩, none, []⟩,
    ⟨6, ⟨some 105, (some (102, true)), .op (.ia 1 (.tmp 103) (.tmp 104))⟩, none, []⟩,
    ⟨7, ⟨some 106, (some (102, true)), .op (.ld none (.tmp 105))⟩, none, []⟩,
    ⟨8, ⟨some 107, (some (102, true)), .op (.mv (.tmp 0))⟩, none, []⟩,
    ⟨9, ⟨some 108, (some (102, true)), .op (.mv (.tmp 1))⟩, none, []⟩,
    ⟨10, ⟨some 109, (some (102, true)), .op (.ia 1 (.tmp 107) (.tmp 108))⟩, none, []⟩,
    ⟨11, ⟨some 110, (some (102, true)), .op (.ld none (.tmp 109))⟩, none, []⟩,
    ⟨12, ⟨some 111, (some (102, true)), .call 236 [.tmp 106, .tmp 110]⟩, none, []⟩,
    ⟨13, ⟨some 112, none, .op (.pick (.tmp 102) (.tmp 111) (.const (.bool false)))⟩, none, []⟩]
def c238_14 : C := .reg [⟨some 113, none, .op (.mv (.tmp 10))⟩,
    ⟨some 114, none, .op (.bin .add (.tmp 113) (.const (.int .i64 1)))⟩,
    ⟨some 10, none, .op (.mv (.tmp 114))⟩]
def c238_15 : C := .regD 0 [⟨0, ⟨some 115, none, .op (.mv (.tmp 10))⟩, none, []⟩,
    ⟨1, ⟨some 116, none, .op (.mv (.tmp 11))⟩, none, []⟩,
    ⟨2, ⟨some 117, none, .op (.bin .leq (.tmp 115) (.tmp 116))⟩, none, []⟩,
    ⟨3, ⟨some 118, none, .op (.mv (.tmp 117))⟩, none, []⟩,
    ⟨4, ⟨some 119, (some (118, true)), .op (.mv (.tmp 0))⟩, none, []⟩,
    ⟨5, ⟨some 120, (some (118, true)), .op (.mv (.tmp 11))⟩, none, []⟩,
    ⟨6, ⟨some 121, (some (118, true)), .op (.ia 1 (.tmp 119) (.tmp 120))⟩, none, []⟩,
    ⟨7, ⟨some 122, (some (118, true)), .op (.ld none (.tmp 121))⟩, none, []⟩,
    ⟨8, ⟨some 123, (some (118, true)), .op (.mv (.tmp 0))⟩, none, []⟩,
    ⟨9, ⟨some 124, (some (118, true)), .op (.mv (.tmp 1))⟩, none, []⟩,
    ⟨10, ⟨some 125, (some (118, true)), .op (.ia 1 (.tmp 123) (.tmp 124))⟩, none, []⟩,
    ⟨11, ⟨some 126, (some (118, true)), .op (.ld none (.tmp 125))⟩, none, []⟩,
    ⟨12, ⟨some 127, (some (118, true)), .call 236 [.tmp 122, .tmp 126]⟩, none, []⟩,
    ⟨13, ⟨some 128, (some (118, true)), .op (.un .not (.tmp 127))⟩, none, []⟩,
    ⟨14, ⟨some 129, none, .op (.pick (.tmp 118) (.tmp 128) (.const (.bool false)))⟩, none, []⟩]
def c238_16 : C := .reg [⟨some 130, none, .op (.mv (.tmp 11))⟩,
    ⟨some 131, none, .op (.bin .sub (.tmp 130) (.const (.int .i64 1)))⟩,
    ⟨some 11, none, .op (.mv (.tmp 131))⟩]
def c238_17 : C := .reg [⟨some 132, none, .op (.mv (.tmp 10))⟩,
    ⟨some 133, none, .op (.mv (.tmp 11))⟩,
    ⟨some 134, none, .op (.bin .gtr (.tmp 132) (.tmp 133))⟩]
def c238_18 : C := .regD 0 [⟨0, ⟨some 135, none, .op (.mv (.tmp 0))⟩, none, []⟩,
    ⟨1, ⟨some 136, none, .op (.mv (.tmp 10))⟩, none, []⟩,
    ⟨2, ⟨some 137, none, .op (.mv (.tmp 0))⟩, none, []⟩,
    ⟨3, ⟨some 138, none, .op (.mv (.tmp 11))⟩, none, []⟩,
    ⟨4, ⟨some 139, none, .op (.mv (.tmp 0))⟩, none, []⟩,
    ⟨5, ⟨some 140, none, .op (.mv (.tmp 11))⟩, none, []⟩,
    ⟨6, ⟨some 141, none, .op (.ia 1 (.tmp 139) (.tmp 140))⟩, none, []⟩,
    ⟨7, ⟨some 142, none, .op (.ld none (.tmp 141))⟩, none, []⟩,
    ⟨8, ⟨some 143, none, .op (.mv (.tmp 0))⟩, none, []⟩,
    ⟨9, ⟨some 144, none, .op (.mv (.tmp 10))⟩, none, []⟩,
    ⟨10, ⟨some 145, none, .op (.ia 1 (.tmp 143) (.tmp 144))⟩, none, []⟩,
    ⟨11, ⟨some 146, none, .op (.ld none (.tmp 145))⟩, none, []⟩,
    ⟨12, ⟨some 147, none, .op (.ia 1 (.tmp 135) (.tmp 136))⟩, none, []⟩,
    ⟨13, ⟨none, none, .op (.st 1 (.tmp 147) (.tmp 142))⟩, none, []⟩,
    ⟨14, ⟨some 148, none, .op (.ia 1 (.tmp 137) (.tmp 138))⟩, none, []⟩,
    ⟨15, ⟨none, none, .op (.st 1 (.tmp 148) (.tmp 146))⟩, none, []⟩]
def c238_19 : C := .reg [⟨some 149, none, .op (.mv (.tmp 10))⟩,
    ⟨some 150, none, .op (.bin .add (.tmp 149) (.const (.int .i64 1)))⟩,
    ⟨some 10, none, .op (.mv (.tmp 150))⟩]
def c238_20 : C := .reg [⟨some 151, none, .op (.mv (.tmp 11))⟩,
    ⟨some 152, none, .op (.bin .sub (.tmp 151) (.const (.int .i64 1)))⟩,
    ⟨some 11, none, .op (.mv (.tmp 152))⟩]
def c238_21 : C := .regD 0 [⟨0, ⟨some 153, none, .op (.mv (.tmp 0))⟩, none, []⟩,
    ⟨1, ⟨some 154, none, .op (.mv (.tmp 11))⟩, none, []⟩,
    ⟨2, ⟨some 155, none, .op (.mv (.tmp 0))⟩, none, []⟩,
    ⟨3, ⟨some 156, none, .op (.mv (.tmp 1))⟩, none, []⟩,
    ⟨4, ⟨some 157, none, .op (.mv (.tmp 0))⟩, none, []⟩,
    ⟨5, ⟨some 158, none, .op (.mv (.tmp 1))⟩, none, []⟩,
    ⟨6, ⟨some 159, none, .op (.ia 1 (.tmp 157) (.tmp 158))⟩, none, []⟩,
    ⟨7, ⟨some 160, none, .op (.ld none (.tmp 159))⟩, none, []⟩,
    ⟨8, ⟨some 161, none, .op (.mv (.tmp 0))⟩, none, []⟩,
    ⟨9, ⟨some 162, none, .op (.mv (.tmp 11))⟩, none, []⟩,
    ⟨10, ⟨some 163, none, .op (.ia 1 (.tmp 161) (.tmp 162))⟩, none, []⟩,
    ⟨11, ⟨some 164, none, .op (.ld none (.tmp 163))⟩, none, []⟩,
    ⟨12, ⟨some 165, none, .op (.ia 1 (.tmp 153) (.tmp 154))⟩, none, []⟩,
    ⟨13, ⟨none, none, .op (.st 1 (.tmp 165) (.tmp 160))⟩, none, []⟩,
    ⟨14, ⟨some 166, none, .op (.ia 1 (.tmp 155) (.tmp 156))⟩, none, []⟩,
    ⟨15, ⟨none, none, .op (.st 1 (.tmp 166) (.tmp 164))⟩, none, []⟩]
def c238_22 : C := .reg [⟨some 167, none, .op (.mv (.tmp 11))⟩,
    ⟨some 8, none, .op (.mv (.tmp 167))⟩,
    ⟨some 9, none, .op (.mv (.const (.bool false)))⟩]
def c238 : Fn' := ⟨(.seq c238_0 (.seq c238_1 (.seq c238_2 (.seq (.block 0 (.loop (.seq (.seq c238_3 (.cond (.tmp 43) .skip (.exit 0))) (.block 1 c238_4)))) (.seq (.block 2 (.loop (.seq (.seq c238_5 (.cond (.tmp 60) .skip (.exit 2))) (.block 3 c238_6)))) (.seq (.seq c238_7 (.cond (.tmp 65) (.seq c238_8 (.seq c238_9 .ret)) .skip)) (.seq c238_10 (.seq c238_11 (.seq c238_12 (.seq (.block 4 (.loop (.block 5 (.seq (.block 6 (.loop (.seq (.seq c238_13 (.cond (.tmp 112) .skip (.exit 6))) (.block 7 c238_14)))) (.seq (.block 8 (.loop (.seq (.seq c238_15 (.cond (.tmp 129) .skip (.exit 8))) (.block 9 c238_16)))) (.seq (.seq c238_17 (.cond (.tmp 134) (.exit 4) .skip)) (.seq c238_18 (.seq c238_19 c238_20)))))))) (.seq c238_21 (.seq c238_22 .ret)))))))))))), [.tmp 8, .tmp 9]⟩
theorem comp238 : compFn Tryz.prog 238 = some c238 := by kernel_rfl

def c239_0 : C := .reg [⟨some 6, none, .op (.mv (.const (.bool false)))⟩]
def c239_1 : C := .reg [⟨some 11, none, .op (.mv (.tmp 1))⟩,
    ⟨some 7, none, .op (.mv (.tmp 11))⟩]
def c239_2 : C := .reg [⟨some 12, none, .op (.mv (.tmp 7))⟩,
    ⟨some 13, none, .op (.bin .mul (.const (.int .i64 2)) (.tmp 12))⟩,
    ⟨some 14, none, .op (.bin .add (.tmp 13) (.const (.int .i64 1)))⟩,
    ⟨some 8, none, .op (.mv (.tmp 14))⟩]
def c239_3 : C := .reg [⟨some 15, none, .op (.mv (.tmp 8))⟩,
    ⟨some 16, none, .op (.mv (.tmp 2))⟩,
    ⟨some 17, none, .op (.bin .geq (.tmp 15) (.tmp 16))⟩,
    ⟨some 18, none, .op (.mv (.tmp 17))⟩,
    ⟨some 19, (some (18, false)), .op (.mv (.tmp 8))⟩,
    ⟨some 20, (some (18, false)), .op (.bin .lss (.tmp 19) (.const (.int .i64 0)))⟩,
    ⟨some 21, none, .op (.pick (.tmp 18) (.const (.bool true)) (.tmp 20))⟩]
def c239_4 : C := .reg [⟨some 22, none, .op (.mv (.tmp 8))⟩,
    ⟨some 9, none, .op (.mv (.tmp 22))⟩]
def c239_5 : C := .reg [⟨some 23, none, .op (.mv (.tmp 8))⟩,
    ⟨some 24, none, .op (.bin .add (.tmp 23) (.const (.int .i64 1)))⟩,
    ⟨some 10, none, .op (.mv (.tmp 24))⟩]
def c239_6 : C := .reg [⟨some 25, none, .op (.mv (.tmp 10))⟩,
    ⟨some 26, none, .op (.mv (.tmp 2))⟩,
    ⟨some 27, none, .op (.bin .lss (.tmp 25) (.tmp 26))⟩,
    ⟨some 28, none, .op (.mv (.tmp 27))⟩,
    ⟨some 29, (some (28, true)), .op (.mv (.tmp 0))⟩,
    ⟨some 30, (some (28, true)), .op (.mv (.tmp 10))⟩,
    ⟨some 31, (some (28, true)), .op (.mv (.tmp 8))⟩,
    ⟨some 32, (some (28, true)), .inv (.tmp 29) [(249, 0), (250, 0)] [(224, 280, none), (245, 283, none), (246, 283, some none)] [.tmp 30, .tmp 31]⟩,
    ⟨some 33, none, .op (.pick (.tmp 28) (.tmp 32) (.const (.bool false)))⟩]
def c239_7 : C := .reg [⟨some 34, none, .op (.mv (.tmp 10))⟩,
    ⟨some 9, none, .op (.mv (.tmp 34))⟩]
def c239_8 : C := .reg [⟨some 35, none, .op (.mv (.tmp 0))⟩,
    ⟨some 36, none, .op (.mv (.tmp 9))⟩,
    ⟨some 37, none, .op (.mv (.tmp 7))⟩,
    ⟨some 38, none, .inv (.tmp 35) [(249, 0), (250, 0)] [(224, 280, none), (245, 283, none), (246, 283, some none)] [.tmp 36, .tmp 37]⟩,
    ⟨some 39, none, .op (.un .not (.tmp 38))⟩]
def c239_9 : C := .reg [⟨some 40, none, .op (.mv (.tmp 0))⟩,
    ⟨some 41, none, .op (.mv (.tmp 7))⟩,
    ⟨some 42, none, .op (.mv (.tmp 9))⟩,
    ⟨some 43, none, .inv (.tmp 40) [(249, 0), (250, 0)] [(224, 282, none), (245, 284, none), (246, 284, some none)] [.tmp 41, .tmp 42]⟩]
def c239_10 : C := .reg [⟨some 44, none, .op (.mv (.tmp 9))⟩,
    ⟨some 7, none, .op (.mv (.tmp 44))⟩]
def c239_11 : C := .reg [⟨some 45, none, .op (.mv (.tmp 7))⟩,
    ⟨some 46, none, .op (.mv (.tmp 1))⟩,
    ⟨some 47, none, .op (.bin .gtr (.tmp 45) (.tmp 46))⟩,
    ⟨some 6, none, .op (.mv (.tmp 47))⟩]
def c239 : Fn' := ⟨(.seq c239_0 (.seq c239_1 (.seq (.block 0 (.loop (.block 1 (.seq c239_2 (.seq (.seq c239_3 (.cond (.tmp 21) (.exit 0) .skip)) (.seq c239_4 (.seq (.seq c239_5 (.seq c239_6 (.cond (.tmp 33) c239_7 .skip))) (.seq (.seq c239_8 (.cond (.tmp 39) (.exit 0) .skip)) (.seq c239_9 c239_10))))))))) (.seq c239_11 .ret)))), [.tmp 6]⟩
theorem comp239 : compFn Tryz.prog 239 = some c239 := by kernel_rfl

def c240_0 : C := .reg [⟨some 4, none, .op (.mv (.tmp 0))⟩,
    ⟨some 5, none, .inv (.tmp 4) [(249, 0), (250, 0)] [(17, 275, none), (52, 279, none), (224, 194, none), (245, 211, none), (246, 211, some none)] []⟩,
    ⟨some 2, none, .op (.mv (.tmp 5))⟩]
def c240_1 : C := .reg [⟨some 6, none, .op (.mv (.tmp 2))⟩,
    ⟨some 7, none, .op (.bin .quo (.tmp 6) (.const (.int .i64 2)))⟩,
    ⟨some 8, none, .op (.bin .sub (.tmp 7) (.const (.int .i64 1)))⟩,
    ⟨some 3, none, .op (.mv (.tmp 8))⟩]
def c240_2 : C := .reg [⟨some 9, none, .op (.mv (.tmp 3))⟩,
    ⟨some 10, none, .op (.bin .geq (.tmp 9) (.const (.int .i64 0)))⟩]
def c240_3 : C := .reg [⟨some 13, none, .op (.mv (.tmp 0))⟩,
    ⟨some 14, none, .op (.mv (.tmp 3))⟩,
    ⟨some 15, none, .op (.mv (.tmp 2))⟩,
    ⟨some 16, none, .call 239 [.tmp 13, .tmp 14, .tmp 15]⟩]
def c240_4 : C := .reg [⟨some 11, none, .op (.mv (.tmp 3))⟩,
    ⟨some 12, none, .op (.bin .sub (.tmp 11) (.const (.int .i64 1)))⟩,
    ⟨some 3, none, .op (.mv (.tmp 12))⟩]
def c240 : Fn' := ⟨(.seq c240_0 (.seq c240_1 (.block 0 (.loop (.seq (.seq c240_2 (.cond (.tmp 10) .skip (.exit 0))) (.seq (.block 1 c240_3) c240_4)))))), []⟩
theorem comp240 : compFn Tryz.prog 240 = some c240 := by kernel_rfl

def c250_0 : C := .reg [⟨some 12, none, .op (.mv (.tmp 1))⟩,
    ⟨some 10, none, .op (.mv (.tmp 12))⟩]
def c250_1 : C := .reg [⟨some 13, none, .op (.mv (.tmp 10))⟩,
    ⟨some 14, none, .op (.bin .mul (.const (.int .i64 2)) (.tmp 13))⟩,
    ⟨some 15, none, .op (.bin .add (.tmp 14) (.const (.int .i64 1)))⟩,
    ⟨some 11, none, .op (.mv (.tmp 15))⟩]
def c250_2 : C := .reg [⟨some 16, none, .op (.mv (.tmp 11))⟩,
    ⟨some 17, none, .op (.mv (.tmp 2))⟩,
    ⟨some 18, none, .op (.bin .geq (.tmp 16) (.tmp 17))⟩]
def c250_3 : C := .regD 0 [⟨0, ⟨some 19, none, .op (.mv (.tmp 11))⟩, none, []⟩,
    ⟨1, ⟨some 20, none, .op (.bin .add (.tmp 19) (.const (.int .i64 1)))⟩, none, []⟩,
    ⟨2, ⟨some 21, none, .op (.mv (.tmp 2))⟩, none, []⟩,
    ⟨3, ⟨some 22, none, .op (.bin .lss (.tmp 20) (.tmp 21))⟩, none, []⟩,
    ⟨4, ⟨some 23, none, .op (.mv (.tmp 22))⟩, none, []⟩,
    ⟨5, ⟨some 24, (some (23, true)), .op (.mv (.tmp 4))⟩, none, []⟩,
    ⟨6, ⟨some 25, (some (23, true)), .op (.mv (.tmp 0))⟩, none, []⟩,
    ⟨7, ⟨some 26, (some (23, true)), .op (.mv (.tmp 3))⟩, none, []⟩,
    ⟨8, ⟨some 27, (some (23, true)), .op (.mv (.tmp 11))⟩, none, []⟩,
    ⟨9, ⟨some 28, (some (23, true)), .op (.bin .add (.tmp 26) (.tmp 27))⟩, none, []⟩,
    ⟨10, ⟨some 29, (some (23, true)), .op (.ia 1 (.tmp 25) (.tmp 28))⟩, none, []⟩,
    ⟨11, ⟨some 30, (some (23, true)), .op (.ld none (.tmp 29))⟩, none, []⟩,
    ⟨12, ⟨some 31, (some (23, true)), .op (.mv (.tmp 0))⟩, none, []⟩,
    ⟨13, ⟨some 32, (some (23, true)), .op (.mv (.tmp 3))⟩, none, []⟩,
    ⟨14, ⟨some 33, (some (23, true)), .op (.mv (.tmp 11))⟩, none, []⟩,
    ⟨15, ⟨some 34, (some (23, true)), .op (.bin .add (.tmp 32) (.tmp 33))⟩, none, []⟩,
    ⟨16, ⟨some 35, (some (23, true)), .op (.bin .add (.tmp 34) (.const (.int .i64 1)))⟩, none, []⟩,
    ⟨17, ⟨some 36, (some (23, true)), .op (.ia 1 (.tmp 31) (.tmp 35))⟩, none, []⟩,
    ⟨18, ⟨some 37, (some (23, true)), .op (.ld none (.tmp 36))⟩, none, []⟩,
    ⟨19, ⟨some 38, (some (23, true)), .callv (.tmp 24) [.tmp 30, .tmp 37]⟩, none, []⟩,
    ⟨20, ⟨some 39, (some (23, true)), .op (.bin .lss (.tmp 38) (.const (.int .i64 0)))⟩, none, []⟩,
    ⟨21, ⟨some 40, none, .op (.pick (.tmp 23) (.tmp 39) (.const (.bool false)))⟩, none, []⟩]
def c250_4 : C := .reg [⟨some 41, none, .op (.mv (.tmp 11))⟩,
    ⟨some 42, none, .op (.bin .add (.tmp 41) (.const (.int .i64 1)))⟩,
    ⟨some 11, none, .op (.mv (.tmp 42))⟩]
def c250_5 : C := .regD 0 [⟨0, ⟨some 43, none, .op (.mv (.tmp 4))⟩, none, []⟩,
    ⟨1, ⟨some 44, none, .op (.mv (.tmp 0))⟩, none, []⟩,
    ⟨2, ⟨some 45, none, .op (.mv (.tmp 3))⟩, none, []⟩,
    ⟨3, ⟨some 46, none, .op (.mv (.tmp 10))⟩, none, []⟩,
    ⟨4, ⟨some 47, none, .op (.bin .add (.tmp 45) (.tmp 46))⟩, none, []⟩,
    ⟨5, ⟨some 48, none, .op (.ia 1 (.tmp 44) (.tmp 47))⟩, none, []⟩,
    ⟨6, ⟨some 49, none, .op (.ld none (.tmp 48))⟩, none, []⟩,
    ⟨7, ⟨some 50, none, .op (.mv (.tmp 0))⟩, none, []⟩,
    ⟨8, ⟨some 51, none, .op (.mv (.tmp 3))⟩, none, []⟩,
    ⟨9, ⟨some 52, none, .op (.mv (.tmp 11))⟩, none, []⟩,
    ⟨10, ⟨some 53, none, .op (.bin .add (.tmp 51) (.tmp 52))⟩, none, []⟩,
    ⟨11, ⟨some 54, none, .op (.ia 1 (.tmp 50) (.tmp 53))⟩, none, []⟩,
    ⟨12, ⟨some 55, none, .op (.ld none (.tmp 54))⟩, none, []⟩,
    ⟨13, ⟨some 56, none, .callv (.tmp 43) [.tmp 49, .tmp 55]⟩, none, []⟩,
    ⟨14, ⟨some 57, none, .op (.bin .lss (.tmp 56) (.const (.int .i64 0)))⟩, none, []⟩,
    ⟨15, ⟨some 58, none, .op (.un .not (.tmp 57))⟩, none, []⟩]
def c250_6 : C := .regD 0 [⟨0, ⟨some 59, none, .op (.mv (.tmp 0))⟩, none, []⟩,
    ⟨1, ⟨some 60, none, .op (.mv (.tmp 3))⟩, none, []⟩,
    ⟨2, ⟨some 61, none, .op (.mv (.tmp 10))⟩, none, []⟩,
    ⟨3, ⟨some 62, none, .op (.bin .add (.tmp 60) (.tmp 61))⟩, none, []⟩,
    ⟨4, ⟨some 63, none, .op (.mv (.tmp 0))⟩, none, []⟩,
    ⟨5, ⟨some 64, none, .op (.mv (.tmp 3))⟩, none, []⟩,
    ⟨6, ⟨some 65, none, .op (.mv (.tmp 11))⟩, none, []⟩,
    ⟨7, ⟨some 66, none, .op (.bin .add (.tmp 64) (.tmp 65))⟩, none, []⟩,
    ⟨8, ⟨some 67, none, .op (.mv (.tmp 0))⟩, none, []⟩,
    ⟨9, ⟨some 68, none, .op (.mv (.tmp 3))⟩, none, []⟩,
    ⟨10, ⟨some 69, none, .op (.mv (.tmp 11))⟩, none, []⟩,
    ⟨11, ⟨some 70, none, .op (.bin .add (.tmp 68) (.tmp 69))⟩, none, []⟩,
    ⟨12, ⟨some 71, none, .op (.ia 1 (.tmp 67) (.tmp 70))⟩, none, []⟩,
    ⟨13, ⟨some 72, none, .op (.ld none (.tmp 71))⟩, none, []⟩,
    ⟨14, ⟨some 73, none, .op (.mv (.tmp 0))⟩, none, []⟩,
    ⟨15, ⟨some 74, none, .op (.mv (.tmp 3))⟩, none, []⟩,
    ⟨16, ⟨some 75, none, .op (.mv (.tmp 10))⟩, none, []⟩,
    ⟨17, ⟨some 76, none, .op (.bin .add (.tmp 74) (.tmp 75))⟩, none, []⟩,
    ⟨18, ⟨some 77, none, .op (.ia 1 (.tmp 73) (.tmp 76))⟩, none, []⟩,
    ⟨19, ⟨some 78, none, .op (.ld none (.tmp 77))⟩, none, []⟩,
    ⟨20, ⟨some 79, none, .op (.ia 1 (.tmp 59) (.tmp 62))⟩, none, []⟩,
    ⟨21, ⟨none, none, .op (.st 1 (.tmp 79) (.tmp 72))⟩, none, []⟩,
    ⟨22, ⟨some 80, none, .op (.ia 1 (.tmp 63) (.tmp 66))⟩, none, []⟩,
    ⟨23, ⟨none, none, .op (.st 1 (.tmp 80) (.tmp 78))⟩, none, []⟩]
def c250_7 : C := .reg [⟨some 81, none, .op (.mv (.tmp 11))⟩,
    ⟨some 10, none, .op (.mv (.tmp 81))⟩]
def c250 : Fn' := ⟨(.seq c250_0 (.block 0 (.loop (.block 1 (.seq c250_1 (.seq (.seq c250_2 (.cond (.tmp 18) (.exit 0) .skip)) (.seq (.seq c250_3 (.cond (.tmp 40) c250_4 .skip)) (.seq (.seq c250_5 (.cond (.tmp 58) .ret .skip)) (.seq c250_6 c250_7))))))))), []⟩
theorem comp250 : compFn Tryz.prog 250 = some c250 := by kernel_rfl

def c251_0 : C := .reg [⟨some 2, none, .op (.mv (.const (.int .u64 0)))⟩]
def c251_1 : C := .reg [⟨some 3, none, .op (.mv (.tmp 0))⟩,
    ⟨some 4, none, .op (.conv .u64 (.tmp 3))⟩,
    ⟨some 5, none, .call 188 [.tmp 4]⟩,
    ⟨some 6, none, .op (.bin .shl (.const (.int .u64 1)) (.tmp 5))⟩,
    ⟨some 2, none, .op (.mv (.tmp 6))⟩]
def c251 : Fn' := ⟨(.seq c251_0 (.seq c251_1 .ret)), [.tmp 2]⟩
theorem comp251 : compFn Tryz.prog 251 = some c251 := by kernel_rfl

def c252_0 : C := .reg [⟨some 2, none, .op (.mv (.const (.int .u64 0)))⟩]
def c252_1 : C := .regD 0 [⟨0, ⟨some 3, none, .op (.mv (.tmp 0))⟩, none, []⟩,
    ⟨1, ⟨some 4, none, .op (.nn (.tmp 3))⟩, none, []⟩,
    ⟨2, ⟨some 5, none, .op (.ld none (.tmp 4))⟩, none, []⟩,
    ⟨3, ⟨some 6, none, .op (.mv (.tmp 0))⟩, none, []⟩,
    ⟨4, ⟨some 7, none, .op (.nn (.tmp 6))⟩, none, []⟩,
    ⟨5, ⟨some 8, none, .op (.ld none (.tmp 7))⟩, none, []⟩,
    ⟨6, ⟨some 9, none, .op (.bin .shl (.tmp 8) (.const (.int .u64 13)))⟩, none, []⟩,
    ⟨7, ⟨some 10, none, .op (.bin .xor (.tmp 5) (.tmp 9))⟩, none, []⟩,
    ⟨8, ⟨some 11, none, .op (.nn (.tmp 3))⟩, none, []⟩,
    ⟨9, ⟨none, none, .op (.st 1 (.tmp 11) (.tmp 10))⟩, none, []⟩]
def c252_2 : C := .regD 0 [⟨0, ⟨some 12, none, .op (.mv (.tmp 0))⟩, none, []⟩,
    ⟨1, ⟨some 13, none, .op (.nn (.tmp 12))⟩, none, []⟩,
    ⟨2, ⟨some 14, none, .op (.ld none (.tmp 13))⟩, none, []⟩,
    ⟨3, ⟨some 15, none, .op (.mv (.tmp 0))⟩, none, []⟩,
    ⟨4, ⟨some 16, none, .op (.nn (.tmp 15))⟩, none, []⟩,
    ⟨5, ⟨some 17, none, .op (.ld none (.tmp 16))⟩, none, []⟩,
    ⟨6, ⟨some 18, none, .op (.bin .shr (.tmp 17) (.const (.int .u64 7)))⟩, none, []⟩,
    ⟨7, ⟨some 19, none, .op (.bin .xor (.tmp 14) (.tmp 18))⟩, none, []⟩,
    ⟨8, ⟨some 20, none, .op (.nn (.tmp 12))⟩, none, []⟩,
    ⟨9, ⟨none, none, .op (.st 1 (.tmp 20) (.tmp 19))⟩, none, []⟩]
def c252_3 : C := .regD 0 [⟨0, ⟨some 21, none, .op (.mv (.tmp 0))⟩, none, []⟩,
    ⟨1, ⟨some 22, none, .op (.nn (.tmp 21))⟩, none, []⟩,
    ⟨2, ⟨some 23, none, .op (.ld none (.tmp 22))⟩, none, []⟩,
    ⟨3, ⟨some 24, none, .op (.mv (.tmp 0))⟩, none, []⟩,
    ⟨4, ⟨some 25, none, .op (.nn (.tmp 24))⟩, none, []⟩,
    ⟨5, ⟨some 26, none, .op (.ld none (.tmp 25))⟩, none, []⟩,
    ⟨6, ⟨some 27, none, .op (.bin .shl (.tmp 26) (.const (.int .u64 17)))⟩, none, []⟩,
    ⟨7, ⟨some 28, none, .op (.bin .xor (.tmp 23) (.tmp 27))⟩, none, []⟩,
    ⟨8, ⟨some 29, none, .op (.nn (.tmp 21))⟩, none, []⟩,
    ⟨9, ⟨none, none, .op (.st 1 (.tmp 29) (.tmp 28))⟩, none, []⟩]
def c252_4 : C := .reg [⟨some 30, none, .op (.mv (.tmp 0))⟩,
    ⟨some 31, none, .op (.nn (.tmp 30))⟩,
    ⟨some 32, none, .op (.ld none (.tmp 31))⟩,
    ⟨some 2, none, .op (.mv (.tmp 32))⟩]
def c252 : Fn' := ⟨(.seq c252_0 (.seq c252_1 (.seq c252_2 (.seq c252_3 (.seq c252_4 .ret))))), [.tmp 2]⟩
theorem comp252 : compFn Tryz.prog 252 = some c252 := by kernel_rfl

def c253_0 : C := .reg [⟨some 8, none, .op (.mv (.const (.int .i64 0)))⟩]
def c253_1 : C := .reg [⟨some 9, none, .op (.mv (.tmp 0))⟩,
    ⟨some 10, none, .op (.mv (.tmp 1))⟩,
    ⟨some 11, none, .op (.bin .sub (.tmp 10) (.const (.int .i64 1)))⟩,
    ⟨some 12, none, .op (.mv (.tmp 1))⟩,
    ⟨some 13, none, .op (.mv (.tmp 1))⟩,
    ⟨some 14, none, .op (.bin .add (.tmp 13) (.const (.int .i64 1)))⟩,
    ⟨some 15, none, .op (.mv (.tmp 2))⟩,
    ⟨some 16, none, .op (.mv (.tmp 3))⟩,
    ⟨some 17, none, .call 254 [.tmp 9, .tmp 11, .tmp 12, .tmp 14, .tmp 15, .tmp 16]⟩,
    ⟨some 8, none, .op (.mv (.tmp 17))⟩]
def c253 : Fn' := ⟨(.seq c253_0 (.seq c253_1 .ret)), [.tmp 8]⟩
theorem comp253 : compFn Tryz.prog 253 = some c253 := by kernel_rfl

def c254_0 : C := .reg [⟨some 12, none, .op (.mv (.const (.int .i64 0)))⟩]
def c254_1 : C := .reg [⟨some 14, none, .op (.mv (.tmp 0))⟩,
    ⟨some 15, none, .op (.mv (.tmp 1))⟩,
    ⟨some 16, none, .op (.mv (.tmp 2))⟩,
    ⟨some 17, none, .op (.mv (.tmp 4))⟩,
    ⟨some 18, none, .op (.mv (.tmp 5))⟩,
    ⟨some 19, none, .call 260 [.tmp 14, .tmp 15, .tmp 16, .tmp 17, .tmp 18]⟩,
    ⟨some 13, none, .op (.mv (.tmp 19))⟩,
    ⟨some 20, none, .op (.ext (.tmp 13) 0)⟩,
    ⟨some 21, none, .op (.ext (.tmp 13) 1)⟩,
    ⟨some 1, none, .op (.mv (.tmp 20))⟩,
    ⟨some 2, none, .op (.mv (.tmp 21))⟩]
def c254_2 : C := .reg [⟨some 23, none, .op (.mv (.tmp 0))⟩,
    ⟨some 24, none, .op (.mv (.tmp 2))⟩,
    ⟨some 25, none, .op (.mv (.tmp 3))⟩,
    ⟨some 26, none, .op (.mv (.tmp 4))⟩,
    ⟨some 27, none, .op (.mv (.tmp 5))⟩,
    ⟨some 28, none, .call 260 [.tmp 23, .tmp 24, .tmp 25, .tmp 26, .tmp 27]⟩,
    ⟨some 22, none, .op (.mv (.tmp 28))⟩,
    ⟨some 29, none, .op (.ext (.tmp 22) 0)⟩,
    ⟨some 30, none, .op (.ext (.tmp 22) 1)⟩,
    ⟨some 2, none, .op (.mv (.tmp 29))⟩,
    ⟨some 3, none, .op (.mv (.tmp 30))⟩]
def c254_3 : C := .reg [⟨some 32, none, .op (.mv (.tmp 0))⟩,
    ⟨some 33, none, .op (.mv (.tmp 1))⟩,
    ⟨some 34, none, .op (.mv (.tmp 2))⟩,
    ⟨some 35, none, .op (.mv (.tmp 4))⟩,
    ⟨some 36, none, .op (.mv (.tmp 5))⟩,
    ⟨some 37, none, .call 260 [.tmp 32, .tmp 33, .tmp 34, .tmp 35, .tmp 36]⟩,
    ⟨some 31, none, .op (.mv (.tmp 37))⟩,
    ⟨some 38, none, .op (.ext (.tmp 31) 0)⟩,
    ⟨some 39, none, .op (.ext (.tmp 31) 1)⟩,
    ⟨some 1, none, .op (.mv (.tmp 38))⟩,
    ⟨some 2, none, .op (.mv (.tmp 39))⟩]
def c254_4 : C := .reg [⟨some 40, none, .op (.mv (.tmp 2))⟩,
    ⟨some 12, none, .op (.mv (.tmp 40))⟩]
def c254 : Fn' := ⟨(.seq c254_0 (.seq c254_1 (.seq c254_2 (.seq c254_3 (.seq c254_4 .ret))))), [.tmp 12]⟩
theorem comp254 : compFn Tryz.prog 254 = some c254 := by kernel_rfl

def c255_0 : C := .reg [⟨some 10, none, .op (.mv (.tmp 1))⟩,
    ⟨some 8, none, .op (.mv (.tmp 10))⟩]
def c255_1 : C := .reg [⟨some 11, none, .op (.mv (.tmp 8))⟩,
    ⟨some 12, none, .op (.bin .mul (.const (.int .i64 2)) (.tmp 11))⟩,
    ⟨some 13, none, .op (.bin .add (.tmp 12) (.const (.int .i64 1)))⟩,
    ⟨some 9, none, .op (.mv (.tmp 13))⟩]
def c255_2 : C := .reg [⟨some 14, none, .op (.mv (.tmp 9))⟩,
    ⟨some 15, none, .op (.mv (.tmp 2))⟩,
    ⟨some 16, none, .op (.bin .geq (.tmp 14) (.tmp 15))⟩]
def c255_3 : C := .regD 0 [⟨0, ⟨some 17, none, .op (.mv (.tmp 9))⟩, none, []⟩,
    ⟨1, ⟨some 18, none, .op (.bin .add (.tmp 17) (.const (.int .i64 1)))⟩, none, []⟩,
    ⟨2, ⟨some 19, none, .op (.mv (.tmp 2))⟩, none, []⟩,
    ⟨3, ⟨some 20, none, .op (.bin .lss (.tmp 18) (.tmp 19))⟩, none, []⟩,
    ⟨4, ⟨some 21, none, .op (.mv (.tmp 20))⟩, none, []⟩,
    ⟨5, ⟨some 22, (some (21, true)), .op (.mv (.tmp 0))⟩, none, []⟩,
    ⟨6, ⟨some 23, (some (21, true)), .op (.mv (.tmp 3))⟩, none, []⟩,
    ⟨7, ⟨some 24, (some (21, true)), .op (.mv (.tmp 9))⟩, none, []⟩,
    ⟨8, ⟨some 25, (some (21, true)), .op (.bin .add (.tmp 23) (.tmp 24))⟩, none, []⟩,
    ⟨9, ⟨some 26, (some (21, true)), .op (.ia 1 (.tmp 22) (.tmp 25))⟩, none, []⟩,
    ⟨10, ⟨some 27, (some (21, true)), .op (.ld none (.tmp 26))⟩, none, []⟩,
    ⟨11, ⟨some 28, (some (21, true)), .op (.mv (.tmp 0))⟩, none, []⟩,
    ⟨12, ⟨some 29, (some (21, true)), .op (.mv (.tmp 3))⟩, none, []⟩,
    ⟨13, ⟨some 30, (some (21, true)), .op (.mv (.tmp 9))⟩, none, []⟩,
    ⟨14, ⟨some 31, (some (21, true)), .op (.bin .add (.tmp 29) (.tmp 30))⟩, none, []⟩,
    ⟨15, ⟨some 32, (some (21, true)), .op (.bin .add (.tmp 31) (.const (.int .i64 1)))⟩, none, []⟩,
    ⟨16, ⟨some 33, (some (21, true)), .op (.ia 1 (.tmp 28) (.tmp 32))⟩, none, []⟩,
    ⟨17, ⟨some 34, (some (21, true)), .op (.ld none (.tmp 33))⟩, none, []⟩,
    ⟨18, ⟨some 35, (some (21, true)), .call 236 [.tmp 27, .tmp 34]⟩, none, []⟩,
    ⟨19, ⟨some 36, none, .op (.pick (.tmp 21) (.tmp 35) (.const (.bool false)))⟩, none, []⟩]
def c255_4 : C := .reg [⟨some 37, none, .op (.mv (.tmp 9))⟩,
    ⟨some 38, none, .op (.bin .add (.tmp 37) (.const (.int .i64 1)))⟩,
    ⟨some 9, none, .op (.mv (.tmp 38))⟩]
def c255_5 : C := .regD 0 [⟨0, ⟨some 39, none, .op (.mv (.tmp 0))⟩, none, []⟩,
    ⟨1, ⟨some 40, none, .op (.mv (.tmp 3))⟩, none, []⟩,
    ⟨2, ⟨some 41, none, .op (.mv (.tmp 8))⟩, none, []⟩,
    ⟨3, ⟨some 42, none, .op (.bin .add (.tmp 40) (.tmp 41))⟩, none, []⟩,
    ⟨4, ⟨some 43, none, .op (.ia 1 (.tmp 39) (.tmp 42))⟩, none, []⟩,
    ⟨5, ⟨some 44, none, .op (.ld none (.tmp 43))⟩, none, []⟩,
    ⟨6, ⟨some 45, none, .op (.mv (.tmp 0))⟩, none, []⟩,
    ⟨7, ⟨some 46, none, .op (.mv (.tmp 3))⟩, none, []⟩,
    ⟨8, ⟨some 47, none, .op (.mv (.tmp 9))⟩, none, []⟩,
    ⟨9, ⟨some 48, none, .op (.bin .add (.tmp 46) (.tmp 47))⟩, none, []⟩,
    ⟨10, ⟨some 49, none, .op (.ia 1 (.tmp 45) (.tmp 48))⟩, none, []⟩,
    ⟨11, ⟨some 50, none, .op (.ld none (.tmp 49))⟩, none, []⟩,
    ⟨12, ⟨some 51, none, .call 236 [.tmp 44, .tmp 50]⟩, none, []⟩,
    ⟨13, ⟨some 52, none, .op (.un .not (.tmp 51))⟩, none, []⟩]
def c255_6 : C := .regD 0 [⟨0, ⟨some 53, none, .op (.mv (.tmp 0))⟩, none, []⟩,
    ⟨1, ⟨some 54, none, .op (.mv (.tmp 3))⟩, none, []⟩,
    ⟨2, ⟨some 55, none, .op (.mv (.tmp 8))⟩, none, []⟩,
    ⟨3, ⟨some 56, none, .op (.bin .add (.tmp 54) (.tmp 55))⟩, none, []⟩,
    ⟨4, ⟨some 57, none, .op (.mv (.tmp 0))⟩, none, []⟩,
    ⟨5, ⟨some 58, none, .op (.mv (.tmp 3))⟩, none, []⟩,
    ⟨6, ⟨some 59, none, .op (.mv (.tmp 9))⟩, none, []⟩,
    ⟨7, ⟨some 60, none, .op (.bin .add (.tmp 58) (.tmp 59))⟩, none, []⟩,
    ⟨8, ⟨some 61, none, .op (.mv (.tmp 0))⟩, none, []⟩,
    ⟨9, ⟨some 62, none, .op (.mv (.tmp 3))⟩, none, []⟩,
    ⟨10, ⟨some 63, none, .op (.mv (.tmp 9))⟩, none, []⟩,
    ⟨11, ⟨some 64, none, .op (.bin .add (.tmp 62) (.tmp 63))⟩, none, []⟩,
    ⟨12, ⟨some 65, none, .op (.ia 1 (.tmp 61) (.tmp 64))⟩, none, []⟩,
    ⟨13, ⟨some 66, none, .op (.ld none (.tmp 65))⟩, none, []⟩,
    ⟨14, ⟨some 67, none, .op (.mv (.tmp 0))⟩, none, []⟩,
    ⟨15, ⟨some 68, none, .op (.mv (.tmp 3))⟩, none, []⟩,
    ⟨16, ⟨some 69, none, .op (.mv (.tmp 8))⟩, none, []⟩,
    ⟨17, ⟨some 70, none, .op (.bin .add (.tmp 68) (.tmp 69))⟩, none, []⟩,
    ⟨18, ⟨some 71, none, .op (.ia 1 (.tmp 67) (.tmp 70))⟩, none, []⟩,
    ⟨19, ⟨some 72, none, .op (.ld none (.tmp 71))⟩, none, []⟩,
    ⟨20, ⟨some 73, none, .op (.ia 1 (.tmp 53) (.tmp 56))⟩, none, []⟩,
    ⟨21, ⟨none, none, .op (.st 1 (.tmp 73) (.tmp 66))⟩, none, []⟩,
    ⟨22, ⟨some 74, none, .op (.ia 1 (.tmp 57) (.tmp 60))⟩, none, []⟩,
    ⟨23, ⟨none, none, .op (.st 1 (.tmp 74) (.tmp 72))⟩, none, []⟩]
def c255_7 : C := .reg [⟨some 75, none, .op (.mv (.tmp 9))⟩,
    ⟨some 8, none, .op (.mv (.tmp 75))⟩]
def c255 : Fn' := ⟨(.seq c255_0 (.block 0 (.loop (.block 1 (.seq c255_1 (.seq (.seq c255_2 (.cond (.tmp 16) (.exit 0) .skip)) (.seq (.seq c255_3 (.cond (.tmp 36) c255_4 .skip)) (.seq (.seq c255_5 (.cond (.tmp 52) .ret .skip)) (.seq c255_6 c255_7))))))))), []⟩
theorem comp255 : compFn Tryz.prog 255 = some c255 := by kernel_rfl

def c256_0 : C := .reg [⟨some 6, none, .op (.mv (.const (.int .i64 0)))⟩]
def c256_1 : C := .reg [⟨some 7, none, .op (.mv (.tmp 0))⟩,
    ⟨some 8, none, .op (.mv (.tmp 1))⟩,
    ⟨some 9, none, .op (.bin .sub (.tmp 8) (.const (.int .i64 1)))⟩,
    ⟨some 10, none, .op (.mv (.tmp 1))⟩,
    ⟨some 11, none, .op (.mv (.tmp 1))⟩,
    ⟨some 12, none, .op (.bin .add (.tmp 11) (.const (.int .i64 1)))⟩,
    ⟨some 13, none, .op (.mv (.tmp 2))⟩,
    ⟨some 14, none, .call 257 [.tmp 7, .tmp 9, .tmp 10, .tmp 12, .tmp 13]⟩,
    ⟨some 6, none, .op (.mv (.tmp 14))⟩]
def c256 : Fn' := ⟨(.seq c256_0 (.seq c256_1 .ret)), [.tmp 6]⟩
theorem comp256 : compFn Tryz.prog 256 = some c256 := by kernel_rfl

def c257_0 : C := .reg [⟨some 10, none, .op (.mv (.const (.int .i64 0)))⟩]
def c257_1 : C := .reg [⟨some 12, none, .op (.mv (.tmp 0))⟩,
    ⟨some 13, none, .op (.mv (.tmp 1))⟩,
    ⟨some 14, none, .op (.mv (.tmp 2))⟩,
    ⟨some 15, none, .op (.mv (.tmp 4))⟩,
    ⟨some 16, none, .call 261 [.tmp 12, .tmp 13, .tmp 14, .tmp 15]⟩,
    ⟨some 11, none, .op (.mv (.tmp 16))⟩,
    ⟨some 17, none, .op (.ext (.tmp 11) 0)⟩,
    ⟨some 18, none, .op (.ext (.tmp 11) 1)⟩,
    ⟨some 1, none, .op (.mv (.tmp 17))⟩,
    ⟨some 2, none, .op (.mv (.tmp 18))⟩]
def c257_2 : C := .reg [⟨some 20, none, .op (.mv (.tmp 0))⟩,
    ⟨some 21, none, .op (.mv (.tmp 2))⟩,
    ⟨some 22, none, .op (.mv (.tmp 3))⟩,
    ⟨some 23, none, .op (.mv (.tmp 4))⟩,
    ⟨some 24, none, .call 261 [.tmp 20, .tmp 21, .tmp 22, .tmp 23]⟩,
    ⟨some 19, none, .op (.mv (.tmp 24))⟩,
    ⟨some 25, none, .op (.ext (.tmp 19) 0)⟩,
    ⟨some 26, none, .op (.ext (.tmp 19) 1)⟩,
    ⟨some 2, none, .op (.mv (.tmp 25))⟩,
    ⟨some 3, none, .op (.mv (.tmp 26))⟩]
def c257_3 : C := .reg [⟨some 28, none, .op (.mv (.tmp 0))⟩,
    ⟨some 29, none, .op (.mv (.tmp 1))⟩,
    ⟨some 30, none, .op (.mv (.tmp 2))⟩,
    ⟨some 31, none, .op (.mv (.tmp 4))⟩,
    ⟨some 32, none, .call 261 [.tmp 28, .tmp 29, .tmp 30, .tmp 31]⟩,
    ⟨some 27, none, .op (.mv (.tmp 32))⟩,
    ⟨some 33, none, .op (.ext (.tmp 27) 0)⟩,
    ⟨some 34, none, .op (.ext (.tmp 27) 1)⟩,
    ⟨some 1, none, .op (.mv (.tmp 33))⟩,
    ⟨some 2, none, .op (.mv (.tmp 34))⟩]
def c257_4 : C := .reg [⟨some 35, none, .op (.mv (.tmp 2))⟩,
    ⟨some 10, none, .op (.mv (.tmp 35))⟩]
def c257 : Fn' := ⟨(.seq c257_0 (.seq c257_1 (.seq c257_2 (.seq c257_3 (.seq c257_4 .ret))))), [.tmp 10]⟩
theorem comp257 : compFn Tryz.prog 257 = some c257 := by kernel_rfl

def c260_0 : C := .reg [⟨some 10, none, .op (.mv (.const (.int .i64 0)))⟩,
    ⟨some 11, none, .op (.mv (.const (.int .i64 0)))⟩]
def c260_1 : C := .regD 0 [⟨0, ⟨some 12, none, .op (.mv (.tmp 4))⟩, none, []⟩,
    ⟨1, ⟨some 13, none, .op (.mv (.tmp 0))⟩, none, []⟩,
    ⟨2, ⟨some 14, none, .op (.mv (.tmp 2))⟩, none, []⟩,
    ⟨3, ⟨some 15, none, .op (.ia 1 (.tmp 13) (.tmp 14))⟩, none, []⟩,
    ⟨4, ⟨some 16, none, .op (.ld none (.tmp 15))⟩, none, []⟩,
    ⟨5, ⟨some 17, none, .op (.mv (.tmp 0))⟩, none, []⟩,
    ⟨6, ⟨some 18, none, .op (.mv (.tmp 1))⟩, none, []⟩,
    ⟨7, ⟨some 19, none, .op (.ia 1 (.tmp 17) (.tmp 18))⟩, none, []⟩,
    ⟨8, ⟨some 20, none, .op (.ld none (.tmp 19))⟩, none, []⟩,
    ⟨9, ⟨some 21, none, .callv (.tmp 12) [.tmp 16, .tmp 20]⟩, none, []⟩,
    ⟨10, ⟨some 22, none, .op (.bin .lss (.tmp 21) (.const (.int .i64 0)))⟩, none, []⟩]
def c260_2 : C := .reg [⟨some 23, none, .op (.mv (.tmp 3))⟩,
    ⟨some 24, none, .op (.nn (.tmp 23))⟩,
    ⟨some 25, none, .op (.ld none (.tmp 24))⟩,
    ⟨some 26, none, .op (.bin .add (.tmp 25) (.const (.int .i64 1)))⟩,
    ⟨some 27, none, .op (.nn (.tmp 23))⟩,
    ⟨none, none, .op (.st 1 (.tmp 27) (.tmp 26))⟩]
def c260_3 : C := .reg [⟨some 28, none, .op (.mv (.tmp 2))⟩,
    ⟨some 29, none, .op (.mv (.tmp 1))⟩,
    ⟨some 10, none, .op (.mv (.tmp 28))⟩,
    ⟨some 11, none, .op (.mv (.tmp 29))⟩]
def c260_4 : C := .reg [⟨some 30, none, .op (.mv (.tmp 1))⟩,
    ⟨some 31, none, .op (.mv (.tmp 2))⟩,
    ⟨some 10, none, .op (.mv (.tmp 30))⟩,
    ⟨some 11, none, .op (.mv (.tmp 31))⟩]
def c260 : Fn' := ⟨(.seq c260_0 (.seq (.seq c260_1 (.cond (.tmp 22) (.seq c260_2 (.seq c260_3 .ret)) .skip)) (.seq c260_4 .ret))), [.tmp 10, .tmp 11]⟩
theorem comp260 : compFn Tryz.prog 260 = some c260 := by kernel_rfl

def c261_0 : C := .reg [⟨some 8, none, .op (.mv (.const (.int .i64 0)))⟩,
    ⟨some 9, none, .op (.mv (.const (.int .i64 0)))⟩]
def c261_1 : C := .regD 0 [⟨0, ⟨some 10, none, .op (.mv (.tmp 0))⟩, none, []⟩,
    ⟨1, ⟨some 11, none, .op (.mv (.tmp 2))⟩, none, []⟩,
    ⟨2, ⟨some 12, none, .op (.ia 1 (.tmp 10) (.tmp 11))⟩, none, []⟩,
    ⟨3, ⟨some 13, none, .op (.ld none (.tmp 12))⟩, none, []⟩,
    ⟨4, ⟨some 14, none, .op (.mv (.tmp 0))⟩, none, []⟩,
    ⟨5, ⟨some 15, none, .op (.mv (.tmp 1))⟩, none, []⟩,
    ⟨6, ⟨some 16, none, .op (.ia 1 (.tmp 14) (.tmp 15))⟩, none, []⟩,
    ⟨7, ⟨some 17, none, .op (.ld none (.tmp 16))⟩, none, []⟩,
    ⟨8, ⟨some 18, none, .call 236 [.tmp 13, .tmp 17]⟩, none, []⟩]
def c261_2 : C := .reg [⟨some 19, none, .op (.mv (.tmp 3))⟩,
    ⟨some 20, none, .op (.nn (.tmp 19))⟩,
    ⟨some 21, none, .op (.ld none (.tmp 20))⟩,
    ⟨some 22, none, .op (.bin .add (.tmp 21) (.const (.int .i64 1)))⟩,
    ⟨some 23, none, .op (.nn (.tmp 19))⟩,
    ⟨none, none, .op (.st 1 (.tmp 23) (.tmp 22))⟩]
def c261_3 : C := .reg [⟨some 24, none, .op (.mv (.tmp 2))⟩,
    ⟨some 25, none, .op (.mv (.tmp 1))⟩,
    ⟨some 8, none, .op (.mv (.tmp 24))⟩,
    ⟨some 9, none, .op (.mv (.tmp 25))⟩]
def c261_4 : C := .reg [⟨some 26, none, .op (.mv (.tmp 1))⟩,
    ⟨some 27, none, .op (.mv (.tmp 2))⟩,
    ⟨some 8, none, .op (.mv (.tmp 26))⟩,
    ⟨some 9, none, .op (.mv (.tmp 27))⟩]
def c261 : Fn' := ⟨(.seq c261_0 (.seq (.seq c261_1 (.cond (.tmp 18) (.seq c261_2 (.seq c261_3 .ret)) .skip)) (.seq c261_4 .ret))), [.tmp 8, .tmp 9]⟩
theorem comp261 : compFn Tryz.prog 261 = some c261 := by kernel_rfl

def c279_0 : C := .reg [⟨some 2, none, .op (.mv (.const (.int .i64 0)))⟩]
def c279_1 : C := .reg [⟨some 3, none, .op (.mv (.tmp 0))⟩,
    ⟨some 4, none, .call 193 [.tmp 3]⟩]
def c279_2 : C := .reg [⟨some 2, none, .op (.mv (.const (.int .i64 0)))⟩]
def c279_3 : C := .reg [⟨some 5, none, .op (.mv (.tmp 0))⟩,
    ⟨some 6, none, .op (.nn (.tmp 5))⟩,
    ⟨some 7, none, .op (.fa 0 (.tmp 6))⟩,
    ⟨some 8, none, .call 194 [.tmp 7]⟩,
    ⟨some 2, none, .op (.mv (.tmp 8))⟩]
def c279 : Fn' := ⟨(.seq c279_0 (.seq (.seq c279_1 (.cond (.tmp 4) (.seq c279_2 .ret) .skip)) (.seq c279_3 .ret))), [.tmp 2]⟩
theorem comp279 : compFn Tryz.prog 279 = some c279 := by kernel_rfl

def c280_0 : C := .reg [⟨some 6, none, .op (.mv (.const (.bool false)))⟩]
def c280_1 : C := .regD 0 [⟨0, ⟨some 9, none, .op (.mv (.tmp 0))⟩, none, []⟩,
    ⟨1, ⟨some 10, none, .op (.nn (.tmp 9))⟩, none, []⟩,
    ⟨2, ⟨some 11, none, .op (.fa 0 (.tmp 10))⟩, none, []⟩,
    ⟨3, ⟨some 12, none, .op (.ld none (.tmp 11))⟩, none, []⟩,
    ⟨4, ⟨some 13, none, .op (.mv (.tmp 1))⟩, none, []⟩,
    ⟨5, ⟨some 14, none, .op (.ia 1 (.tmp 12) (.tmp 13))⟩, none, []⟩,
    ⟨6, ⟨some 15, none, .op (.ld none (.tmp 14))⟩, none, []⟩,
    ⟨7, ⟨some 16, none, .op (.mv (.tmp 0))⟩, none, []⟩,
    ⟨8, ⟨some 17, none, .op (.nn (.tmp 16))⟩, none, []⟩,
    ⟨9, ⟨some 18, none, .op (.fa 0 (.tmp 17))⟩, none, []⟩,
    ⟨10, ⟨some 19, none, .op (.ld none (.tmp 18))⟩, none, []⟩,
    ⟨11, ⟨some 20, none, .op (.mv (.tmp 2))⟩, none, []⟩,
    ⟨12, ⟨some 21, none, .op (.ia 1 (.tmp 19) (.tmp 20))⟩, none, []⟩,
    ⟨13, ⟨some 22, none, .op (.ld none (.tmp 21))⟩, none, []⟩,
    ⟨14, ⟨some 7, none, .op (.mv (.tmp 15))⟩, none, []⟩,
    ⟨15, ⟨some 8, none, .op (.mv (.tmp 22))⟩, none, []⟩]
def c280_2 : C := .regD 0 [⟨0, ⟨some 23, none, .op (.mv (.tmp 0))⟩, none, []⟩,
    ⟨1, ⟨some 24, none, .op (.nn (.tmp 23))⟩, none, []⟩,
    ⟨2, ⟨some 25, none, .op (.fa 2 (.tmp 24))⟩, none, []⟩,
    ⟨3, ⟨some 26, none, .op (.ld none (.tmp 25))⟩, none, []⟩,
    ⟨4, ⟨some 27, none, .op (.mv (.tmp 7))⟩, none, []⟩,
    ⟨5, ⟨some 28, none, .op (.ia 1 (.tmp 26) (.tmp 27))⟩, none, []⟩,
    ⟨6, ⟨some 29, none, .op (.ld none (.tmp 28))⟩, none, []⟩,
    ⟨7, ⟨some 30, none, .op (.mv (.tmp 0))⟩, none, []⟩,
    ⟨8, ⟨some 31, none, .op (.nn (.tmp 30))⟩, none, []⟩,
    ⟨9, ⟨some 32, none, .op (.fa 2 (.tmp 31))⟩, none, []⟩,
    ⟨10, ⟨some 33, none, .op (.ld none (.tmp 32))⟩, none, []⟩,
    ⟨11, ⟨some 34, none, .op (.mv (.tmp 8))⟩, none, []⟩,
    ⟨12, ⟨some 35, none, .op (.ia 1 (.tmp 33) (.tmp 34))⟩, none, []⟩,
    ⟨13, ⟨some 36, none, .op (.ld none (.tmp 35))⟩, none, []⟩,
    ⟨14, ⟨some 37, none, .op (.bin .neq (.tmp 29) (.tmp 36))⟩, none, []⟩]
def c280_3 : C := .regD 0 [⟨0, ⟨some 38, none, .op (.mv (.tmp 0))⟩, none, []⟩,
    ⟨1, ⟨some 39, none, .op (.nn (.tmp 38))⟩, none, []⟩,
    ⟨2, ⟨some 40, none, .op (.fa 2 (.tmp 39))⟩, none, []⟩,
    ⟨3, ⟨some 41, none, .op (.ld none (.tmp 40))⟩, none, []⟩,
    ⟨4, ⟨some 42, none, .op (.mv (.tmp 7))⟩, none, []⟩,
    ⟨5, ⟨some 43, none, .op (.ia 1 (.tmp 41) (.tmp 42))⟩, none, []⟩,
    ⟨6, ⟨some 44, none, .op (.ld none (.tmp 43))⟩, none, []⟩,
    ⟨7, ⟨some 45, none, .op (.mv (.tmp 0))⟩, none, []⟩,
    ⟨8, ⟨some 46, none, .op (.nn (.tmp 45))⟩, none, []⟩,
    ⟨9, ⟨some 47, none, .op (.fa 2 (.tmp 46))⟩, none, []⟩,
    ⟨10, ⟨some 48, none, .op (.ld none (.tmp 47))⟩, none, []⟩,
    ⟨11, ⟨some 49, none, .op (.mv (.tmp 8))⟩, none, []⟩,
    ⟨12, ⟨some 50, none, .op (.ia 1 (.tmp 48) (.tmp 49))⟩, none, []⟩,
    ⟨13, ⟨some 51, none, .op (.ld none (.tmp 50))⟩, none, []⟩,
    ⟨14, ⟨some 52, none, .op (.bin .gtr (.tmp 44) (.tmp 51))⟩, none, []⟩,
    ⟨15, ⟨some 6, none, .op (.mv (.tmp 52))⟩, none, []⟩]
def c280_4 : C := .reg [⟨some 53, none, .op (.mv (.tmp 7))⟩,
    ⟨some 54, none, .op (.mv (.tmp 8))⟩,
    ⟨some 55, none, .op (.bin .lss (.tmp 53) (.tmp 54))⟩,
    ⟨some 6, none, .op (.mv (.tmp 55))⟩]
def c280 : Fn' := ⟨(.seq c280_0 (.seq c280_1 (.seq (.seq c280_2 (.cond (.tmp 37) (.seq c280_3 .ret) .skip)) (.seq c280_4 .ret)))), [.tmp 6]⟩
theorem comp280 : compFn Tryz.prog 280 = some c280 := by kernel_rfl

def c281_0 : C := .reg [⟨some 2, none, .op (.mv (.const (.nilIface)))⟩]
def c281_1 : C := .reg [⟨some 5, none, .op (.mv (.tmp 0))⟩,
    ⟨some 6, none, .op (.nn (.tmp 5))⟩,
    ⟨some 7, none, .op (.fa 0 (.tmp 6))⟩,
    ⟨some 8, none, .op (.ld none (.tmp 7))⟩,
    ⟨some 9, none, .op (.len (.tmp 8))⟩,
    ⟨some 10, none, .op (.bin .sub (.tmp 9) (.const (.int .i64 1)))⟩,
    ⟨some 3, none, .op (.mv (.tmp 10))⟩]
def c281_2 : C := .reg [⟨some 11, none, .op (.mv (.tmp 0))⟩,
    ⟨some 12, none, .op (.nn (.tmp 11))⟩,
    ⟨some 13, none, .op (.fa 0 (.tmp 12))⟩,
    ⟨some 14, none, .op (.ld none (.tmp 13))⟩,
    ⟨some 15, none, .op (.mv (.tmp 3))⟩,
    ⟨some 16, none, .op (.ia 1 (.tmp 14) (.tmp 15))⟩,
    ⟨some 17, none, .op (.ld none (.tmp 16))⟩,
    ⟨some 4, none, .op (.mv (.tmp 17))⟩]
def c281_3 : C := .regD 0 [⟨0, ⟨some 18, none, .op (.mv (.tmp 0))⟩, none, []⟩,
    ⟨1, ⟨some 19, none, .op (.mv (.tmp 0))⟩, none, []⟩,
    ⟨2, ⟨some 20, none, .op (.nn (.tmp 19))⟩, none, []⟩,
    ⟨3, ⟨some 21, none, .op (.fa 1 (.tmp 20))⟩, none, []⟩,
    ⟨4, ⟨some 22, none, .op (.ld none (.tmp 21))⟩, none, []⟩,
    ⟨5, ⟨some 23, none, .op (.mv (.tmp 4))⟩, none, []⟩,
    ⟨6, ⟨some 24, none, .op (.mv (.tmp 0))⟩, none, []⟩,
    ⟨7, ⟨some 25, none, .op (.nn (.tmp 24))⟩, none, []⟩,
    ⟨8, ⟨some 26, none, .op (.fa 0 (.tmp 25))⟩, none, []⟩,
    ⟨9, ⟨some 27, none, .op (.ld none (.tmp 26))⟩, none, []⟩,
    ⟨10, ⟨some 28, none, .op (.mv (.tmp 3))⟩, none, []⟩,
    ⟨11, ⟨some 29, none, .op (.slc 1 (.tmp 27) none (some (.tmp 28)) none)⟩, none, []⟩,
    ⟨12, ⟨some 30, none, .op (.nn (.tmp 18))⟩, none, []⟩,
    ⟨13, ⟨some 31, none, .op (.fa 0 (.tmp 30))⟩, none, []⟩,
    ⟨14, ⟨none, none, .op (.st 1 (.tmp 31) (.tmp 29))⟩, none, []⟩,
    ⟨15, ⟨some 32, none, .op (.ia 1 (.tmp 22) (.tmp 23))⟩, none, []⟩,
    ⟨16, ⟨none, none, .op (.st 1 (.tmp 32) (.const (.int .i64 (-1))))⟩, none, []⟩]
def c281_4 : C := .reg [⟨some 33, none, .op (.mv (.tmp 4))⟩,
    ⟨some 34, none, .op (.ifc 3 (.tmp 33))⟩,
    ⟨some 2, none, .op (.mv (.tmp 34))⟩]
def c281 : Fn' := ⟨(.seq c281_0 (.seq c281_1 (.seq c281_2 (.seq c281_3 (.seq c281_4 .ret))))), [.tmp 2]⟩
theorem comp281 : compFn Tryz.prog 281 = some c281 := by kernel_rfl

def c282_0 : C := .regD 0 [⟨0, ⟨some 6, none, .op (.mv (.tmp 0))⟩, none, []⟩,
    ⟨1, ⟨some 7, none, .op (.nn (.tmp 6))⟩, none, []⟩,
    ⟨2, ⟨some 8, none, .op (.fa 0 (.tmp 7))⟩, none, []⟩,
    ⟨3, ⟨some 9, none, .op (.ld none (.tmp 8))⟩, none, []⟩,
    ⟨4, ⟨some 10, none, .op (.mv (.tmp 1))⟩, none, []⟩,
    ⟨5, ⟨some 11, none, .op (.mv (.tmp 0))⟩, none, []⟩,
    ⟨6, ⟨some 12, none, .op (.nn (.tmp 11))⟩, none, []⟩,
    ⟨7, ⟨some 13, none, .op (.fa 0 (.tmp 12))⟩, none, []⟩,
    ⟨8, ⟨some 14, none, .op (.ld none (.tmp 13))⟩, none, []⟩,
    ⟨9, ⟨some 15, none, .op (.mv (.tmp 2))⟩, none, []⟩,
    ⟨10, ⟨some 16, none, .op (.mv (.tmp 0))⟩, none, []⟩,
    ⟨11, ⟨some 17, none, .op (.nn (.tmp 16))⟩, none, []⟩,
    ⟨12, ⟨some 18, none, .op (.fa 0 (.tmp 17))⟩, none, []⟩,
    ⟨13, ⟨some 19, none, .op (.ld none (.tmp 18))⟩, none, []⟩,
    ⟨14, ⟨some 20, none, .op (.mv (.tmp 2))⟩, none, []⟩,
    ⟨15, ⟨some 21, none, .op (.ia 1 (.tmp 19) (.tmp 20))⟩, none, []⟩,
    ⟨16, ⟨some 22, none, .op (.ld none (.tmp 21))⟩, none, []⟩,
    ⟨17, ⟨some 23, none, .op (.mv (.tmp 0))⟩, none, []⟩,
    ⟨18, ⟨some 24, none, .op (.nn (.tmp 23))⟩, none, []⟩,
    ⟨19, ⟨some 25, none, .op (.fa 0 (.tmp 24))⟩, none, []⟩,
    ⟨20, ⟨some 26, none, .op (.ld none (.tmp 25))⟩, none, []⟩,
    ⟨21, ⟨some 27, none, .op (.mv (.tmp 1))⟩, none, []⟩,
    ⟨22, ⟨some 28, none, .op (.ia 1 (.tmp 26) (.tmp 27))⟩, none, []⟩,
    ⟨23, ⟨some 29, none, .op (.ld none (.tmp 28))⟩, none, []⟩,
    ⟨24, ⟨some 30, none, .op (.ia 1 (.tmp 9) (.tmp 10))⟩, none, []⟩,
    ⟨25, ⟨none, none, .op (.st 1 (.tmp 30) (.tmp 22))⟩, none, []⟩,
    ⟨26, ⟨some 31, none, .op (.ia 1 (.tmp 14) (.tmp 15))⟩, none, []⟩,
    ⟨27, ⟨none, none, .op (.st 1 (.tmp 31) (.tmp 29))⟩, none, []⟩]
def c282_1 : C := .regD 0 [⟨0, ⟨some 32, none, .op (.mv (.tmp 0))⟩, none, []⟩,
    ⟨1, ⟨some 33, none, .op (.nn (.tmp 32))⟩, none, []⟩,
    ⟨2, ⟨some 34, none, .op (.fa 1 (.tmp 33))⟩, none, []⟩,
    ⟨3, ⟨some 35, none, .op (.ld none (.tmp 34))⟩, none, []⟩,
    ⟨4, ⟨some 36, none, .op (.mv (.tmp 0))⟩, none, []⟩,
    ⟨5, ⟨some 37, none, .op (.nn (.tmp 36))⟩, none, []⟩,
    ⟨6, ⟨some 38, none, .op (.fa 0 (.tmp 37))⟩, none, []⟩,
    ⟨7, ⟨some 39, none, .op (.ld none (.tmp 38))⟩, none, []⟩,
    ⟨8, ⟨some 40, none, .op (.mv (.tmp 1))⟩, none, []⟩,
    ⟨9, ⟨some 41, none, .op (.ia 1 (.tmp 39) (.tmp 40))⟩, none, []⟩,
    ⟨10, ⟨some 42, none, .op (.ld none (.tmp 41))⟩, none, []⟩,
    ⟨11, ⟨some 43, none, .op (.mv (.tmp 0))⟩, none, []⟩,
    ⟨12, ⟨some 44, none, .op (.nn (.tmp 43))⟩, none, []⟩,
    ⟨13, ⟨some 45, none, .op (.fa 1 (.tmp 44))⟩, none, []⟩,
    ⟨14, ⟨some 46, none, .op (.ld none (.tmp 45))⟩, none, []⟩,
    ⟨15, ⟨some 47, none, .op (.mv (.tmp 0))⟩, none, []⟩,
    ⟨16, ⟨some 48, none, .op (.nn (.tmp 47))⟩, none, []⟩,
    ⟨17, ⟨some 49, none, .op (.fa 0 (.tmp 48))⟩, none, []⟩,
    ⟨18, ⟨some 50, none, .op (.ld none (.tmp 49))⟩, none, []⟩,
    ⟨19, ⟨some 51, none, .op (.mv (.tmp 2))⟩, none, []⟩,
    ⟨20, ⟨some 52, none, .op (.ia 1 (.tmp 50) (.tmp 51))⟩, none, []⟩,
    ⟨21, ⟨some 53, none, .op (.ld none (.tmp 52))⟩, none, []⟩,
    ⟨22, ⟨some 54, none, .op (.mv (.tmp 1))⟩, none, []⟩,
    ⟨23, ⟨some 55, none, .op (.mv (.tmp 2))⟩, none, []⟩,
    ⟨24, ⟨some 56, none, .op (.ia 1 (.tmp 35) (.tmp 42))⟩, none, []⟩,
    ⟨25, ⟨none, none, .op (.st 1 (.tmp 56) (.tmp 54))⟩, none, []⟩,
    ⟨26, ⟨some 57, none, .op (.ia 1 (.tmp 46) (.tmp 53))⟩, none, []⟩,
    ⟨27, ⟨none, none, .op (.st 1 (.tmp 57) (.tmp 55))⟩, none, []⟩]
def c282 : Fn' := ⟨(.seq c282_0 c282_1), []⟩
theorem comp282 : compFn Tryz.prog 282 = some c282 := by kernel_rfl

def c283_0 : C := .reg [⟨some 6, none, .op (.mv (.const (.bool false)))⟩]
def c283_1 : C := .regD 0 [⟨0, ⟨some 7, none, .op (.mv (.tmp 0))⟩, none, []⟩,
    ⟨1, ⟨some 8, none, .op (.mv (.tmp 1))⟩, none, []⟩,
    ⟨2, ⟨some 9, none, .op (.ia 1 (.tmp 7) (.tmp 8))⟩, none, []⟩,
    ⟨3, ⟨some 10, none, .op (.ld none (.tmp 9))⟩, none, []⟩,
    ⟨4, ⟨some 11, none, .op (.nn (.tmp 10))⟩, none, []⟩,
    ⟨5, ⟨some 12, none, .op (.fa 0 (.tmp 11))⟩, none, []⟩,
    ⟨6, ⟨some 13, none, .op (.ld none (.tmp 12))⟩, none, []⟩,
    ⟨7, ⟨some 14, none, .op (.mv (.tmp 0))⟩, none, []⟩,
    ⟨8, ⟨some 15, none, .op (.mv (.tmp 2))⟩, none, []⟩,
    ⟨9, ⟨some 16, none, .op (.ia 1 (.tmp 14) (.tmp 15))⟩, none, []⟩,
    ⟨10, ⟨some 17, none, .op (.ld none (.tmp 16))⟩, none, []⟩,
    ⟨11, ⟨some 18, none, .op (.nn (.tmp 17))⟩, none, []⟩,
    ⟨12, ⟨some 19, none, .op (.fa 0 (.tmp 18))⟩, none, []⟩,
    ⟨13, ⟨some 20, none, .op (.ld none (.tmp 19))⟩, none, []⟩,
    ⟨14, ⟨some 21, none, .op (.bin .lss (.tmp 13) (.tmp 20))⟩, none, []⟩,
    ⟨15, ⟨some 22, none, .op (.mv (.tmp 21))⟩, none, []⟩,
    ⟨16, ⟨some 23, (some (22, false)), .op (.mv (.tmp 0))⟩, none, []⟩,
    ⟨17, ⟨some 24, (some (22, false)), .op (.mv (.tmp 1))⟩, none, []⟩,
    ⟨18, ⟨some 25, (some (22, false)), .op (.ia 1 (.tmp 23) (.tmp 24))⟩, none, []⟩,
    ⟨19, ⟨some 26, (some (22, false)), .op (.ld none (.tmp 25))⟩, none, []⟩,
    ⟨20, ⟨some 27, (some (22, false)), .op (.nn (.tmp 26))⟩, none, []⟩,
    ⟨21, ⟨some 28, (some (22, false)), .op (.fa 0 (.tmp 27))⟩, none, []⟩,
    ⟨22, ⟨some 29, (some (22, false)), .op (.ld none (.tmp 28))⟩, none, []⟩,
    ⟨23, ⟨some 30, (some (22, false)), .op (.mv (.tmp 0))⟩, none, []⟩,
    ⟨24, ⟨some 31, (some (22, false)), .op (.mv (.tmp 2))⟩, none, []⟩,
    ⟨25, ⟨some 32, (some (22, false)), .op (.ia 1 (.tmp 30) (.tmp 31))⟩, none, []⟩,
    ⟨26, ⟨some 33, (some (22, false)), .op (.ld none (.tmp 32))⟩, none, []⟩,
    ⟨27, ⟨some 34, (some (22, false)), .op (.nn (.tmp 33))⟩, none, []⟩,
    ⟨28, ⟨some 35, (some (22, false)), .op (.fa 0 (.tmp 34))⟩, none, []⟩,
    ⟨29, ⟨some 36, (some (22, false)), .op (.ld none (.tmp 35))⟩, none, []⟩,
    ⟨30, ⟨some 37, (some (22, false)), .op (.bin .eql (.tmp 29) (.tmp 36))⟩, none, []⟩,
    ⟨31, ⟨some 38, (some (22, false)), .op (.mv (.tmp 37))⟩, none, []⟩,
    ⟨32, ⟨some 39, (some (38, true)), .op (.mv (.tmp 0))⟩, none, []⟩,
    ⟨33, ⟨some 40, (some (38, true)), .op (.mv (.tmp 1))⟩, none, []⟩,
    ⟨34, ⟨some 41, (some (38, true)), .op (.ia 1 (.tmp 39) (.tmp 40))⟩, none, []⟩,
    ⟨35, ⟨some 42, (some (38, true)), .op (.ld none (.tmp 41))⟩, none, []⟩,
    ⟨36, ⟨some 43, (some (38, true)), .op (.nn (.tmp 42))⟩, none, []⟩,
    ⟨37, ⟨some 44, (some (38, true)), .op (.fa 1 (.tmp 43))⟩, none, []⟩,
    ⟨38, ⟨some 45, (some (38, true)), .op (.ld none (.tmp 44))⟩, none, []⟩,
    ⟨39, ⟨some 46, (some (38, true)), .op (.mv (.tmp 0))⟩, none, []⟩,
    ⟨40, ⟨some 47, (some (38, true)), .op (.mv (.tmp 2))⟩, none, []⟩,
    ⟨41, ⟨some 48, (some (38, true)), .op (.ia 1 (.tmp 46) (.tmp 47))⟩, none, []⟩,
    ⟨42, ⟨some 49, (some (38, true)), .op (.ld none (.tmp 48))⟩, none, []⟩,
    ⟨43, ⟨some 50, (some (38, true)), .op (.nn (.tmp 49))⟩, none, []⟩,
    ⟨44, ⟨some 51, (some (38, true)), .op (.fa 1 (.tmp 50))⟩, none, []⟩,
    ⟨45, ⟨some 52, (some (38, true)), .op (.ld none (.tmp 51))⟩, none, []⟩,
    ⟨46, ⟨some 53, (some (38, true)), .op (.bin .lss (.tmp 45) (.tmp 52))⟩, none, []⟩,
    ⟨47, ⟨some 54, (some (22, false)), .op (.pick (.tmp 38) (.tmp 53) (.const (.bool false)))⟩, none, []⟩,
    ⟨48, ⟨some 55, none, .op (.pick (.tmp 22) (.const (.bool true)) (.tmp 54))⟩, none, []⟩,
    ⟨49, ⟨some 6, none, .op (.mv (.tmp 55))⟩, none, []⟩]
def c283 : Fn' := ⟨(.seq c283_0 (.seq c283_1 .ret)), [.tmp 6]⟩
theorem comp283 : compFn Tryz.prog 283 = some c283 := by kernel_rfl

def c284_0 : C := .regD 0 [⟨0, ⟨some 6, none, .op (.mv (.tmp 0))⟩, none, []⟩,
    ⟨1, ⟨some 7, none, .op (.mv (.tmp 1))⟩, none, []⟩,
    ⟨2, ⟨some 8, none, .op (.mv (.tmp 0))⟩, none, []⟩,
    ⟨3, ⟨some 9, none, .op (.mv (.tmp 2))⟩, none, []⟩,
    ⟨4, ⟨some 10, none, .op (.mv (.tmp 0))⟩, none, []⟩,
    ⟨5, ⟨some 11, none, .op (.mv (.tmp 2))⟩, none, []⟩,
    ⟨6, ⟨some 12, none, .op (.ia 1 (.tmp 10) (.tmp 11))⟩, none, []⟩,
    ⟨7, ⟨some 13, none, .op (.ld none (.tmp 12))⟩, none, []⟩,
    ⟨8, ⟨some 14, none, .op (.mv (.tmp 0))⟩, none, []⟩,
    ⟨9, ⟨some 15, none, .op (.mv (.tmp 1))⟩, none, []⟩,
    ⟨10, ⟨some 16, none, .op (.ia 1 (.tmp 14) (.tmp 15))⟩, none, []⟩,
    ⟨11, ⟨some 17, none, .op (.ld none (.tmp 16))⟩, none, []⟩,
    ⟨12, ⟨some 18, none, .op (.ia 1 (.tmp 6) (.tmp 7))⟩, none, []⟩,
    ⟨13, ⟨none, none, .op (.st 1 (.tmp 18) (.tmp 13))⟩, none, []⟩,
    ⟨14, ⟨some 19, none, .op (.ia 1 (.tmp 8) (.tmp 9))⟩, none, []⟩,
    ⟨15, ⟨none, none, .op (.st 1 (.tmp 19) (.tmp 17))⟩, none, []⟩]
def c284 : Fn' := ⟨c284_0, []⟩
theorem comp284 : compFn Tryz.prog 284 = some c284 := by kernel_rfl

def c285_0 : C := .reg [⟨some 1, none, .op (.box (.tmp 0))⟩,
    ⟨some 2, none, .op (.mv (.const (.nilIface)))⟩]
def c285_1 : C := .reg [⟨some 5, none, .op (.fa 1 (.tmp 1))⟩,
    ⟨some 6, none, .op (.ld none (.tmp 5))⟩,
    ⟨some 7, none, .op (.nn (.tmp 6))⟩,
    ⟨some 8, none, .op (.ld none (.tmp 7))⟩,
    ⟨some 3, none, .op (.mv (.tmp 8))⟩]
def c285_2 : C := .reg [⟨some 9, none, .op (.mv (.tmp 3))⟩,
    ⟨some 10, none, .op (.mv (.tmp 3))⟩,
    ⟨some 11, none, .op (.len (.tmp 10))⟩,
    ⟨some 12, none, .op (.bin .sub (.tmp 11) (.const (.int .i64 1)))⟩,
    ⟨some 13, none, .op (.ia 1 (.tmp 9) (.tmp 12))⟩,
    ⟨some 14, none, .op (.ld none (.tmp 13))⟩,
    ⟨some 4, none, .op (.mv (.tmp 14))⟩]
def c285_3 : C := .regD 0 [⟨0, ⟨some 15, none, .op (.fa 1 (.tmp 1))⟩, none, []⟩,
    ⟨1, ⟨some 16, none, .op (.ld none (.tmp 15))⟩, none, []⟩,
    ⟨2, ⟨some 17, none, .op (.mv (.tmp 3))⟩, none, []⟩,
    ⟨3, ⟨some 18, none, .op (.mv (.tmp 3))⟩, none, []⟩,
    ⟨4, ⟨some 19, none, .op (.len (.tmp 18))⟩, none, []⟩,
    ⟨5, ⟨some 20, none, .op (.bin .sub (.tmp 19) (.const (.int .i64 1)))⟩, none, []⟩,
    ⟨6, ⟨some 21, none, .op (.slc 1 (.tmp 17) none (some (.tmp 20)) none)⟩, none, []⟩,
    ⟨7, ⟨some 22, none, .op (.nn (.tmp 16))⟩, none, []⟩,
    ⟨8, ⟨none, none, .op (.st 1 (.tmp 22) (.tmp 21))⟩, none, []⟩]
def c285_4 : C := .reg [⟨some 23, none, .op (.mv (.tmp 4))⟩,
    ⟨some 24, none, .op (.ifc 220 (.tmp 23))⟩,
    ⟨some 2, none, .op (.mv (.tmp 24))⟩]
def c285 : Fn' := ⟨(.seq c285_0 (.seq c285_1 (.seq c285_2 (.seq c285_3 (.seq c285_4 .ret))))), [.tmp 2]⟩
theorem comp285 : compFn Tryz.prog 285 = some c285 := by kernel_rfl

def c286_0 : C := .reg [⟨some 2, none, .op (.box (.tmp 0))⟩]
def c286_1 : C := .regD 1 [⟨0, ⟨some 4, none, .op (.fa 1 (.tmp 2))⟩, none, []⟩,
    ⟨1, ⟨some 5, none, .op (.ld none (.tmp 4))⟩, none, []⟩,
    ⟨2, ⟨some 6, none, .op (.fa 1 (.tmp 2))⟩, none, []⟩,
    ⟨3, ⟨some 7, none, .op (.ld none (.tmp 6))⟩, none, []⟩,
    ⟨4, ⟨some 8, none, .op (.nn (.tmp 7))⟩, none, []⟩,
    ⟨5, ⟨some 9, none, .op (.ld none (.tmp 8))⟩, none, []⟩,
    ⟨6, ⟨some 10, none, .op (.mv (.tmp 1))⟩, none, []⟩,
    ⟨7, ⟨some 11, none, .op (.ta 220 (.tmp 10))⟩, none, []⟩,
    ⟨8, ⟨some 12, none, .op (.mkSl (reps 1 [(.pointer none)]) 1 [(0, 1, .tmp 11)])⟩, some 0, []⟩,
    ⟨9, ⟨some 13, none, .op (.app 1 8 (.tmp 9) (.tmp 12))⟩, none, [(none, .tmp 4, 5, none)]⟩,
    ⟨10, ⟨some 14, none, .op (.nn (.tmp 5))⟩, none, []⟩,
    ⟨11, ⟨none, none, .op (.st 1 (.tmp 14) (.tmp 13))⟩, none, []⟩]
def c286 : Fn' := ⟨(.seq c286_0 c286_1), []⟩
theorem comp286 : compFn Tryz.prog 286 = some c286 := by kernel_rfl

end Go.Proofs.YtmmpnmekiplhfaaGreat
