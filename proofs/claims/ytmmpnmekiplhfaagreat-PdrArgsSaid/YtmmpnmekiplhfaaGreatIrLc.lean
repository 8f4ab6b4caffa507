/-
  The codes of functions (Lc).
-/
import Derived.Test.YtmmpnmekiplhfaaGreatAeComp
import Derived.Test.YtmmpnmekiplhfaaGreatRows
import Derived.KernelRfl
namespace Go.Proofs.YtmmpnmekiplhfaaGreat
open Go Go.Ae

def c11_0 : C := .reg [⟨some 2, none, .op (.box (.tmp 0))⟩,
    ⟨some 4, none, .op (.mv (.const (.bool false)))⟩]
def c11_1 : C := .reg [⟨some 14, none, .op (.ld (some 6) (.tmp 2))⟩,
    ⟨some 15, none, .call 40 [.tmp 14]⟩,
    ⟨some 16, none, .op (.un .not (.tmp 15))⟩,
    ⟨some 17, none, .op (.mv (.tmp 16))⟩,
    ⟨some 18, (some (17, false)), .op (.ld (some 6) (.tmp 2))⟩,
    ⟨some 19, (some (17, false)), .op (.mv (.tmp 1))⟩,
    ⟨some 20, (some (17, false)), .call 48 [.tmp 18, .tmp 19, .const (.int .i64 0)]⟩,
    ⟨some 21, (some (17, false)), .op (.un .not (.tmp 20))⟩,
    ⟨some 22, none, .op (.pick (.tmp 17) (.const (.bool true)) (.tmp 21))⟩]
def c11_2 : C := .reg [⟨some 23, none, .call 49 []⟩,
    ⟨some 4, none, .op (.mv (.tmp 23))⟩]
def c11_3 : C := .reg [⟨some 25, none, .op (.ld (some 6) (.tmp 2))⟩,
    ⟨some 26, none, .op (.mv (.tmp 1))⟩,
    ⟨some 27, none, .call 50 [.tmp 25, .tmp 26, .const (.int .i64 1048576)]⟩,
    ⟨some 24, none, .op (.mv (.tmp 27))⟩,
    ⟨some 28, none, .op (.ext (.tmp 24) 0)⟩,
    ⟨some 29, none, .op (.ext (.tmp 24) 1)⟩,
    ⟨some 30, none, .op (.ext (.tmp 24) 2)⟩,
    ⟨some 31, none, .op (.ext (.tmp 24) 3)⟩,
    ⟨some 6, none, .op (.new [(.slice none 0 0)])⟩,
    ⟨some 7, none, .op (.new [(.int .i64 0), (.slice none 0 0), (.slice none 0 0)])⟩,
    ⟨some 5, none, .op (.mv (.tmp 28))⟩,
    ⟨none, none, .op (.st 1 (.tmp 6) (.tmp 29))⟩,
    ⟨none, none, .op (.st 3 (.tmp 7) (.tmp 30))⟩,
    ⟨some 8, none, .op (.mv (.tmp 31))⟩]
def c11_4 : C := .regD 0 [⟨0, ⟨some 32, none, .op (.ld (some 6) (.tmp 2))⟩, none, []⟩,
    ⟨1, ⟨some 33, none, .op (.fa 4 (.tmp 2))⟩, none, []⟩,
    ⟨2, ⟨some 34, none, .op (.ld none (.tmp 33))⟩, none, []⟩,
    ⟨3, ⟨some 35, none, .op (.mv (.tmp 1))⟩, none, []⟩,
    ⟨4, ⟨some 36, none, .op (.ia 1 (.tmp 34) (.tmp 35))⟩, none, []⟩,
    ⟨5, ⟨some 37, none, .op (.ld none (.tmp 36))⟩, none, []⟩,
    ⟨6, ⟨some 38, none, .call 51 [.tmp 32, .tmp 37]⟩, none, []⟩,
    ⟨7, ⟨some 9, none, .op (.mv (.tmp 38))⟩, none, []⟩]
def c11_5 : C := .regD 0 [⟨0, ⟨some 39, none, .op (.mv (.tmp 8))⟩, none, []⟩,
    ⟨1, ⟨some 40, none, .op (.bin .neq (.tmp 39) (.const (.int .i64 0)))⟩, none, []⟩,
    ⟨2, ⟨some 41, none, .op (.mv (.tmp 40))⟩, none, []⟩,
    ⟨3, ⟨some 42, (some (41, false)), .op (.mv (.tmp 5))⟩, none, []⟩,
    ⟨4, ⟨some 43, (some (41, false)), .op (.bin .eql (.tmp 42) (.const (.int .u8 1)))⟩, none, []⟩,
    ⟨5, ⟨some 44, (some (41, false)), .op (.mv (.tmp 9))⟩, none, []⟩,
    ⟨6, ⟨some 45, (some (41, false)), .op (.beq true (.tmp 43) (.tmp 44))⟩, none, []⟩,
    ⟨7, ⟨some 46, none, .op (.pick (.tmp 41) (.const (.bool true)) (.tmp 45))⟩, none, []⟩,
    ⟨8, ⟨some 47, none, .op (.mv (.tmp 46))⟩, none, []⟩,
    ⟨9, ⟨some 48, (some (47, false)), .op (.mv (.tmp 5))⟩, none, []⟩,
    ⟨10, ⟨some 49, (some (47, false)), .op (.bin .eql (.tmp 48) (.const (.int .u8 2)))⟩, none, []⟩,
    ⟨11, ⟨some 50, (some (47, false)), .op (.mv (.tmp 9))⟩, none, []⟩,
    ⟨12, ⟨some 51, (some (47, false)), .op (.beq false (.tmp 49) (.tmp 50))⟩, none, []⟩,
    ⟨13, ⟨some 52, none, .op (.pick (.tmp 47) (.const (.bool true)) (.tmp 51))⟩, none, []⟩,
    ⟨14, ⟨some 53, none, .op (.mv (.tmp 52))⟩, none, []⟩,
    ⟨15, ⟨some 54, (some (53, false)), .op (.mv (.tmp 5))⟩, none, []⟩,
    ⟨16, ⟨some 55, (some (53, false)), .op (.bin .eql (.tmp 54) (.const (.int .u8 2)))⟩, none, []⟩,
    ⟨17, ⟨some 56, (some (53, false)), .op (.mv (.tmp 55))⟩, none, []⟩,
    ⟨18, ⟨some 57, (some (56, true)), .op (.fa 2 (.tmp 7))⟩, none, []⟩,
    ⟨19, ⟨some 58, (some (56, true)), .op (.ld none (.tmp 57))⟩, none, []⟩,
    ⟨20, ⟨some 59, (some (56, true)), .op (.len (.tmp 58))⟩, none, []⟩,
    ⟨21, ⟨some 60, (some (56, true)), .op (.ld (some 6) (.tmp 2))⟩, none, []⟩,
    ⟨22, ⟨some 61, (some (56, true)), .op (.fa 4 (.tmp 2))⟩, none, []⟩,
    ⟨23, ⟨some 62, (some (56, true)), .op (.ld none (.tmp 61))⟩, none, []⟩,
    ⟨24, ⟨some 63, (some (56, true)), .op (.mv (.tmp 1))⟩, none, []⟩,
    ⟨25, ⟨some 64, (some (56, true)), .op (.ia 1 (.tmp 62) (.tmp 63))⟩, none, []⟩,
    ⟨26, ⟨some 65, (some (56, true)), .op (.ld none (.tmp 64))⟩, none, []⟩,
    ⟨27, ⟨some 66, (some (56, true)), .call 52 [.tmp 60, .tmp 65, .const (.int .i64 17)]⟩, none, [(none, .tmp 57, 58, some (56, true))]⟩,
    ⟨28, ⟨some 67, (some (56, true)), .op (.bin .lss (.tmp 59) (.tmp 66))⟩, none, []⟩,
    ⟨29, ⟨some 68, (some (53, false)), .op (.pick (.tmp 56) (.tmp 67) (.const (.bool false)))⟩, none, []⟩,
    ⟨30, ⟨some 69, none, .op (.pick (.tmp 53) (.const (.bool true)) (.tmp 68))⟩, none, []⟩]
def c11_6 : C := .reg [⟨some 4, none, .op (.mv (.const (.bool false)))⟩]
def c11_7 : C := .reg [⟨some 10, none, .op (.mv (.const (.int .i64 0)))⟩]
def c11_8 : C := .reg [⟨some 70, none, .op (.mv (.tmp 10))⟩,
    ⟨some 71, none, .op (.fa 1 (.tmp 2))⟩,
    ⟨some 72, none, .op (.ld none (.tmp 71))⟩,
    ⟨some 73, none, .op (.len (.tmp 72))⟩,
    ⟨some 74, none, .op (.conv .u64 (.tmp 73))⟩,
    ⟨some 75, none, .op (.bin .shl (.const (.int .i64 1)) (.tmp 74))⟩,
    ⟨some 76, none, .op (.bin .lss (.tmp 70) (.tmp 75))⟩,
    ⟨some 77, none, .op (.mv (.tmp 76))⟩,
    ⟨some 78, (some (77, true)), .op (.mv (.tmp 9))⟩,
    ⟨some 79, none, .op (.pick (.tmp 77) (.tmp 78) (.const (.bool false)))⟩]
def c11_9 : C := .reg [⟨some 82, none, .op (.mv (.tmp 10))⟩,
    ⟨some 83, none, .op (.fa 1 (.tmp 2))⟩,
    ⟨some 84, none, .op (.ld none (.tmp 83))⟩,
    ⟨some 85, none, .op (.len (.tmp 84))⟩,
    ⟨some 86, none, .call 53 [.tmp 82, .tmp 85]⟩,
    ⟨some 11, none, .op (.mv (.tmp 86))⟩]
def c11_10 : C := .reg [⟨some 88, none, .op (.ld (some 6) (.tmp 2))⟩,
    ⟨some 89, none, .op (.ld (some 1) (.tmp 6))⟩,
    ⟨some 90, none, .op (.mv (.tmp 11))⟩,
    ⟨some 91, none, .call 36 [.tmp 88, .tmp 89, .tmp 90]⟩,
    ⟨some 87, none, .op (.mv (.tmp 91))⟩,
    ⟨some 92, none, .op (.ext (.tmp 87) 0)⟩,
    ⟨some 93, none, .op (.ext (.tmp 87) 1)⟩,
    ⟨some 12, none, .op (.mv (.tmp 92))⟩,
    ⟨some 13, none, .op (.mv (.tmp 93))⟩]
def c11_11 : C := .regD 0 [⟨0, ⟨some 94, none, .op (.mv (.tmp 13))⟩, none, []⟩,
    ⟨1, ⟨some 95, none, .op (.bin .neq (.tmp 94) (.const (.int .i64 0)))⟩, none, []⟩,
    ⟨2, ⟨some 96, none, .op (.mv (.tmp 95))⟩, none, []⟩,
    ⟨3, ⟨some 97, (some (96, false)), .op (.ld (some 6) (.tmp 2))⟩, none, []⟩,
    ⟨4, ⟨some 98, (some (96, false)), .op (.mv (.tmp 11))⟩, none, []⟩,
    ⟨5, ⟨some 99, (some (96, false)), .call 37 [.tmp 97, .tmp 98]⟩, none, []⟩,
    ⟨6, ⟨some 100, (some (96, false)), .op (.mv (.tmp 99))⟩, none, []⟩,
    ⟨7, ⟨some 101, (some (100, true)), .op (.mv (.tmp 12))⟩, none, []⟩,
    ⟨8, ⟨some 102, (some (100, true)), .op (.un .not (.tmp 101))⟩, none, []⟩,
    ⟨9, ⟨some 103, (some (96, false)), .op (.pick (.tmp 100) (.tmp 102) (.const (.bool false)))⟩, none, []⟩,
    ⟨10, ⟨some 104, none, .op (.pick (.tmp 96) (.const (.bool true)) (.tmp 103))⟩, none, []⟩,
    ⟨11, ⟨some 105, none, .op (.mv (.tmp 104))⟩, none, []⟩,
    ⟨12, ⟨some 106, (some (105, false)), .op (.mv (.tmp 12))⟩, none, []⟩,
    ⟨13, ⟨some 107, (some (105, false)), .op (.mv (.tmp 106))⟩, none, []⟩,
    ⟨14, ⟨some 108, (some (107, true)), .op (.ld (some 6) (.tmp 2))⟩, none, []⟩,
    ⟨15, ⟨some 109, (some (107, true)), .op (.mv (.tmp 11))⟩, none, []⟩,
    ⟨16, ⟨some 110, (some (107, true)), .op (.fa 4 (.tmp 2))⟩, none, []⟩,
    ⟨17, ⟨some 111, (some (107, true)), .op (.ld none (.tmp 110))⟩, none, []⟩,
    ⟨18, ⟨some 112, (some (107, true)), .op (.mv (.tmp 1))⟩, none, []⟩,
    ⟨19, ⟨some 113, (some (107, true)), .op (.ia 1 (.tmp 111) (.tmp 112))⟩, none, []⟩,
    ⟨20, ⟨some 114, (some (107, true)), .op (.ld none (.tmp 113))⟩, none, []⟩,
    ⟨21, ⟨some 115, (some (107, true)), .call 54 [.tmp 108, .tmp 109, .tmp 114, .const (.int .u8 1), .const (.int .i64 (-1))]⟩, none, []⟩,
    ⟨22, ⟨some 116, (some (105, false)), .op (.pick (.tmp 107) (.tmp 115) (.const (.bool false)))⟩, none, []⟩,
    ⟨23, ⟨some 117, none, .op (.pick (.tmp 105) (.const (.bool true)) (.tmp 116))⟩, none, []⟩]
def c11_12 : C := .reg [⟨some 4, none, .op (.mv (.const (.bool false)))⟩]
def c11_13 : C := .reg [⟨some 80, none, .op (.mv (.tmp 10))⟩,
    ⟨some 81, none, .op (.bin .add (.tmp 80) (.const (.int .i64 1)))⟩,
    ⟨some 10, none, .op (.mv (.tmp 81))⟩]
def c11_14 : C := .reg [⟨some 118, none, .call 49 []⟩,
    ⟨some 4, none, .op (.mv (.tmp 118))⟩]
def c11 : Fn' := ⟨(.seq c11_0 (.seq (.seq c11_1 (.cond (.tmp 22) (.seq c11_2 .ret) .skip)) (.seq c11_3 (.seq c11_4 (.seq (.seq c11_5 (.cond (.tmp 69) (.seq c11_6 .ret) .skip)) (.seq (.seq c11_7 (.block 0 (.loop (.seq (.seq c11_8 (.cond (.tmp 79) .skip (.exit 0))) (.seq (.block 1 (.seq c11_9 (.seq c11_10 (.seq c11_11 (.cond (.tmp 117) (.seq c11_12 .ret) .skip))))) c11_13))))) (.seq c11_14 .ret))))))), [.tmp 4]⟩
theorem comp11 : compFn Tryz.prog 11 = some c11 := by kernel_rfl

def c12_0 : C := .reg [⟨some 3, none, .op (.box (.tmp 0))⟩,
    ⟨some 6, none, .op (.mv (.const (.bool false)))⟩]
def c12_1 : C := .reg [⟨some 15, none, .op (.ld (some 6) (.tmp 3))⟩,
    ⟨some 16, none, .call 55 [.tmp 15]⟩,
    ⟨some 17, none, .op (.mv (.tmp 16))⟩,
    ⟨some 18, (some (17, false)), .op (.fa 1 (.tmp 3))⟩,
    ⟨some 19, (some (17, false)), .op (.ld none (.tmp 18))⟩,
    ⟨some 20, (some (17, false)), .op (.len (.tmp 19))⟩,
    ⟨some 21, (some (17, false)), .op (.bin .gtr (.tmp 20) (.const (.int .i64 4)))⟩,
    ⟨some 22, none, .op (.pick (.tmp 17) (.const (.bool true)) (.tmp 21))⟩,
    ⟨some 23, none, .op (.mv (.tmp 22))⟩,
    ⟨some 24, (some (23, false)), .op (.ld (some 6) (.tmp 3))⟩,
    ⟨some 25, (some (23, false)), .op (.mv (.tmp 1))⟩,
    ⟨some 26, (some (23, false)), .call 48 [.tmp 24, .tmp 25, .const (.int .i64 0)]⟩,
    ⟨some 27, (some (23, false)), .op (.un .not (.tmp 26))⟩,
    ⟨some 28, none, .op (.pick (.tmp 23) (.const (.bool true)) (.tmp 27))⟩]
def c12_2 : C := .reg [⟨some 29, none, .call 49 []⟩,
    ⟨some 6, none, .op (.mv (.tmp 29))⟩]
def c12_3 : C := .reg [⟨some 31, none, .op (.ld (some 6) (.tmp 3))⟩,
    ⟨some 32, none, .op (.mv (.tmp 1))⟩,
    ⟨some 33, none, .op (.mv (.tmp 2))⟩,
    ⟨some 34, none, .op (.conv .i64 (.tmp 33))⟩,
    ⟨some 35, none, .call 50 [.tmp 31, .tmp 32, .tmp 34]⟩,
    ⟨some 30, none, .op (.mv (.tmp 35))⟩,
    ⟨some 36, none, .op (.ext (.tmp 30) 0)⟩,
    ⟨some 37, none, .op (.ext (.tmp 30) 1)⟩,
    ⟨some 38, none, .op (.ext (.tmp 30) 2)⟩,
    ⟨some 39, none, .op (.ext (.tmp 30) 3)⟩,
    ⟨some 8, none, .op (.new [(.slice none 0 0)])⟩,
    ⟨some 9, none, .op (.new [(.int .i64 0), (.slice none 0 0), (.slice none 0 0)])⟩,
    ⟨some 7, none, .op (.mv (.tmp 36))⟩,
    ⟨none, none, .op (.st 1 (.tmp 8) (.tmp 37))⟩,
    ⟨none, none, .op (.st 3 (.tmp 9) (.tmp 38))⟩,
    ⟨some 10, none, .op (.mv (.tmp 39))⟩]
def c12_4 : C := .reg [⟨some 41, none, .op (.ld (some 6) (.tmp 3))⟩,
    ⟨some 42, none, .op (.mv (.tmp 1))⟩,
    ⟨some 43, none, .call 50 [.tmp 41, .tmp 42, .const (.int .i64 1048576)]⟩,
    ⟨some 40, none, .op (.mv (.tmp 43))⟩,
    ⟨some 44, none, .op (.ext (.tmp 40) 0)⟩,
    ⟨some 45, none, .op (.ext (.tmp 40) 1)⟩,
    ⟨some 46, none, .op (.ext (.tmp 40) 2)⟩,
    ⟨some 47, none, .op (.ext (.tmp 40) 3)⟩,
    ⟨some 12, none, .op (.new [(.slice none 0 0)])⟩,
    ⟨some 13, none, .op (.new [(.int .i64 0), (.slice none 0 0), (.slice none 0 0)])⟩,
    ⟨some 11, none, .op (.mv (.tmp 44))⟩,
    ⟨none, none, .op (.st 1 (.tmp 12) (.tmp 45))⟩,
    ⟨none, none, .op (.st 3 (.tmp 13) (.tmp 46))⟩,
    ⟨some 14, none, .op (.mv (.tmp 47))⟩]
def c12_5 : C := .reg [⟨some 48, none, .op (.mv (.tmp 10))⟩,
    ⟨some 49, none, .op (.bin .eql (.tmp 48) (.const (.int .i64 0)))⟩,
    ⟨some 50, none, .op (.mv (.tmp 49))⟩,
    ⟨some 51, (some (50, true)), .op (.mv (.tmp 14))⟩,
    ⟨some 52, (some (50, true)), .op (.bin .eql (.tmp 51) (.const (.int .i64 0)))⟩,
    ⟨some 53, none, .op (.pick (.tmp 50) (.tmp 52) (.const (.bool false)))⟩,
    ⟨some 54, none, .op (.mv (.tmp 53))⟩,
    ⟨some 55, (some (54, true)), .op (.mv (.tmp 11))⟩,
    ⟨some 56, (some (54, true)), .op (.bin .neq (.tmp 55) (.const (.int .u8 0)))⟩,
    ⟨some 57, none, .op (.pick (.tmp 54) (.tmp 56) (.const (.bool false)))⟩,
    ⟨some 58, none, .op (.mv (.tmp 57))⟩,
    ⟨some 59, (some (58, true)), .op (.mv (.tmp 7))⟩,
    ⟨some 60, (some (58, true)), .op (.bin .eql (.tmp 59) (.const (.int .u8 0)))⟩,
    ⟨some 61, (some (58, true)), .op (.mv (.tmp 60))⟩,
    ⟨some 62, (some (61, false)), .op (.mv (.tmp 7))⟩,
    ⟨some 63, (some (61, false)), .op (.mv (.tmp 11))⟩,
    ⟨some 64, (some (61, false)), .op (.bin .eql (.tmp 62) (.tmp 63))⟩,
    ⟨some 65, (some (58, true)), .op (.pick (.tmp 61) (.const (.bool true)) (.tmp 64))⟩,
    ⟨some 66, none, .op (.pick (.tmp 58) (.tmp 65) (.const (.bool false)))⟩,
    ⟨some 67, none, .op (.mv (.tmp 66))⟩,
    ⟨some 68, (some (67, true)), .call 49 []⟩,
    ⟨some 69, none, .op (.pick (.tmp 67) (.tmp 68) (.const (.bool false)))⟩,
    ⟨some 6, none, .op (.mv (.tmp 69))⟩]
def c12 : Fn' := ⟨(.seq c12_0 (.seq (.seq c12_1 (.cond (.tmp 28) (.seq c12_2 .ret) .skip)) (.seq c12_3 (.seq c12_4 (.seq c12_5 .ret))))), [.tmp 6]⟩
theorem comp12 : compFn Tryz.prog 12 = some c12 := by kernel_rfl

def c13_0 : C := .reg [⟨some 2, none, .op (.box (.tmp 0))⟩,
    ⟨some 3, none, .op (.box (.tmp 1))⟩,
    ⟨some 4, none, .op (.mv (.const (.bool false)))⟩]
def c13_1 : C := .reg [⟨some 11, none, .op (.ld (some 6) (.tmp 2))⟩,
    ⟨some 12, none, .call 55 [.tmp 11]⟩,
    ⟨some 13, none, .op (.mv (.tmp 12))⟩,
    ⟨some 14, (some (13, false)), .op (.ld (some 6) (.tmp 2))⟩,
    ⟨some 15, (some (13, false)), .op (.ld (some 3) (.tmp 3))⟩,
    ⟨some 16, (some (13, false)), .call 43 [.tmp 14, .tmp 15]⟩,
    ⟨some 17, (some (13, false)), .op (.un .not (.tmp 16))⟩,
    ⟨some 18, none, .op (.pick (.tmp 13) (.const (.bool true)) (.tmp 17))⟩]
def c13_2 : C := .reg [⟨some 19, none, .call 49 []⟩,
    ⟨some 4, none, .op (.mv (.tmp 19))⟩]
def c13_3 : C := .reg [⟨some 21, none, .op (.ld (some 6) (.tmp 2))⟩,
    ⟨some 22, none, .op (.fa 0 (.tmp 3))⟩,
    ⟨some 23, none, .op (.ld none (.tmp 22))⟩,
    ⟨some 24, none, .call 50 [.tmp 21, .tmp 23, .const (.int .i64 1000)]⟩,
    ⟨some 20, none, .op (.mv (.tmp 24))⟩,
    ⟨some 25, none, .op (.ext (.tmp 20) 0)⟩,
    ⟨some 26, none, .op (.ext (.tmp 20) 1)⟩,
    ⟨some 27, none, .op (.ext (.tmp 20) 2)⟩,
    ⟨some 28, none, .op (.ext (.tmp 20) 3)⟩,
    ⟨some 6, none, .op (.new [(.slice none 0 0)])⟩,
    ⟨some 7, none, .op (.new [(.int .i64 0), (.slice none 0 0), (.slice none 0 0)])⟩,
    ⟨some 5, none, .op (.mv (.tmp 25))⟩,
    ⟨none, none, .op (.st 1 (.tmp 6) (.tmp 26))⟩,
    ⟨none, none, .op (.st 3 (.tmp 7) (.tmp 27))⟩,
    ⟨some 8, none, .op (.mv (.tmp 28))⟩]
def c13_4 : C := .reg [⟨some 30, none, .op (.ld (some 6) (.tmp 2))⟩,
    ⟨some 31, none, .op (.ld (some 3) (.tmp 3))⟩,
    ⟨some 32, none, .call 44 [.tmp 30, .tmp 31]⟩,
    ⟨some 29, none, .op (.mv (.tmp 32))⟩,
    ⟨some 33, none, .op (.ext (.tmp 29) 0)⟩,
    ⟨some 34, none, .op (.ext (.tmp 29) 1)⟩,
    ⟨some 9, none, .op (.mv (.tmp 33))⟩,
    ⟨some 10, none, .op (.mv (.tmp 34))⟩]
def c13_5 : C := .reg [⟨some 35, none, .op (.mv (.tmp 8))⟩,
    ⟨some 36, none, .op (.bin .eql (.tmp 35) (.const (.int .i64 0)))⟩,
    ⟨some 37, none, .op (.mv (.tmp 36))⟩,
    ⟨some 38, (some (37, true)), .op (.mv (.tmp 5))⟩,
    ⟨some 39, (some (37, true)), .op (.bin .neq (.tmp 38) (.const (.int .u8 1)))⟩,
    ⟨some 40, (some (37, true)), .op (.mv (.tmp 39))⟩,
    ⟨some 41, (some (40, false)), .op (.mv (.tmp 9))⟩,
    ⟨some 42, (some (40, false)), .op (.un .not (.tmp 41))⟩,
    ⟨some 43, (some (37, true)), .op (.pick (.tmp 40) (.const (.bool true)) (.tmp 42))⟩,
    ⟨some 44, none, .op (.pick (.tmp 37) (.tmp 43) (.const (.bool false)))⟩,
    ⟨some 45, none, .op (.mv (.tmp 44))⟩,
    ⟨some 46, (some (45, true)), .call 49 []⟩,
    ⟨some 47, none, .op (.pick (.tmp 45) (.tmp 46) (.const (.bool false)))⟩,
    ⟨some 4, none, .op (.mv (.tmp 47))⟩]
def c13 : Fn' := ⟨(.seq c13_0 (.seq (.seq c13_1 (.cond (.tmp 18) (.seq c13_2 .ret) .skip)) (.seq c13_3 (.seq c13_4 (.seq c13_5 .ret))))), [.tmp 4]⟩
theorem comp13 : compFn Tryz.prog 13 = some c13 := by kernel_rfl

def c14_0 : C := .reg [⟨some 3, none, .op (.box (.tmp 0))⟩,
    ⟨some 6, none, .op (.mv (.const (.bool false)))⟩]
def c14_1 : C := .reg [⟨some 18, none, .op (.ld (some 6) (.tmp 3))⟩,
    ⟨some 19, none, .call 55 [.tmp 18]⟩,
    ⟨some 20, none, .op (.mv (.tmp 19))⟩,
    ⟨some 21, (some (20, false)), .op (.ld (some 6) (.tmp 3))⟩,
    ⟨some 22, (some (20, false)), .op (.mv (.tmp 1))⟩,
    ⟨some 23, (some (20, false)), .op (.mv (.tmp 2))⟩,
    ⟨some 24, (some (20, false)), .call 48 [.tmp 21, .tmp 22, .tmp 23]⟩,
    ⟨some 25, (some (20, false)), .op (.un .not (.tmp 24))⟩,
    ⟨some 26, none, .op (.pick (.tmp 20) (.const (.bool true)) (.tmp 25))⟩,
    ⟨some 27, none, .op (.mv (.tmp 26))⟩,
    ⟨some 28, (some (27, false)), .op (.mv (.tmp 2))⟩,
    ⟨some 29, (some (27, false)), .op (.bin .gtr (.tmp 28) (.const (.int .i64 3000)))⟩,
    ⟨some 30, none, .op (.pick (.tmp 27) (.const (.bool true)) (.tmp 29))⟩]
def c14_2 : C := .reg [⟨some 31, none, .call 49 []⟩,
    ⟨some 6, none, .op (.mv (.tmp 31))⟩]
def c14_3 : C := .reg [⟨some 33, none, .op (.ld (some 6) (.tmp 3))⟩,
    ⟨some 34, none, .op (.mv (.tmp 1))⟩,
    ⟨some 35, none, .op (.mv (.tmp 2))⟩,
    ⟨some 36, none, .call 50 [.tmp 33, .tmp 34, .tmp 35]⟩,
    ⟨some 32, none, .op (.mv (.tmp 36))⟩,
    ⟨some 37, none, .op (.ext (.tmp 32) 0)⟩,
    ⟨some 38, none, .op (.ext (.tmp 32) 1)⟩,
    ⟨some 39, none, .op (.ext (.tmp 32) 2)⟩,
    ⟨some 40, none, .op (.ext (.tmp 32) 3)⟩,
    ⟨some 8, none, .op (.new [(.slice none 0 0)])⟩,
    ⟨some 9, none, .op (.new [(.int .i64 0), (.slice none 0 0), (.slice none 0 0)])⟩,
    ⟨some 7, none, .op (.mv (.tmp 37))⟩,
    ⟨none, none, .op (.st 1 (.tmp 8) (.tmp 38))⟩,
    ⟨none, none, .op (.st 3 (.tmp 9) (.tmp 39))⟩,
    ⟨some 10, none, .op (.mv (.tmp 40))⟩]
def c14_4 : C := .reg [⟨some 41, none, .op (.mv (.tmp 10))⟩,
    ⟨some 42, none, .op (.bin .neq (.tmp 41) (.const (.int .i64 0)))⟩,
    ⟨some 43, none, .op (.mv (.tmp 42))⟩,
    ⟨some 44, (some (43, false)), .op (.mv (.tmp 7))⟩,
    ⟨some 45, (some (43, false)), .op (.bin .neq (.tmp 44) (.const (.int .u8 1)))⟩,
    ⟨some 46, (some (43, false)), .op (.mv (.tmp 45))⟩,
    ⟨some 47, (some (46, true)), .op (.fa 0 (.tmp 8))⟩,
    ⟨some 48, (some (46, true)), .op (.ld none (.tmp 47))⟩,
    ⟨some 49, (some (46, true)), .op (.len (.tmp 48))⟩,
    ⟨some 50, (some (46, true)), .op (.bin .gtr (.tmp 49) (.const (.int .i64 0)))⟩,
    ⟨some 51, (some (43, false)), .op (.pick (.tmp 46) (.tmp 50) (.const (.bool false)))⟩,
    ⟨some 52, none, .op (.pick (.tmp 43) (.const (.bool true)) (.tmp 51))⟩,
    ⟨some 53, none, .op (.mv (.tmp 52))⟩,
    ⟨some 54, (some (53, false)), .op (.mv (.tmp 7))⟩,
    ⟨some 55, (some (53, false)), .op (.bin .neq (.tmp 54) (.const (.int .u8 2)))⟩,
    ⟨some 56, (some (53, false)), .op (.mv (.tmp 55))⟩,
    ⟨some 57, (some (56, true)), .op (.fa 2 (.tmp 9))⟩,
    ⟨some 58, (some (56, true)), .op (.ld none (.tmp 57))⟩,
    ⟨some 59, (some (56, true)), .op (.len (.tmp 58))⟩,
    ⟨some 60, (some (56, true)), .op (.bin .gtr (.tmp 59) (.const (.int .i64 0)))⟩,
    ⟨some 61, (some (53, false)), .op (.pick (.tmp 56) (.tmp 60) (.const (.bool false)))⟩,
    ⟨some 62, none, .op (.pick (.tmp 53) (.const (.bool true)) (.tmp 61))⟩,
    ⟨some 63, none, .op (.mv (.tmp 62))⟩,
    ⟨some 64, (some (63, false)), .op (.mv (.tmp 7))⟩,
    ⟨some 65, (some (63, false)), .op (.bin .gtr (.tmp 64) (.const (.int .u8 2)))⟩,
    ⟨some 66, none, .op (.pick (.tmp 63) (.const (.bool true)) (.tmp 65))⟩]
def c14_5 : C := .reg [⟨some 6, none, .op (.mv (.const (.bool false)))⟩]
def c14_6 : C := .reg [⟨some 67, none, .op (.mv (.tmp 7))⟩]
def c14_7 : C := .reg [⟨some 69, none, .op (.bin .eql (.tmp 67) (.const (.int .u8 1)))⟩,
    ⟨some 68, none, .op (.mv (.tmp 69))⟩]
def c14_8 : C := .reg [⟨some 71, none, .op (.ld (some 6) (.tmp 3))⟩,
    ⟨some 72, none, .op (.mv (.tmp 1))⟩,
    ⟨some 73, none, .op (.ld (some 1) (.tmp 8))⟩,
    ⟨some 74, none, .call 35 [.tmp 71, .tmp 72, .tmp 73, .const (.int .i64 1048576)]⟩,
    ⟨some 70, none, .op (.mv (.tmp 74))⟩,
    ⟨some 75, none, .op (.ext (.tmp 70) 0)⟩,
    ⟨some 76, none, .op (.ext (.tmp 70) 1)⟩,
    ⟨some 77, none, .op (.ext (.tmp 70) 2)⟩,
    ⟨some 78, none, .op (.ext (.tmp 70) 3)⟩,
    ⟨some 79, none, .op (.ext (.tmp 70) 4)⟩,
    ⟨some 11, none, .op (.mv (.tmp 75))⟩,
    ⟨some 12, none, .op (.mv (.tmp 76))⟩,
    ⟨some 13, none, .op (.mv (.tmp 77))⟩,
    ⟨some 14, none, .op (.mv (.tmp 78))⟩,
    ⟨some 15, none, .op (.mv (.tmp 79))⟩]
def c14_9 : C := .reg [⟨some 80, none, .op (.mv (.tmp 15))⟩,
    ⟨some 81, none, .op (.bin .eql (.tmp 80) (.const (.int .i64 0)))⟩,
    ⟨some 82, none, .op (.mv (.tmp 81))⟩,
    ⟨some 83, (some (82, true)), .op (.mv (.tmp 11))⟩,
    ⟨some 84, (some (82, true)), .op (.bin .eql (.tmp 83) (.const (.int .u8 1)))⟩,
    ⟨some 85, none, .op (.pick (.tmp 82) (.tmp 84) (.const (.bool false)))⟩,
    ⟨some 86, none, .op (.mv (.tmp 85))⟩,
    ⟨some 87, (some (86, true)), .op (.ld (some 6) (.tmp 3))⟩,
    ⟨some 88, (some (86, true)), .op (.ld (some 1) (.tmp 8))⟩,
    ⟨some 89, (some (86, true)), .call 33 [.tmp 87, .tmp 88]⟩,
    ⟨some 90, none, .op (.pick (.tmp 86) (.tmp 89) (.const (.bool false)))⟩,
    ⟨some 91, none, .op (.mv (.tmp 90))⟩,
    ⟨some 92, (some (91, true)), .call 49 []⟩,
    ⟨some 93, none, .op (.pick (.tmp 91) (.tmp 92) (.const (.bool false)))⟩,
    ⟨some 6, none, .op (.mv (.tmp 93))⟩]
def c14_10 : C := .reg [⟨some 95, none, .op (.bin .eql (.tmp 67) (.const (.int .u8 2)))⟩,
    ⟨some 94, none, .op (.mv (.tmp 95))⟩]
def c14_11 : C := .reg [⟨some 97, none, .op (.ld (some 6) (.tmp 3))⟩,
    ⟨some 98, none, .op (.ld (some 3) (.tmp 9))⟩,
    ⟨some 99, none, .call 44 [.tmp 97, .tmp 98]⟩,
    ⟨some 96, none, .op (.mv (.tmp 99))⟩,
    ⟨some 100, none, .op (.ext (.tmp 96) 0)⟩,
    ⟨some 101, none, .op (.ext (.tmp 96) 1)⟩,
    ⟨some 16, none, .op (.mv (.tmp 100))⟩,
    ⟨some 17, none, .op (.mv (.tmp 101))⟩]
def c14_12 : C := .regD 0 [⟨0, ⟨some 102, none, .op (.mv (.tmp 17))⟩, none, []⟩,
    ⟨1, ⟨some 103, none, .op (.bin .eql (.tmp 102) (.const (.int .i64 0)))⟩, none, []⟩,
    ⟨2, ⟨some 104, none, .op (.mv (.tmp 103))⟩, none, []⟩,
    ⟨3, ⟨some 105, (some (104, true)), .op (.mv (.tmp 16))⟩, none, []⟩,
    ⟨4, ⟨some 106, none, .op (.pick (.tmp 104) (.tmp 105) (.const (.bool false)))⟩, none, []⟩,
    ⟨5, ⟨some 107, none, .op (.mv (.tmp 106))⟩, none, []⟩,
    ⟨6, ⟨some 108, (some (107, true)), .op (.fa 0 (.tmp 9))⟩, none, []⟩,
    ⟨7, ⟨some 109, (some (107, true)), .op (.ld none (.tmp 108))⟩, none, []⟩,
    ⟨8, ⟨some 110, (some (107, true)), .op (.mv (.tmp 1))⟩, none, []⟩,
    ⟨9, ⟨some 111, (some (107, true)), .op (.bin .eql (.tmp 109) (.tmp 110))⟩, none, []⟩,
    ⟨10, ⟨some 112, none, .op (.pick (.tmp 107) (.tmp 111) (.const (.bool false)))⟩, none, []⟩,
    ⟨11, ⟨some 113, none, .op (.mv (.tmp 112))⟩, none, []⟩,
    ⟨12, ⟨some 114, (some (113, true)), .op (.ld (some 3) (.tmp 9))⟩, none, []⟩,
    ⟨13, ⟨some 115, (some (113, true)), .op (.ld (some 3) (.tmp 9))⟩, none, []⟩,
    ⟨14, ⟨some 116, (some (113, true)), .call 46 [.tmp 115]⟩, none, [(some 3, .tmp 9, 114, some (113, true))]⟩,
    ⟨15, ⟨some 117, (some (113, true)), .call 56 [.tmp 114, .tmp 116]⟩, none, []⟩,
    ⟨16, ⟨some 118, none, .op (.pick (.tmp 113) (.tmp 117) (.const (.bool false)))⟩, none, []⟩,
    ⟨17, ⟨some 119, none, .op (.mv (.tmp 118))⟩, none, []⟩,
    ⟨18, ⟨some 120, (some (119, true)), .call 49 []⟩, none, []⟩,
    ⟨19, ⟨some 121, none, .op (.pick (.tmp 119) (.tmp 120) (.const (.bool false)))⟩, none, []⟩,
    ⟨20, ⟨some 6, none, .op (.mv (.tmp 121))⟩, none, []⟩]
def c14_13 : C := .reg [⟨some 122, none, .call 49 []⟩,
    ⟨some 6, none, .op (.mv (.tmp 122))⟩]
def c14 : Fn' := ⟨(.seq c14_0 (.seq (.seq c14_1 (.cond (.tmp 30) (.seq c14_2 .ret) .skip)) (.seq c14_3 (.seq (.seq c14_4 (.cond (.tmp 66) (.seq c14_5 .ret) .skip)) (.seq (.seq c14_6 (.block 0 (.seq c14_7 (.cond (.tmp 68) (.seq c14_8 (.seq c14_9 .ret)) (.seq c14_10 (.cond (.tmp 94) (.seq c14_11 (.seq c14_12 .ret)) .skip)))))) (.seq c14_13 .ret)))))), [.tmp 6]⟩
theorem comp14 : compFn Tryz.prog 14 = some c14 := by kernel_rfl

def c15_0 : C := .reg [⟨some 4, none, .op (.box (.tmp 0))⟩,
    ⟨some 6, none, .op (.box (.tmp 2))⟩,
    ⟨some 8, none, .op (.mv (.const (.bool false)))⟩]
def c15_1 : C := .reg [⟨some 29, none, .op (.ld (some 6) (.tmp 4))⟩,
    ⟨some 30, none, .call 55 [.tmp 29]⟩,
    ⟨some 31, none, .op (.mv (.tmp 30))⟩,
    ⟨some 32, (some (31, false)), .op (.fa 0 (.tmp 6))⟩,
    ⟨some 33, (some (31, false)), .op (.ld none (.tmp 32))⟩,
    ⟨some 34, (some (31, false)), .op (.len (.tmp 33))⟩,
    ⟨some 35, (some (31, false)), .op (.bin .gtr (.tmp 34) (.const (.int .i64 12)))⟩,
    ⟨some 36, none, .op (.pick (.tmp 31) (.const (.bool true)) (.tmp 35))⟩,
    ⟨some 37, none, .op (.mv (.tmp 36))⟩,
    ⟨some 38, (some (37, false)), .op (.ld (some 6) (.tmp 4))⟩,
    ⟨some 39, (some (37, false)), .op (.ld (some 1) (.tmp 6))⟩,
    ⟨some 40, (some (37, false)), .call 33 [.tmp 38, .tmp 39]⟩,
    ⟨some 41, (some (37, false)), .op (.un .not (.tmp 40))⟩,
    ⟨some 42, none, .op (.pick (.tmp 37) (.const (.bool true)) (.tmp 41))⟩,
    ⟨some 43, none, .op (.mv (.tmp 42))⟩,
    ⟨some 44, (some (43, false)), .op (.ld (some 6) (.tmp 4))⟩,
    ⟨some 45, (some (43, false)), .op (.mv (.tmp 1))⟩,
    ⟨some 46, (some (43, false)), .op (.mv (.tmp 3))⟩,
    ⟨some 47, (some (43, false)), .call 48 [.tmp 44, .tmp 45, .tmp 46]⟩,
    ⟨some 48, (some (43, false)), .op (.un .not (.tmp 47))⟩,
    ⟨some 49, none, .op (.pick (.tmp 43) (.const (.bool true)) (.tmp 48))⟩]
def c15_2 : C := .reg [⟨some 50, none, .call 49 []⟩,
    ⟨some 8, none, .op (.mv (.tmp 50))⟩]
def c15_3 : C := .reg [⟨some 52, none, .op (.ld (some 6) (.tmp 4))⟩,
    ⟨some 53, none, .op (.mv (.tmp 1))⟩,
    ⟨some 54, none, .op (.ld (some 1) (.tmp 6))⟩,
    ⟨some 55, none, .op (.mv (.tmp 3))⟩,
    ⟨some 56, none, .call 57 [.tmp 52, .tmp 53, .tmp 54, .tmp 55]⟩,
    ⟨some 51, none, .op (.mv (.tmp 56))⟩,
    ⟨some 57, none, .op (.ext (.tmp 51) 0)⟩,
    ⟨some 58, none, .op (.ext (.tmp 51) 1)⟩,
    ⟨some 59, none, .op (.ext (.tmp 51) 2)⟩,
    ⟨some 9, none, .op (.new [(.slice none 0 0)])⟩,
    ⟨none, none, .op (.st 1 (.tmp 9) (.tmp 57))⟩,
    ⟨some 10, none, .op (.mv (.tmp 58))⟩,
    ⟨some 11, none, .op (.mv (.tmp 59))⟩]
def c15_4 : C := .reg [⟨some 61, none, .op (.ld (some 6) (.tmp 4))⟩,
    ⟨some 62, none, .op (.mv (.tmp 1))⟩,
    ⟨some 63, none, .op (.ld (some 1) (.tmp 6))⟩,
    ⟨some 64, none, .call 35 [.tmp 61, .tmp 62, .tmp 63, .const (.int .i64 1048576)]⟩,
    ⟨some 60, none, .op (.mv (.tmp 64))⟩,
    ⟨some 65, none, .op (.ext (.tmp 60) 0)⟩,
    ⟨some 66, none, .op (.ext (.tmp 60) 1)⟩,
    ⟨some 67, none, .op (.ext (.tmp 60) 2)⟩,
    ⟨some 68, none, .op (.ext (.tmp 60) 3)⟩,
    ⟨some 69, none, .op (.ext (.tmp 60) 4)⟩,
    ⟨some 12, none, .op (.mv (.tmp 65))⟩,
    ⟨some 13, none, .op (.mv (.tmp 66))⟩,
    ⟨some 14, none, .op (.mv (.tmp 67))⟩,
    ⟨some 15, none, .op (.mv (.tmp 68))⟩,
    ⟨some 16, none, .op (.mv (.tmp 69))⟩]
def c15_5 : C := .reg [⟨some 70, none, .op (.mv (.tmp 16))⟩,
    ⟨some 71, none, .op (.bin .neq (.tmp 70) (.const (.int .i64 0)))⟩,
    ⟨some 72, none, .op (.mv (.tmp 71))⟩,
    ⟨some 73, (some (72, false)), .op (.mv (.tmp 11))⟩,
    ⟨some 74, (some (72, false)), .op (.bin .eql (.tmp 73) (.const (.int .i64 0)))⟩,
    ⟨some 75, (some (72, false)), .op (.mv (.tmp 74))⟩,
    ⟨some 76, (some (75, true)), .op (.mv (.tmp 12))⟩,
    ⟨some 77, (some (75, true)), .op (.bin .neq (.tmp 76) (.const (.int .u8 1)))⟩,
    ⟨some 78, (some (72, false)), .op (.pick (.tmp 75) (.tmp 77) (.const (.bool false)))⟩,
    ⟨some 79, none, .op (.pick (.tmp 72) (.const (.bool true)) (.tmp 78))⟩,
    ⟨some 80, none, .op (.mv (.tmp 79))⟩,
    ⟨some 81, (some (80, false)), .op (.mv (.tmp 11))⟩,
    ⟨some 82, (some (80, false)), .op (.bin .neq (.tmp 81) (.const (.int .i64 0)))⟩,
    ⟨some 83, (some (80, false)), .op (.mv (.tmp 82))⟩,
    ⟨some 84, (some (83, true)), .op (.mv (.tmp 12))⟩,
    ⟨some 85, (some (83, true)), .op (.bin .eql (.tmp 84) (.const (.int .u8 1)))⟩,
    ⟨some 86, (some (80, false)), .op (.pick (.tmp 83) (.tmp 85) (.const (.bool false)))⟩,
    ⟨some 87, (some (80, false)), .op (.mv (.tmp 86))⟩,
    ⟨some 88, (some (87, true)), .op (.mv (.tmp 3))⟩,
    ⟨some 89, (some (87, true)), .op (.bin .eql (.tmp 88) (.const (.int .i64 1048576)))⟩,
    ⟨some 90, (some (80, false)), .op (.pick (.tmp 87) (.tmp 89) (.const (.bool false)))⟩,
    ⟨some 91, none, .op (.pick (.tmp 80) (.const (.bool true)) (.tmp 90))⟩]
def c15_6 : C := .reg [⟨some 8, none, .op (.mv (.const (.bool false)))⟩]
def c15_7 : C := .reg [⟨some 92, none, .op (.mv (.tmp 11))⟩,
    ⟨some 93, none, .op (.bin .neq (.tmp 92) (.const (.int .i64 0)))⟩]
def c15_8 : C := .reg [⟨some 94, none, .op (.mv (.tmp 11))⟩,
    ⟨some 95, none, .op (.bin .eql (.tmp 94) (.const (.int .i64 10)))⟩,
    ⟨some 96, none, .op (.mv (.tmp 95))⟩,
    ⟨some 97, (some (96, true)), .op (.fa 0 (.tmp 9))⟩,
    ⟨some 98, (some (96, true)), .op (.ld none (.tmp 97))⟩,
    ⟨some 99, (some (96, true)), .op (.len (.tmp 98))⟩,
    ⟨some 100, (some (96, true)), .op (.bin .eql (.tmp 99) (.const (.int .i64 0)))⟩,
    ⟨some 101, none, .op (.pick (.tmp 96) (.tmp 100) (.const (.bool false)))⟩,
    ⟨some 102, none, .op (.mv (.tmp 101))⟩,
    ⟨some 103, (some (102, true)), .op (.mv (.tmp 10))⟩,
    ⟨some 104, (some (102, true)), .op (.un .not (.tmp 103))⟩,
    ⟨some 105, none, .op (.pick (.tmp 102) (.tmp 104) (.const (.bool false)))⟩,
    ⟨some 106, none, .op (.mv (.tmp 105))⟩,
    ⟨some 107, (some (106, true)), .call 49 []⟩,
    ⟨some 108, none, .op (.pick (.tmp 106) (.tmp 107) (.const (.bool false)))⟩,
    ⟨some 8, none, .op (.mv (.tmp 108))⟩]
def c15_9 : C := .reg [⟨some 110, none, .op (.ld (some 6) (.tmp 4))⟩,
    ⟨some 111, none, .op (.mv (.tmp 1))⟩,
    ⟨some 112, none, .op (.ld (some 1) (.tmp 9))⟩,
    ⟨some 113, none, .call 35 [.tmp 110, .tmp 111, .tmp 112, .const (.int .i64 1048576)]⟩,
    ⟨some 109, none, .op (.mv (.tmp 113))⟩,
    ⟨some 114, none, .op (.ext (.tmp 109) 0)⟩,
    ⟨some 115, none, .op (.ext (.tmp 109) 1)⟩,
    ⟨some 116, none, .op (.ext (.tmp 109) 2)⟩,
    ⟨some 117, none, .op (.ext (.tmp 109) 3)⟩,
    ⟨some 118, none, .op (.ext (.tmp 109) 4)⟩,
    ⟨some 17, none, .op (.mv (.tmp 114))⟩,
    ⟨some 18, none, .op (.mv (.tmp 115))⟩,
    ⟨some 19, none, .op (.mv (.tmp 116))⟩,
    ⟨some 20, none, .op (.mv (.tmp 117))⟩,
    ⟨some 21, none, .op (.mv (.tmp 118))⟩]
def c15_10 : C := .reg [⟨some 119, none, .op (.mv (.tmp 21))⟩,
    ⟨some 120, none, .op (.bin .neq (.tmp 119) (.const (.int .i64 0)))⟩,
    ⟨some 121, none, .op (.mv (.tmp 120))⟩,
    ⟨some 122, (some (121, false)), .op (.mv (.tmp 17))⟩,
    ⟨some 123, (some (121, false)), .op (.bin .neq (.tmp 122) (.const (.int .u8 1)))⟩,
    ⟨some 124, none, .op (.pick (.tmp 121) (.const (.bool true)) (.tmp 123))⟩,
    ⟨some 125, none, .op (.mv (.tmp 124))⟩,
    ⟨some 126, (some (125, false)), .op (.ld (some 1) (.tmp 9))⟩,
    ⟨some 127, (some (125, false)), .op (.ld (some 1) (.tmp 6))⟩,
    ⟨some 128, (some (125, false)), .call 58 [.tmp 126, .tmp 127]⟩,
    ⟨some 129, (some (125, false)), .op (.un .not (.tmp 128))⟩,
    ⟨some 130, none, .op (.pick (.tmp 125) (.const (.bool true)) (.tmp 129))⟩,
    ⟨some 131, none, .op (.mv (.tmp 130))⟩,
    ⟨some 132, (some (131, false)), .op (.mv (.tmp 3))⟩,
    ⟨some 133, (some (131, false)), .op (.bin .eql (.tmp 132) (.const (.int .i64 1048576)))⟩,
    ⟨some 134, (some (131, false)), .op (.mv (.tmp 133))⟩,
    ⟨some 135, (some (134, true)), .op (.mv (.tmp 10))⟩,
    ⟨some 136, (some (134, true)), .op (.un .not (.tmp 135))⟩,
    ⟨some 137, (some (131, false)), .op (.pick (.tmp 134) (.tmp 136) (.const (.bool false)))⟩,
    ⟨some 138, none, .op (.pick (.tmp 131) (.const (.bool true)) (.tmp 137))⟩]
def c15_11 : C := .reg [⟨some 8, none, .op (.mv (.const (.bool false)))⟩]
def c15_12 : C := .reg [⟨some 22, none, .op (.mv (.const (.int .i64 0)))⟩]
def c15_13 : C := .reg [⟨some 139, none, .op (.mv (.tmp 22))⟩,
    ⟨some 140, none, .op (.fa 0 (.tmp 9))⟩,
    ⟨some 141, none, .op (.ld none (.tmp 140))⟩,
    ⟨some 142, none, .op (.len (.tmp 141))⟩,
    ⟨some 143, none, .op (.bin .lss (.tmp 139) (.tmp 142))⟩,
    ⟨some 144, none, .op (.mv (.tmp 143))⟩,
    ⟨some 145, (some (144, true)), .op (.mv (.tmp 10))⟩,
    ⟨some 146, none, .op (.pick (.tmp 144) (.tmp 145) (.const (.bool false)))⟩]
def c15_14 : C := .reg [⟨some 23, none, .op (.new [(.slice none 0 0)])⟩]
def c15_15 : C := .regD 0 [⟨0, ⟨some 149, none, .op (.fa 0 (.tmp 23))⟩, none, []⟩,
    ⟨1, ⟨some 150, none, .op (.ld none (.tmp 149))⟩, none, []⟩,
    ⟨2, ⟨some 151, none, .op (.fa 0 (.tmp 9))⟩, none, []⟩,
    ⟨3, ⟨some 152, none, .op (.ld none (.tmp 151))⟩, none, []⟩,
    ⟨4, ⟨some 153, none, .op (.mv (.tmp 22))⟩, none, []⟩,
    ⟨5, ⟨some 154, none, .op (.slc 1 (.tmp 152) none (some (.tmp 153)) none)⟩, none, []⟩,
    ⟨7, ⟨some 156, none, .op (.fa 0 (.tmp 9))⟩, none, []⟩,
    ⟨8, ⟨some 157, none, .op (.ld none (.tmp 156))⟩, none, []⟩,
    ⟨9, ⟨some 158, none, .op (.mv (.tmp 22))⟩, none, []⟩,
    ⟨10, ⟨some 159, none, .op (.bin .add (.tmp 158) (.const (.int .i64 1)))⟩, none, []⟩,
    ⟨11, ⟨some 160, none, .op (.slc 1 (.tmp 157) (some (.tmp 159)) none none)⟩, none, []⟩,
    ⟨6, ⟨some 155, none, .op (.app 1 24 (.tmp 150) (.tmp 154))⟩, none, [(none, .tmp 156, 157, none)]⟩,
    ⟨12, ⟨some 161, none, .op (.app 1 24 (.tmp 155) (.tmp 160))⟩, none, []⟩,
    ⟨13, ⟨some 162, none, .op (.fa 0 (.tmp 23))⟩, none, []⟩,
    ⟨14, ⟨none, none, .op (.st 1 (.tmp 162) (.tmp 161))⟩, none, []⟩]
def c15_16 : C := .reg [⟨some 164, none, .op (.ld (some 6) (.tmp 4))⟩,
    ⟨some 165, none, .op (.mv (.tmp 1))⟩,
    ⟨some 166, none, .op (.ld (some 1) (.tmp 23))⟩,
    ⟨some 167, none, .call 35 [.tmp 164, .tmp 165, .tmp 166, .const (.int .i64 1048576)]⟩,
    ⟨some 163, none, .op (.mv (.tmp 167))⟩,
    ⟨some 168, none, .op (.ext (.tmp 163) 0)⟩,
    ⟨some 169, none, .op (.ext (.tmp 163) 1)⟩,
    ⟨some 170, none, .op (.ext (.tmp 163) 2)⟩,
    ⟨some 171, none, .op (.ext (.tmp 163) 3)⟩,
    ⟨some 172, none, .op (.ext (.tmp 163) 4)⟩,
    ⟨some 24, none, .op (.mv (.tmp 168))⟩,
    ⟨some 25, none, .op (.mv (.tmp 169))⟩,
    ⟨some 26, none, .op (.mv (.tmp 170))⟩,
    ⟨some 27, none, .op (.mv (.tmp 171))⟩,
    ⟨some 28, none, .op (.mv (.tmp 172))⟩]
def c15_17 : C := .reg [⟨some 173, none, .op (.mv (.tmp 28))⟩,
    ⟨some 174, none, .op (.bin .neq (.tmp 173) (.const (.int .i64 0)))⟩,
    ⟨some 175, none, .op (.mv (.tmp 174))⟩,
    ⟨some 176, (some (175, false)), .op (.mv (.tmp 24))⟩,
    ⟨some 177, (some (175, false)), .op (.bin .eql (.tmp 176) (.const (.int .u8 1)))⟩,
    ⟨some 178, none, .op (.pick (.tmp 175) (.const (.bool true)) (.tmp 177))⟩]
def c15_18 : C := .reg [⟨some 8, none, .op (.mv (.const (.bool false)))⟩]
def c15_19 : C := .reg [⟨some 147, none, .op (.mv (.tmp 22))⟩,
    ⟨some 148, none, .op (.bin .add (.tmp 147) (.const (.int .i64 1)))⟩,
    ⟨some 22, none, .op (.mv (.tmp 148))⟩]
def c15_20 : C := .reg [⟨some 179, none, .call 49 []⟩,
    ⟨some 8, none, .op (.mv (.tmp 179))⟩]
def c15 : Fn' := ⟨(.seq c15_0 (.seq (.seq c15_1 (.cond (.tmp 49) (.seq c15_2 .ret) .skip)) (.seq c15_3 (.seq c15_4 (.seq (.seq c15_5 (.cond (.tmp 91) (.seq c15_6 .ret) .skip)) (.seq (.seq c15_7 (.cond (.tmp 93) (.seq c15_8 .ret) .skip)) (.seq c15_9 (.seq (.seq c15_10 (.cond (.tmp 138) (.seq c15_11 .ret) .skip)) (.seq (.seq c15_12 (.block 0 (.loop (.seq (.seq c15_13 (.cond (.tmp 146) .skip (.exit 0))) (.seq (.block 1 (.seq c15_14 (.seq c15_15 (.seq c15_16 (.seq c15_17 (.cond (.tmp 178) (.seq c15_18 .ret) .skip)))))) c15_19))))) (.seq c15_20 .ret)))))))))), [.tmp 8]⟩
theorem comp15 : compFn Tryz.prog 15 = some c15 := by kernel_rfl

def c16_0 : C := .reg [⟨some 4, none, .op (.box (.tmp 0))⟩,
    ⟨some 6, none, .op (.box (.tmp 2))⟩,
    ⟨some 8, none, .op (.mv (.const (.bool false)))⟩]
def c16_1 : C := .reg [⟨some 16, none, .op (.fa 0 (.tmp 6))⟩,
    ⟨some 17, none, .op (.ld none (.tmp 16))⟩,
    ⟨some 18, none, .op (.len (.tmp 17))⟩,
    ⟨some 19, none, .op (.bin .gtr (.tmp 18) (.const (.int .i64 200)))⟩,
    ⟨some 20, none, .op (.mv (.tmp 19))⟩,
    ⟨some 21, (some (20, false)), .op (.ld (some 6) (.tmp 4))⟩,
    ⟨some 22, (some (20, false)), .op (.mv (.tmp 1))⟩,
    ⟨some 23, (some (20, false)), .op (.mv (.tmp 3))⟩,
    ⟨some 24, (some (20, false)), .call 48 [.tmp 21, .tmp 22, .tmp 23]⟩,
    ⟨some 25, (some (20, false)), .op (.mv (.tmp 24))⟩,
    ⟨some 26, (some (25, true)), .op (.ld (some 6) (.tmp 4))⟩,
    ⟨some 27, (some (25, true)), .op (.ld (some 1) (.tmp 6))⟩,
    ⟨some 28, (some (25, true)), .call 33 [.tmp 26, .tmp 27]⟩,
    ⟨some 29, (some (20, false)), .op (.pick (.tmp 25) (.tmp 28) (.const (.bool false)))⟩,
    ⟨some 30, none, .op (.pick (.tmp 20) (.const (.bool true)) (.tmp 29))⟩]
def c16_2 : C := .reg [⟨some 31, none, .call 49 []⟩,
    ⟨some 8, none, .op (.mv (.tmp 31))⟩]
def c16_3 : C := .reg [⟨some 33, none, .op (.ld (some 6) (.tmp 4))⟩,
    ⟨some 34, none, .op (.mv (.tmp 1))⟩,
    ⟨some 35, none, .op (.ld (some 1) (.tmp 6))⟩,
    ⟨some 36, none, .op (.mv (.tmp 3))⟩,
    ⟨some 37, none, .call 57 [.tmp 33, .tmp 34, .tmp 35, .tmp 36]⟩,
    ⟨some 32, none, .op (.mv (.tmp 37))⟩,
    ⟨some 38, none, .op (.ext (.tmp 32) 0)⟩,
    ⟨some 39, none, .op (.ext (.tmp 32) 1)⟩,
    ⟨some 40, none, .op (.ext (.tmp 32) 2)⟩,
    ⟨some 9, none, .op (.new [(.slice none 0 0)])⟩,
    ⟨none, none, .op (.st 1 (.tmp 9) (.tmp 38))⟩,
    ⟨some 10, none, .op (.mv (.tmp 39))⟩,
    ⟨some 11, none, .op (.mv (.tmp 40))⟩]
def c16_4 : C := .reg [⟨some 41, none, .op (.mv (.tmp 11))⟩,
    ⟨some 42, none, .op (.bin .neq (.tmp 41) (.const (.int .i64 2)))⟩,
    ⟨some 43, none, .op (.mv (.tmp 42))⟩,
    ⟨some 44, (some (43, false)), .op (.fa 0 (.tmp 9))⟩,
    ⟨some 45, (some (43, false)), .op (.ld none (.tmp 44))⟩,
    ⟨some 46, (some (43, false)), .op (.len (.tmp 45))⟩,
    ⟨some 47, (some (43, false)), .op (.bin .gtr (.tmp 46) (.const (.int .i64 0)))⟩,
    ⟨some 48, none, .op (.pick (.tmp 43) (.const (.bool true)) (.tmp 47))⟩,
    ⟨some 49, none, .op (.mv (.tmp 48))⟩,
    ⟨some 50, (some (49, false)), .op (.mv (.tmp 10))⟩,
    ⟨some 51, none, .op (.pick (.tmp 49) (.const (.bool true)) (.tmp 50))⟩]
def c16_5 : C := .reg [⟨some 8, none, .op (.mv (.const (.bool false)))⟩]
def c16_6 : C := .reg [⟨some 52, none, .op (.ld (some 6) (.tmp 4))⟩,
    ⟨some 53, none, .op (.mv (.tmp 1))⟩,
    ⟨some 54, none, .op (.mv (.tmp 3))⟩,
    ⟨some 55, none, .call 48 [.tmp 52, .tmp 53, .tmp 54]⟩]
def c16_7 : C := .reg [⟨some 56, none, .call 49 []⟩,
    ⟨some 8, none, .op (.mv (.tmp 56))⟩]
def c16_8 : C := .reg [⟨some 58, none, .op (.ld (some 6) (.tmp 4))⟩,
    ⟨some 59, none, .op (.mv (.tmp 1))⟩,
    ⟨some 60, none, .op (.mv (.tmp 3))⟩,
    ⟨some 61, none, .call 50 [.tmp 58, .tmp 59, .tmp 60]⟩,
    ⟨some 57, none, .op (.mv (.tmp 61))⟩,
    ⟨some 62, none, .op (.ext (.tmp 57) 0)⟩,
    ⟨some 63, none, .op (.ext (.tmp 57) 1)⟩,
    ⟨some 64, none, .op (.ext (.tmp 57) 2)⟩,
    ⟨some 65, none, .op (.ext (.tmp 57) 3)⟩,
    ⟨some 13, none, .op (.new [(.slice none 0 0)])⟩,
    ⟨some 14, none, .op (.new [(.int .i64 0), (.slice none 0 0), (.slice none 0 0)])⟩,
    ⟨some 12, none, .op (.mv (.tmp 62))⟩,
    ⟨none, none, .op (.st 1 (.tmp 13) (.tmp 63))⟩,
    ⟨none, none, .op (.st 3 (.tmp 14) (.tmp 64))⟩,
    ⟨some 15, none, .op (.mv (.tmp 65))⟩]
def c16_9 : C := .reg [⟨some 66, none, .op (.mv (.tmp 15))⟩,
    ⟨some 67, none, .op (.bin .eql (.tmp 66) (.const (.int .i64 2)))⟩,
    ⟨some 68, none, .op (.mv (.tmp 67))⟩,
    ⟨some 69, (some (68, true)), .op (.mv (.tmp 12))⟩,
    ⟨some 70, (some (68, true)), .op (.bin .eql (.tmp 69) (.const (.int .u8 0)))⟩,
    ⟨some 71, none, .op (.pick (.tmp 68) (.tmp 70) (.const (.bool false)))⟩,
    ⟨some 72, none, .op (.mv (.tmp 71))⟩,
    ⟨some 73, (some (72, true)), .op (.fa 0 (.tmp 13))⟩,
    ⟨some 74, (some (72, true)), .op (.ld none (.tmp 73))⟩,
    ⟨some 75, (some (72, true)), .op (.len (.tmp 74))⟩,
    ⟨some 76, (some (72, true)), .op (.fa 2 (.tmp 14))⟩,
    ⟨some 77, (some (72, true)), .op (.ld none (.tmp 76))⟩,
    ⟨some 78, (some (72, true)), .op (.len (.tmp 77))⟩,
    ⟨some 79, (some (72, true)), .op (.bin .add (.tmp 75) (.tmp 78))⟩,
    ⟨some 80, (some (72, true)), .op (.bin .eql (.tmp 79) (.const (.int .i64 0)))⟩,
    ⟨some 81, none, .op (.pick (.tmp 72) (.tmp 80) (.const (.bool false)))⟩,
    ⟨some 82, none, .op (.mv (.tmp 81))⟩,
    ⟨some 83, (some (82, true)), .call 49 []⟩,
    ⟨some 84, none, .op (.pick (.tmp 82) (.tmp 83) (.const (.bool false)))⟩,
    ⟨some 8, none, .op (.mv (.tmp 84))⟩]
def c16 : Fn' := ⟨(.seq c16_0 (.seq (.seq c16_1 (.cond (.tmp 30) (.seq c16_2 .ret) .skip)) (.seq c16_3 (.seq (.seq c16_4 (.cond (.tmp 51) (.seq c16_5 .ret) .skip)) (.seq (.seq c16_6 (.cond (.tmp 55) (.seq c16_7 .ret) .skip)) (.seq c16_8 (.seq c16_9 .ret))))))), [.tmp 8]⟩
theorem comp16 : compFn Tryz.prog 16 = some c16 := by kernel_rfl

def c48_0 : C := .reg [⟨some 3, none, .op (.box (.tmp 0))⟩,
    ⟨some 6, none, .op (.mv (.const (.bool false)))⟩]
def c48_1 : C := .reg [⟨some 7, none, .op (.ld (some 6) (.tmp 3))⟩,
    ⟨some 8, none, .call 79 [.tmp 7]⟩,
    ⟨some 9, none, .op (.mv (.tmp 8))⟩,
    ⟨some 10, (some (9, true)), .op (.mv (.tmp 1))⟩,
    ⟨some 11, (some (9, true)), .op (.bin .geq (.tmp 10) (.const (.int .i64 0)))⟩,
    ⟨some 12, none, .op (.pick (.tmp 9) (.tmp 11) (.const (.bool false)))⟩,
    ⟨some 13, none, .op (.mv (.tmp 12))⟩,
    ⟨some 14, (some (13, true)), .op (.mv (.tmp 1))⟩,
    ⟨some 15, (some (13, true)), .op (.fa 4 (.tmp 3))⟩,
    ⟨some 16, (some (13, true)), .op (.ld none (.tmp 15))⟩,
    ⟨some 17, (some (13, true)), .op (.len (.tmp 16))⟩,
    ⟨some 18, (some (13, true)), .op (.bin .lss (.tmp 14) (.tmp 17))⟩,
    ⟨some 19, none, .op (.pick (.tmp 13) (.tmp 18) (.const (.bool false)))⟩,
    ⟨some 20, none, .op (.mv (.tmp 19))⟩,
    ⟨some 21, (some (20, true)), .op (.mv (.tmp 2))⟩,
    ⟨some 22, (some (20, true)), .op (.bin .geq (.tmp 21) (.const (.int .i64 0)))⟩,
    ⟨some 23, none, .op (.pick (.tmp 20) (.tmp 22) (.const (.bool false)))⟩,
    ⟨some 24, none, .op (.mv (.tmp 23))⟩,
    ⟨some 25, (some (24, true)), .op (.mv (.tmp 2))⟩,
    ⟨some 26, (some (24, true)), .op (.bin .leq (.tmp 25) (.const (.int .i64 1048576)))⟩,
    ⟨some 27, none, .op (.pick (.tmp 24) (.tmp 26) (.const (.bool false)))⟩,
    ⟨some 6, none, .op (.mv (.tmp 27))⟩]
def c48 : Fn' := ⟨(.seq c48_0 (.seq c48_1 .ret)), [.tmp 6]⟩
theorem comp48 : compFn Tryz.prog 48 = some c48 := by kernel_rfl

def c51_0 : C := .reg [⟨some 2, none, .op (.box (.tmp 0))⟩,
    ⟨some 4, none, .op (.mv (.const (.bool false)))⟩]
def c51_1 : C := .reg [⟨some 5, none, .op (.ld (some 6) (.tmp 2))⟩,
    ⟨some 6, none, .op (.mv (.tmp 1))⟩,
    ⟨some 7, none, .op (.fa 1 (.tmp 2))⟩,
    ⟨some 8, none, .op (.ld none (.tmp 7))⟩,
    ⟨some 9, none, .op (.len (.tmp 8))⟩,
    ⟨some 10, none, .op (.conv .u64 (.tmp 9))⟩,
    ⟨some 11, none, .op (.bin .shl (.const (.int .i64 1)) (.tmp 10))⟩,
    ⟨some 12, none, .op (.bin .add (.const (.int .i64 1)) (.tmp 11))⟩,
    ⟨some 13, none, .call 52 [.tmp 5, .tmp 6, .tmp 12]⟩,
    ⟨some 14, none, .op (.bin .eql (.tmp 13) (.const (.int .i64 0)))⟩,
    ⟨some 4, none, .op (.mv (.tmp 14))⟩]
def c51 : Fn' := ⟨(.seq c51_0 (.seq c51_1 .ret)), [.tmp 4]⟩
theorem comp51 : compFn Tryz.prog 51 = some c51 := by kernel_rfl

def c52_0 : C := .reg [⟨some 3, none, .op (.box (.tmp 0))⟩,
    ⟨some 6, none, .op (.mv (.const (.int .i64 0)))⟩]
def c52_1 : C := .reg [⟨some 9, none, .op (.ld (some 6) (.tmp 3))⟩,
    ⟨some 10, none, .call 102 [.tmp 9]⟩,
    ⟨some 7, none, .op (.mv (.tmp 10))⟩]
def c52_2 : C := .reg [⟨some 8, none, .op (.mv (.const (.int .i64 1)))⟩]
def c52_3 : C := .reg [⟨some 11, none, .op (.mv (.tmp 8))⟩,
    ⟨some 12, none, .op (.mv (.tmp 2))⟩,
    ⟨some 13, none, .op (.bin .leq (.tmp 11) (.tmp 12))⟩]
def c52_4 : C := .reg [⟨some 16, none, .op (.ld (some 6) (.tmp 3))⟩,
    ⟨some 17, none, .op (.mv (.tmp 7))⟩,
    ⟨some 18, none, .op (.mv (.tmp 1))⟩,
    ⟨some 19, none, .call 103 [.tmp 16, .tmp 17, .tmp 18]⟩]
def c52_5 : C := .reg [⟨some 20, none, .op (.mv (.tmp 8))⟩,
    ⟨some 6, none, .op (.mv (.tmp 20))⟩]
def c52_6 : C := .reg [⟨some 21, none, .op (.ld (some 6) (.tmp 3))⟩,
    ⟨some 22, none, .op (.mv (.tmp 7))⟩,
    ⟨some 23, none, .call 104 [.tmp 21, .tmp 22]⟩,
    ⟨some 7, none, .op (.mv (.tmp 23))⟩]
def c52_7 : C := .reg [⟨some 14, none, .op (.mv (.tmp 8))⟩,
    ⟨some 15, none, .op (.bin .add (.tmp 14) (.const (.int .i64 1)))⟩,
    ⟨some 8, none, .op (.mv (.tmp 15))⟩]
def c52_8 : C := .reg [⟨some 6, none, .op (.mv (.const (.int .i64 0)))⟩]
def c52 : Fn' := ⟨(.seq c52_0 (.seq c52_1 (.seq (.seq c52_2 (.block 0 (.loop (.seq (.seq c52_3 (.cond (.tmp 13) .skip (.exit 0))) (.seq (.block 1 (.seq (.seq c52_4 (.cond (.tmp 19) (.seq c52_5 .ret) .skip)) c52_6)) c52_7))))) (.seq c52_8 .ret)))), [.tmp 6]⟩
theorem comp52 : compFn Tryz.prog 52 = some c52 := by kernel_rfl

def c54_0 : C := .reg [⟨some 5, none, .op (.box (.tmp 0))⟩,
    ⟨some 10, none, .op (.mv (.const (.bool false)))⟩]
def c54_1 : C := .reg [⟨some 11, none, .op (.mv (.const (.int .i64 0)))⟩]
def c54_2 : C := .reg [⟨some 15, none, .op (.mv (.tmp 11))⟩,
    ⟨some 16, none, .op (.fa 0 (.tmp 5))⟩,
    ⟨some 17, none, .op (.ld none (.tmp 16))⟩,
    ⟨some 18, none, .op (.conv .u64 (.tmp 17))⟩,
    ⟨some 19, none, .op (.bin .shl (.const (.int .i64 1)) (.tmp 18))⟩,
    ⟨some 20, none, .op (.bin .lss (.tmp 15) (.tmp 19))⟩]
def c54_3 : C := .regD 0 [⟨0, ⟨some 24, none, .op (.ld (some 6) (.tmp 5))⟩, none, []⟩,
    ⟨1, ⟨some 25, none, .op (.mv (.tmp 1))⟩, none, []⟩,
    ⟨2, ⟨some 26, none, .op (.mv (.tmp 11))⟩, none, []⟩,
    ⟨3, ⟨some 27, none, .op (.fa 0 (.tmp 5))⟩, none, []⟩,
    ⟨4, ⟨some 28, none, .op (.ld none (.tmp 27))⟩, none, []⟩,
    ⟨5, ⟨some 29, none, .call 53 [.tmp 26, .tmp 28]⟩, none, [(some 6, .tmp 5, 24, none)]⟩,
    ⟨6, ⟨some 30, none, .call 39 [.tmp 24, .tmp 25, .tmp 29]⟩, none, []⟩,
    ⟨7, ⟨some 23, none, .op (.mv (.tmp 30))⟩, none, []⟩,
    ⟨8, ⟨some 31, none, .op (.ext (.tmp 23) 0)⟩, none, []⟩,
    ⟨9, ⟨some 32, none, .op (.ext (.tmp 23) 1)⟩, none, []⟩,
    ⟨10, ⟨some 33, none, .op (.ext (.tmp 23) 2)⟩, none, []⟩,
    ⟨11, ⟨some 12, none, .op (.mv (.tmp 31))⟩, none, []⟩,
    ⟨12, ⟨some 13, none, .op (.mv (.tmp 32))⟩, none, []⟩,
    ⟨13, ⟨some 14, none, .op (.mv (.tmp 33))⟩, none, []⟩]
def c54_4 : C := .reg [⟨some 34, none, .op (.ld (some 6) (.tmp 5))⟩,
    ⟨some 35, none, .op (.mv (.tmp 12))⟩,
    ⟨some 36, none, .call 47 [.tmp 34, .tmp 35]⟩,
    ⟨some 37, none, .op (.mv (.tmp 36))⟩,
    ⟨some 38, (some (37, true)), .op (.mv (.tmp 12))⟩,
    ⟨some 39, (some (37, true)), .op (.mv (.tmp 2))⟩,
    ⟨some 40, (some (37, true)), .call 90 [.tmp 38, .tmp 39]⟩,
    ⟨some 41, (some (37, true)), .op (.mv (.tmp 3))⟩,
    ⟨some 42, (some (37, true)), .op (.bin .eql (.tmp 40) (.tmp 41))⟩,
    ⟨some 43, none, .op (.pick (.tmp 37) (.tmp 42) (.const (.bool false)))⟩,
    ⟨some 44, none, .op (.mv (.tmp 43))⟩,
    ⟨some 45, (some (44, true)), .op (.mv (.tmp 4))⟩,
    ⟨some 46, (some (44, true)), .op (.bin .lss (.tmp 45) (.const (.int .i64 0)))⟩,
    ⟨some 47, (some (44, true)), .op (.mv (.tmp 46))⟩,
    ⟨some 48, (some (47, false)), .op (.mv (.tmp 13))⟩,
    ⟨some 49, (some (47, false)), .call 105 [.tmp 48]⟩,
    ⟨some 50, (some (47, false)), .op (.mv (.tmp 4))⟩,
    ⟨some 51, (some (47, false)), .op (.bin .eql (.tmp 49) (.tmp 50))⟩,
    ⟨some 52, (some (44, true)), .op (.pick (.tmp 47) (.const (.bool true)) (.tmp 51))⟩,
    ⟨some 53, none, .op (.pick (.tmp 44) (.tmp 52) (.const (.bool false)))⟩]
def c54_5 : C := .reg [⟨some 10, none, .op (.mv (.const (.bool true)))⟩]
def c54_6 : C := .reg [⟨some 21, none, .op (.mv (.tmp 11))⟩,
    ⟨some 22, none, .op (.bin .add (.tmp 21) (.const (.int .i64 1)))⟩,
    ⟨some 11, none, .op (.mv (.tmp 22))⟩]
def c54_7 : C := .reg [⟨some 10, none, .op (.mv (.const (.bool false)))⟩]
def c54 : Fn' := ⟨(.seq c54_0 (.seq (.seq c54_1 (.block 0 (.loop (.seq (.seq c54_2 (.cond (.tmp 20) .skip (.exit 0))) (.seq (.block 1 (.seq c54_3 (.seq c54_4 (.cond (.tmp 53) (.seq c54_5 .ret) .skip)))) c54_6))))) (.seq c54_7 .ret))), [.tmp 10]⟩
theorem comp54 : compFn Tryz.prog 54 = some c54 := by kernel_rfl

def c55_0 : C := .reg [⟨some 1, none, .op (.box (.tmp 0))⟩,
    ⟨some 2, none, .op (.mv (.const (.bool false)))⟩]
def c55_1 : C := .reg [⟨some 3, none, .op (.fa 0 (.tmp 1))⟩,
    ⟨some 4, none, .op (.ld none (.tmp 3))⟩,
    ⟨some 5, none, .op (.bin .gtr (.tmp 4) (.const (.int .i64 10)))⟩,
    ⟨some 6, none, .op (.mv (.tmp 5))⟩,
    ⟨some 7, (some (6, false)), .op (.fa 1 (.tmp 1))⟩,
    ⟨some 8, (some (6, false)), .op (.ld none (.tmp 7))⟩,
    ⟨some 9, (some (6, false)), .op (.len (.tmp 8))⟩,
    ⟨some 10, (some (6, false)), .op (.bin .gtr (.tmp 9) (.const (.int .i64 10)))⟩,
    ⟨some 11, none, .op (.pick (.tmp 6) (.const (.bool true)) (.tmp 10))⟩,
    ⟨some 12, none, .op (.mv (.tmp 11))⟩,
    ⟨some 13, (some (12, false)), .op (.fa 2 (.tmp 1))⟩,
    ⟨some 14, (some (12, false)), .op (.ld none (.tmp 13))⟩,
    ⟨some 15, (some (12, false)), .op (.len (.tmp 14))⟩,
    ⟨some 16, (some (12, false)), .op (.bin .gtr (.tmp 15) (.const (.int .i64 60)))⟩,
    ⟨some 17, none, .op (.pick (.tmp 12) (.const (.bool true)) (.tmp 16))⟩,
    ⟨some 18, none, .op (.mv (.tmp 17))⟩,
    ⟨some 19, (some (18, false)), .op (.fa 5 (.tmp 1))⟩,
    ⟨some 20, (some (18, false)), .op (.ld none (.tmp 19))⟩,
    ⟨some 21, (some (18, false)), .op (.len (.tmp 20))⟩,
    ⟨some 22, (some (18, false)), .op (.bin .gtr (.tmp 21) (.const (.int .i64 10)))⟩,
    ⟨some 23, none, .op (.pick (.tmp 18) (.const (.bool true)) (.tmp 22))⟩,
    ⟨some 2, none, .op (.mv (.tmp 23))⟩]
def c55 : Fn' := ⟨(.seq c55_0 (.seq c55_1 .ret)), [.tmp 2]⟩
theorem comp55 : compFn Tryz.prog 55 = some c55 := by kernel_rfl

def c56_0 : C := .reg [⟨some 2, none, .op (.box (.tmp 0))⟩,
    ⟨some 3, none, .op (.box (.tmp 1))⟩,
    ⟨some 4, none, .op (.mv (.const (.bool false)))⟩]
def c56_1 : C := .reg [⟨some 5, none, .op (.fa 0 (.tmp 2))⟩,
    ⟨some 6, none, .op (.ld none (.tmp 5))⟩,
    ⟨some 7, none, .op (.fa 0 (.tmp 3))⟩,
    ⟨some 8, none, .op (.ld none (.tmp 7))⟩,
    ⟨some 9, none, .op (.bin .eql (.tmp 6) (.tmp 8))⟩,
    ⟨some 10, none, .op (.mv (.tmp 9))⟩,
    ⟨some 11, (some (10, true)), .op (.fa 1 (.tmp 2))⟩,
    ⟨some 12, (some (10, true)), .op (.ld none (.tmp 11))⟩,
    ⟨some 13, (some (10, true)), .op (.fa 1 (.tmp 3))⟩,
    ⟨some 14, (some (10, true)), .op (.ld none (.tmp 13))⟩,
    ⟨some 15, (some (10, true)), .call 82 [.tmp 12, .tmp 14]⟩,
    ⟨some 16, none, .op (.pick (.tmp 10) (.tmp 15) (.const (.bool false)))⟩,
    ⟨some 17, none, .op (.mv (.tmp 16))⟩,
    ⟨some 18, (some (17, true)), .op (.fa 2 (.tmp 2))⟩,
    ⟨some 19, (some (17, true)), .op (.ld none (.tmp 18))⟩,
    ⟨some 20, (some (17, true)), .op (.fa 2 (.tmp 3))⟩,
    ⟨some 21, (some (17, true)), .op (.ld none (.tmp 20))⟩,
    ⟨some 22, (some (17, true)), .call 106 [.tmp 19, .tmp 21]⟩,
    ⟨some 23, none, .op (.pick (.tmp 17) (.tmp 22) (.const (.bool false)))⟩,
    ⟨some 4, none, .op (.mv (.tmp 23))⟩]
def c56 : Fn' := ⟨(.seq c56_0 (.seq c56_1 .ret)), [.tmp 4]⟩
theorem comp56 : compFn Tryz.prog 56 = some c56 := by kernel_rfl

def c57_0 : C := .reg [⟨some 4, none, .op (.box (.tmp 0))⟩,
    ⟨some 6, none, .op (.box (.tmp 2))⟩,
    ⟨some 8, none, .op (.new [(.slice none 0 0)])⟩,
    ⟨some 9, none, .op (.mv (.const (.bool false)))⟩,
    ⟨some 10, none, .op (.mv (.const (.int .i64 0)))⟩]
def c57_1 : C := .reg [⟨some 27, none, .op (.ld (some 6) (.tmp 4))⟩,
    ⟨some 28, none, .op (.mv (.tmp 1))⟩,
    ⟨some 29, none, .op (.ld (some 1) (.tmp 6))⟩,
    ⟨some 30, none, .op (.mv (.tmp 3))⟩,
    ⟨some 31, none, .call 35 [.tmp 27, .tmp 28, .tmp 29, .tmp 30]⟩,
    ⟨some 26, none, .op (.mv (.tmp 31))⟩,
    ⟨some 32, none, .op (.ext (.tmp 26) 0)⟩,
    ⟨some 33, none, .op (.ext (.tmp 26) 1)⟩,
    ⟨some 34, none, .op (.ext (.tmp 26) 2)⟩,
    ⟨some 35, none, .op (.ext (.tmp 26) 3)⟩,
    ⟨some 36, none, .op (.ext (.tmp 26) 4)⟩,
    ⟨some 11, none, .op (.mv (.tmp 32))⟩,
    ⟨some 12, none, .op (.mv (.tmp 33))⟩,
    ⟨some 13, none, .op (.mv (.tmp 34))⟩,
    ⟨some 14, none, .op (.mv (.tmp 35))⟩,
    ⟨some 15, none, .op (.mv (.tmp 36))⟩]
def c57_2 : C := .reg [⟨some 38, none, .op (.mv (.tmp 15))⟩,
    ⟨some 39, none, .op (.bin .neq (.tmp 38) (.const (.int .i64 0)))⟩,
    ⟨some 37, none, .op (.mv (.tmp 39))⟩]
def c57_3 : C := .reg [⟨some 40, none, .op (.mk [(.slice none 0 0)] [])⟩,
    ⟨some 41, none, .op (.mv (.tmp 15))⟩,
    ⟨none, none, .op (.st 1 (.tmp 8) (.tmp 40))⟩,
    ⟨some 9, none, .op (.mv (.const (.bool false)))⟩,
    ⟨some 10, none, .op (.mv (.tmp 41))⟩]
def c57_4 : C := .reg [⟨some 43, none, .op (.mv (.tmp 11))⟩,
    ⟨some 44, none, .op (.bin .neq (.tmp 43) (.const (.int .u8 1)))⟩,
    ⟨some 42, none, .op (.mv (.tmp 44))⟩]
def c57_5 : C := .reg [⟨some 45, none, .op (.mk [(.slice none 0 0)] [])⟩,
    ⟨none, none, .op (.st 1 (.tmp 8) (.tmp 45))⟩,
    ⟨some 9, none, .op (.mv (.const (.bool false)))⟩,
    ⟨some 10, none, .op (.mv (.const (.int .i64 10)))⟩]
def c57_6 : C := .reg [⟨some 46, none, .op (.fa 0 (.tmp 6))⟩,
    ⟨some 47, none, .op (.ld none (.tmp 46))⟩,
    ⟨some 48, none, .call 107 [.tmp 47]⟩,
    ⟨some 16, none, .op (.mv (.tmp 48))⟩]
def c57_7 : C := .reg [⟨some 17, none, .op (.mv (.const (.bool true)))⟩]
def c57_8 : C := .reg [⟨some 49, none, .op (.mv (.tmp 17))⟩]
def c57_9 : C := .reg [⟨some 17, none, .op (.mv (.const (.bool false)))⟩]
def c57_10 : C := .reg [⟨some 18, none, .op (.mv (.const (.bool true)))⟩]
def c57_11 : C := .reg [⟨some 19, none, .op (.mv (.const (.int .i64 0)))⟩]
def c57_12 : C := .reg [⟨some 50, none, .op (.mv (.tmp 19))⟩,
    ⟨some 51, none, .op (.mv (.tmp 16))⟩,
    ⟨some 52, none, .op (.len (.tmp 51))⟩,
    ⟨some 53, none, .op (.bin .lss (.tmp 50) (.tmp 52))⟩]
def c57_13 : C := .reg [⟨some 54, none, .op (.mv (.tmp 16))⟩,
    ⟨some 55, none, .call 107 [.tmp 54]⟩,
    ⟨some 56, none, .op (.mv (.tmp 19))⟩,
    ⟨some 57, none, .op (.mv (.tmp 19))⟩,
    ⟨some 58, none, .op (.bin .add (.tmp 57) (.const (.int .i64 1)))⟩,
    ⟨some 59, none, .call 108 [.tmp 55, .tmp 56, .tmp 58]⟩,
    ⟨some 20, none, .op (.mv (.tmp 59))⟩]
def c57_14 : C := .reg [⟨some 61, none, .op (.ld (some 6) (.tmp 4))⟩,
    ⟨some 62, none, .op (.mv (.tmp 1))⟩,
    ⟨some 63, none, .op (.mv (.tmp 20))⟩,
    ⟨some 64, none, .op (.mk [(.slice none 0 0)] [(0, 1, .tmp 63)])⟩,
    ⟨some 65, none, .op (.mv (.tmp 3))⟩,
    ⟨some 66, none, .call 35 [.tmp 61, .tmp 62, .tmp 64, .tmp 65]⟩,
    ⟨some 60, none, .op (.mv (.tmp 66))⟩,
    ⟨some 67, none, .op (.ext (.tmp 60) 0)⟩,
    ⟨some 68, none, .op (.ext (.tmp 60) 1)⟩,
    ⟨some 69, none, .op (.ext (.tmp 60) 2)⟩,
    ⟨some 70, none, .op (.ext (.tmp 60) 3)⟩,
    ⟨some 71, none, .op (.ext (.tmp 60) 4)⟩,
    ⟨some 21, none, .op (.mv (.tmp 67))⟩,
    ⟨some 22, none, .op (.mv (.tmp 68))⟩,
    ⟨some 23, none, .op (.mv (.tmp 69))⟩,
    ⟨some 24, none, .op (.mv (.tmp 70))⟩,
    ⟨some 25, none, .op (.mv (.tmp 71))⟩]
def c57_15 : C := .reg [⟨some 73, none, .op (.mv (.tmp 25))⟩,
    ⟨some 74, none, .op (.bin .neq (.tmp 73) (.const (.int .i64 0)))⟩,
    ⟨some 72, none, .op (.mv (.tmp 74))⟩]
def c57_16 : C := .reg [⟨some 75, none, .op (.mk [(.slice none 0 0)] [])⟩,
    ⟨some 76, none, .op (.mv (.tmp 25))⟩,
    ⟨none, none, .op (.st 1 (.tmp 8) (.tmp 75))⟩,
    ⟨some 9, none, .op (.mv (.const (.bool false)))⟩,
    ⟨some 10, none, .op (.mv (.tmp 76))⟩]
def c57_17 : C := .reg [⟨some 78, none, .op (.mv (.tmp 21))⟩,
    ⟨some 79, none, .op (.bin .eql (.tmp 78) (.const (.int .u8 1)))⟩,
    ⟨some 77, none, .op (.mv (.tmp 79))⟩]
def c57_18 : C := .reg [⟨some 80, none, .op (.mv (.tmp 20))⟩,
    ⟨some 16, none, .op (.mv (.tmp 80))⟩,
    ⟨some 17, none, .op (.mv (.const (.bool true)))⟩]
def c57_19 : C := .reg [⟨some 82, none, .op (.mv (.tmp 21))⟩,
    ⟨some 83, none, .op (.bin .eql (.tmp 82) (.const (.int .u8 0)))⟩,
    ⟨some 81, none, .op (.mv (.tmp 83))⟩]
def c57_20 : C := .reg [⟨some 18, none, .op (.mv (.const (.bool false)))⟩]
def c57_21 : C := .reg [⟨some 84, none, .op (.mv (.tmp 19))⟩,
    ⟨some 85, none, .op (.bin .add (.tmp 84) (.const (.int .i64 1)))⟩,
    ⟨some 19, none, .op (.mv (.tmp 85))⟩]
def c57_22 : C := .reg [⟨some 86, none, .op (.mv (.tmp 17))⟩,
    ⟨some 87, none, .op (.un .not (.tmp 86))⟩]
def c57_23 : C := .reg [⟨some 88, none, .op (.mv (.tmp 16))⟩,
    ⟨some 89, none, .call 109 [.tmp 88]⟩,
    ⟨some 90, none, .op (.mv (.tmp 18))⟩,
    ⟨none, none, .op (.st 1 (.tmp 8) (.tmp 89))⟩,
    ⟨some 9, none, .op (.mv (.tmp 90))⟩,
    ⟨some 10, none, .op (.mv (.const (.int .i64 0)))⟩]
def c57_24 : C := .reg [⟨some 91, none, .op (.mv (.tmp 16))⟩,
    ⟨some 92, none, .call 109 [.tmp 91]⟩,
    ⟨none, none, .op (.st 1 (.tmp 8) (.tmp 92))⟩,
    ⟨some 9, none, .op (.mv (.const (.bool true)))⟩,
    ⟨some 10, none, .op (.mv (.const (.int .i64 0)))⟩]
def c57 : Fn' := ⟨(.seq c57_0 (.seq c57_1 (.seq (.block 0 (.seq c57_2 (.cond (.tmp 37) (.seq c57_3 .ret) (.seq c57_4 (.cond (.tmp 42) (.seq c57_5 .ret) .skip))))) (.seq c57_6 (.seq (.seq c57_7 (.block 1 (.loop (.seq (.seq c57_8 (.cond (.tmp 49) .skip (.exit 1))) (.block 2 (.seq c57_9 (.seq c57_10 (.seq (.seq c57_11 (.block 3 (.loop (.seq (.seq c57_12 (.cond (.tmp 53) .skip (.exit 3))) (.block 4 (.seq c57_13 (.seq c57_14 (.seq (.block 5 (.seq c57_15 (.cond (.tmp 72) (.seq c57_16 .ret) (.seq c57_17 (.cond (.tmp 77) (.seq c57_18 (.exit 4)) (.seq c57_19 (.cond (.tmp 81) c57_20 .skip))))))) c57_21)))))))) (.seq c57_22 (.cond (.tmp 87) (.seq c57_23 .ret) .skip)))))))))) (.seq c57_24 .ret)))))), [.cell 8 (some 1), .tmp 9, .tmp 10]⟩
theorem comp57 : compFn Tryz.prog 57 = some c57 := by kernel_rfl

def c58_0 : C := .reg [⟨some 2, none, .op (.box (.tmp 0))⟩,
    ⟨some 3, none, .op (.box (.tmp 1))⟩,
    ⟨some 4, none, .op (.mv (.const (.bool false)))⟩]
def c58_1 : C := .reg [⟨some 5, none, .op (.mv (.const (.int .i64 0)))⟩]
def c58_2 : C := .reg [⟨some 7, none, .op (.fa 0 (.tmp 2))⟩,
    ⟨some 8, none, .op (.ld none (.tmp 7))⟩,
    ⟨some 9, none, .op (.len (.tmp 8))⟩,
    ⟨some 10, none, .op (.mv (.const (.int .i64 0)))⟩]
def c58_3 : C := .reg [⟨some 11, none, .op (.bin .lss (.tmp 10) (.tmp 9))⟩]
def c58_4 : C := .reg [⟨some 12, none, .op (.mv (.tmp 10))⟩,
    ⟨some 6, none, .op (.mv (.tmp 12))⟩]
def c58_5 : C := .regD 0 [⟨0, ⟨some 13, none, .op (.mv (.tmp 5))⟩, none, []⟩,
    ⟨1, ⟨some 14, none, .op (.fa 0 (.tmp 3))⟩, none, []⟩,
    ⟨2, ⟨some 15, none, .op (.ld none (.tmp 14))⟩, none, []⟩,
    ⟨3, ⟨some 16, none, .op (.len (.tmp 15))⟩, none, []⟩,
    ⟨4, ⟨some 17, none, .op (.bin .lss (.tmp 13) (.tmp 16))⟩, none, []⟩,
    ⟨5, ⟨some 18, none, .op (.mv (.tmp 17))⟩, none, []⟩,
    ⟨6, ⟨some 19, (some (18, true)), .op (.fa 0 (.tmp 2))⟩, none, []⟩,
    ⟨7, ⟨some 20, (some (18, true)), .op (.ld none (.tmp 19))⟩, none, []⟩,
    ⟨8, ⟨some 21, (some (18, true)), .op (.mv (.tmp 6))⟩, none, []⟩,
    ⟨9, ⟨some 22, (some (18, true)), .op (.mv (.tmp 6))⟩, none, []⟩,
    ⟨10, ⟨some 23, (some (18, true)), .op (.bin .add (.tmp 22) (.const (.int .i64 1)))⟩, none, []⟩,
    ⟨11, ⟨some 24, (some (18, true)), .op (.slc 1 (.tmp 20) (some (.tmp 21)) (some (.tmp 23)) none)⟩, none, []⟩,
    ⟨12, ⟨some 25, (some (18, true)), .op (.mk [(.slice none 0 0)] [(0, 1, .tmp 24)])⟩, none, []⟩,
    ⟨13, ⟨some 26, (some (18, true)), .op (.fa 0 (.tmp 3))⟩, none, []⟩,
    ⟨14, ⟨some 27, (some (18, true)), .op (.ld none (.tmp 26))⟩, none, []⟩,
    ⟨15, ⟨some 28, (some (18, true)), .op (.mv (.tmp 5))⟩, none, []⟩,
    ⟨16, ⟨some 29, (some (18, true)), .op (.mv (.tmp 5))⟩, none, []⟩,
    ⟨17, ⟨some 30, (some (18, true)), .op (.bin .add (.tmp 29) (.const (.int .i64 1)))⟩, none, []⟩,
    ⟨18, ⟨some 31, (some (18, true)), .op (.slc 1 (.tmp 27) (some (.tmp 28)) (some (.tmp 30)) none)⟩, none, []⟩,
    ⟨19, ⟨some 32, (some (18, true)), .op (.mk [(.slice none 0 0)] [(0, 1, .tmp 31)])⟩, none, []⟩,
    ⟨20, ⟨some 33, (some (18, true)), .call 110 [.tmp 25, .tmp 32]⟩, none, []⟩,
    ⟨21, ⟨some 34, (some (18, true)), .op (.un .not (.tmp 33))⟩, none, []⟩,
    ⟨22, ⟨some 35, none, .op (.pick (.tmp 18) (.tmp 34) (.const (.bool false)))⟩, none, []⟩]
def c58_6 : C := .reg [⟨some 36, none, .op (.mv (.tmp 5))⟩,
    ⟨some 37, none, .op (.bin .add (.tmp 36) (.const (.int .i64 1)))⟩,
    ⟨some 5, none, .op (.mv (.tmp 37))⟩]
def c58_7 : C := .reg [⟨some 38, none, .op (.mv (.tmp 5))⟩,
    ⟨some 39, none, .op (.fa 0 (.tmp 3))⟩,
    ⟨some 40, none, .op (.ld none (.tmp 39))⟩,
    ⟨some 41, none, .op (.len (.tmp 40))⟩,
    ⟨some 42, none, .op (.bin .eql (.tmp 38) (.tmp 41))⟩]
def c58_8 : C := .reg [⟨some 4, none, .op (.mv (.const (.bool false)))⟩]
def c58_9 : C := .reg [⟨some 43, none, .op (.mv (.tmp 5))⟩,
    ⟨some 44, none, .op (.bin .add (.tmp 43) (.const (.int .i64 1)))⟩,
    ⟨some 5, none, .op (.mv (.tmp 44))⟩]
def c58_10 : C := .reg [⟨some 45, none, .op (.bin .add (.tmp 10) (.const (.int .i64 1)))⟩,
    ⟨some 10, none, .op (.mv (.tmp 45))⟩]
def c58_11 : C := .reg [⟨some 4, none, .op (.mv (.const (.bool true)))⟩]
def c58 : Fn' := ⟨(.seq c58_0 (.seq c58_1 (.seq (.seq c58_2 (.block 0 (.loop (.seq c58_3 (.seq (.cond (.tmp 11) .skip (.exit 0)) (.seq (.block 1 (.seq c58_4 (.seq (.block 2 (.loop (.seq (.seq c58_5 (.cond (.tmp 35) .skip (.exit 2))) (.block 3 c58_6)))) (.seq (.seq c58_7 (.cond (.tmp 42) (.seq c58_8 .ret) .skip)) c58_9)))) c58_10)))))) (.seq c58_11 .ret)))), [.tmp 4]⟩
theorem comp58 : compFn Tryz.prog 58 = some c58 := by kernel_rfl

def c102_0 : C := .reg [⟨some 1, none, .op (.box (.tmp 0))⟩,
    ⟨some 2, none, .op (.mv (.const (.slice none 0 0)))⟩]
def c102_1 : C := .reg [⟨some 5, none, .op (.fa 1 (.tmp 1))⟩,
    ⟨some 6, none, .op (.ld none (.tmp 5))⟩,
    ⟨some 7, none, .op (.len (.tmp 6))⟩,
    ⟨some 8, none, .op (.conv .u64 (.tmp 7))⟩,
    ⟨some 9, none, .op (.bin .shl (.const (.int .i64 1)) (.tmp 8))⟩,
    ⟨some 10, none, .op (.mkS [(.bool false)] 1 (.tmp 9) (.tmp 9))⟩,
    ⟨some 3, none, .op (.mv (.tmp 10))⟩]
def c102_2 : C := .reg [⟨some 4, none, .op (.mv (.const (.int .i64 0)))⟩]
def c102_3 : C := .reg [⟨some 11, none, .op (.mv (.tmp 4))⟩,
    ⟨some 12, none, .op (.mv (.tmp 3))⟩,
    ⟨some 13, none, .op (.len (.tmp 12))⟩,
    ⟨some 14, none, .op (.bin .lss (.tmp 11) (.tmp 13))⟩]
def c102_4 : C := .regD 0 [⟨0, ⟨some 17, none, .op (.mv (.tmp 3))⟩, none, []⟩,
    ⟨1, ⟨some 18, none, .op (.mv (.tmp 4))⟩, none, []⟩,
    ⟨2, ⟨some 19, none, .op (.ld (some 6) (.tmp 1))⟩, none, []⟩,
    ⟨3, ⟨some 20, none, .op (.mv (.tmp 4))⟩, none, []⟩,
    ⟨4, ⟨some 21, none, .op (.fa 1 (.tmp 1))⟩, none, []⟩,
    ⟨5, ⟨some 22, none, .op (.ld none (.tmp 21))⟩, none, []⟩,
    ⟨6, ⟨some 23, none, .op (.len (.tmp 22))⟩, none, []⟩,
    ⟨7, ⟨some 24, none, .call 53 [.tmp 20, .tmp 23]⟩, none, [(some 6, .tmp 1, 19, none)]⟩,
    ⟨8, ⟨some 25, none, .call 37 [.tmp 19, .tmp 24]⟩, none, []⟩,
    ⟨9, ⟨some 26, none, .op (.ia 1 (.tmp 17) (.tmp 18))⟩, none, []⟩,
    ⟨10, ⟨none, none, .op (.st 1 (.tmp 26) (.tmp 25))⟩, none, []⟩]
def c102_5 : C := .reg [⟨some 15, none, .op (.mv (.tmp 4))⟩,
    ⟨some 16, none, .op (.bin .add (.tmp 15) (.const (.int .i64 1)))⟩,
    ⟨some 4, none, .op (.mv (.tmp 16))⟩]
def c102_6 : C := .reg [⟨some 27, none, .op (.mv (.tmp 3))⟩,
    ⟨some 2, none, .op (.mv (.tmp 27))⟩]
def c102 : Fn' := ⟨(.seq c102_0 (.seq c102_1 (.seq (.seq c102_2 (.block 0 (.loop (.seq (.seq c102_3 (.cond (.tmp 14) .skip (.exit 0))) (.seq (.block 1 c102_4) c102_5))))) (.seq c102_6 .ret)))), [.tmp 2]⟩
theorem comp102 : compFn Tryz.prog 102 = some c102 := by kernel_rfl

def c103_0 : C := .reg [⟨some 3, none, .op (.box (.tmp 0))⟩,
    ⟨some 6, none, .op (.mv (.const (.bool false)))⟩]
def c103_1 : C := .reg [⟨some 7, none, .op (.mv (.const (.int .i64 0)))⟩]
def c103_2 : C := .reg [⟨some 12, none, .op (.mv (.tmp 7))⟩,
    ⟨some 13, none, .op (.mv (.tmp 1))⟩,
    ⟨some 14, none, .op (.len (.tmp 13))⟩,
    ⟨some 15, none, .op (.bin .lss (.tmp 12) (.tmp 14))⟩]
def c103_3 : C := .reg [⟨some 8, none, .op (.mv (.const (.int .i64 0)))⟩]
def c103_4 : C := .reg [⟨some 18, none, .op (.mv (.tmp 8))⟩,
    ⟨some 19, none, .op (.fa 0 (.tmp 3))⟩,
    ⟨some 20, none, .op (.ld none (.tmp 19))⟩,
    ⟨some 21, none, .op (.conv .u64 (.tmp 20))⟩,
    ⟨some 22, none, .op (.bin .shl (.const (.int .i64 1)) (.tmp 21))⟩,
    ⟨some 23, none, .op (.bin .lss (.tmp 18) (.tmp 22))⟩,
    ⟨some 24, none, .op (.mv (.tmp 23))⟩,
    ⟨some 25, (some (24, true)), .op (.mv (.tmp 1))⟩,
    ⟨some 26, (some (24, true)), .op (.mv (.tmp 7))⟩,
    ⟨some 27, (some (24, true)), .op (.ia 1 (.tmp 25) (.tmp 26))⟩,
    ⟨some 28, (some (24, true)), .op (.ld none (.tmp 27))⟩,
    ⟨some 29, none, .op (.pick (.tmp 24) (.tmp 28) (.const (.bool false)))⟩]
def c103_5 : C := .regD 0 [⟨0, ⟨some 33, none, .op (.ld (some 6) (.tmp 3))⟩, none, []⟩,
    ⟨1, ⟨some 34, none, .op (.mv (.tmp 7))⟩, none, []⟩,
    ⟨2, ⟨some 35, none, .op (.fa 1 (.tmp 3))⟩, none, []⟩,
    ⟨3, ⟨some 36, none, .op (.ld none (.tmp 35))⟩, none, []⟩,
    ⟨4, ⟨some 37, none, .op (.len (.tmp 36))⟩, none, []⟩,
    ⟨6, ⟨some 39, none, .op (.mv (.tmp 8))⟩, none, []⟩,
    ⟨7, ⟨some 40, none, .op (.fa 0 (.tmp 3))⟩, none, []⟩,
    ⟨8, ⟨some 41, none, .op (.ld none (.tmp 40))⟩, none, []⟩,
    ⟨5, ⟨some 38, none, .call 53 [.tmp 34, .tmp 37]⟩, none, [(none, .tmp 40, 41, none), (some 6, .tmp 3, 33, none)]⟩,
    ⟨9, ⟨some 42, none, .call 53 [.tmp 39, .tmp 41]⟩, none, [(some 6, .tmp 3, 33, none)]⟩,
    ⟨10, ⟨some 43, none, .call 39 [.tmp 33, .tmp 38, .tmp 42]⟩, none, []⟩,
    ⟨11, ⟨some 32, none, .op (.mv (.tmp 43))⟩, none, []⟩,
    ⟨12, ⟨some 44, none, .op (.ext (.tmp 32) 0)⟩, none, []⟩,
    ⟨13, ⟨some 45, none, .op (.ext (.tmp 32) 1)⟩, none, []⟩,
    ⟨14, ⟨some 46, none, .op (.ext (.tmp 32) 2)⟩, none, []⟩,
    ⟨15, ⟨some 9, none, .op (.mv (.tmp 44))⟩, none, []⟩,
    ⟨16, ⟨some 10, none, .op (.mv (.tmp 45))⟩, none, []⟩,
    ⟨17, ⟨some 11, none, .op (.mv (.tmp 46))⟩, none, []⟩]
def c103_6 : C := .reg [⟨some 47, none, .op (.ld (some 6) (.tmp 3))⟩,
    ⟨some 48, none, .op (.mv (.tmp 9))⟩,
    ⟨some 49, none, .call 47 [.tmp 47, .tmp 48]⟩,
    ⟨some 50, none, .op (.mv (.tmp 49))⟩,
    ⟨some 51, (some (50, true)), .op (.mv (.tmp 9))⟩,
    ⟨some 52, (some (50, true)), .op (.mv (.tmp 2))⟩,
    ⟨some 53, (some (50, true)), .call 90 [.tmp 51, .tmp 52]⟩,
    ⟨some 54, (some (50, true)), .op (.bin .eql (.tmp 53) (.const (.int .u8 1)))⟩,
    ⟨some 55, none, .op (.pick (.tmp 50) (.tmp 54) (.const (.bool false)))⟩]
def c103_7 : C := .reg [⟨some 6, none, .op (.mv (.const (.bool true)))⟩]
def c103_8 : C := .reg [⟨some 30, none, .op (.mv (.tmp 8))⟩,
    ⟨some 31, none, .op (.bin .add (.tmp 30) (.const (.int .i64 1)))⟩,
    ⟨some 8, none, .op (.mv (.tmp 31))⟩]
def c103_9 : C := .reg [⟨some 16, none, .op (.mv (.tmp 7))⟩,
    ⟨some 17, none, .op (.bin .add (.tmp 16) (.const (.int .i64 1)))⟩,
    ⟨some 7, none, .op (.mv (.tmp 17))⟩]
def c103_10 : C := .reg [⟨some 6, none, .op (.mv (.const (.bool false)))⟩]
def c103 : Fn' := ⟨(.seq c103_0 (.seq (.seq c103_1 (.block 0 (.loop (.seq (.seq c103_2 (.cond (.tmp 15) .skip (.exit 0))) (.seq (.block 1 (.seq c103_3 (.block 2 (.loop (.seq (.seq c103_4 (.cond (.tmp 29) .skip (.exit 2))) (.seq (.block 3 (.seq c103_5 (.seq c103_6 (.cond (.tmp 55) (.seq c103_7 .ret) .skip)))) c103_8)))))) c103_9))))) (.seq c103_10 .ret))), [.tmp 6]⟩
theorem comp103 : compFn Tryz.prog 103 = some c103 := by kernel_rfl

def c104_0 : C := .reg [⟨some 2, none, .op (.box (.tmp 0))⟩,
    ⟨some 4, none, .op (.mv (.const (.slice none 0 0)))⟩]
def c104_1 : C := .reg [⟨some 11, none, .op (.mv (.tmp 1))⟩,
    ⟨some 12, none, .op (.len (.tmp 11))⟩,
    ⟨some 13, none, .op (.mkS [(.bool false)] 1 (.tmp 12) (.tmp 12))⟩,
    ⟨some 5, none, .op (.mv (.tmp 13))⟩]
def c104_2 : C := .reg [⟨some 6, none, .op (.mv (.const (.int .i64 0)))⟩]
def c104_3 : C := .reg [⟨some 14, none, .op (.mv (.tmp 6))⟩,
    ⟨some 15, none, .op (.mv (.tmp 1))⟩,
    ⟨some 16, none, .op (.len (.tmp 15))⟩,
    ⟨some 17, none, .op (.bin .lss (.tmp 14) (.tmp 16))⟩]
def c104_4 : C := .reg [⟨some 7, none, .op (.mv (.const (.int .i64 0)))⟩]
def c104_5 : C := .reg [⟨some 20, none, .op (.mv (.tmp 7))⟩,
    ⟨some 21, none, .op (.fa 0 (.tmp 2))⟩,
    ⟨some 22, none, .op (.ld none (.tmp 21))⟩,
    ⟨some 23, none, .op (.conv .u64 (.tmp 22))⟩,
    ⟨some 24, none, .op (.bin .shl (.const (.int .i64 1)) (.tmp 23))⟩,
    ⟨some 25, none, .op (.bin .lss (.tmp 20) (.tmp 24))⟩,
    ⟨some 26, none, .op (.mv (.tmp 25))⟩,
    ⟨some 27, (some (26, true)), .op (.mv (.tmp 1))⟩,
    ⟨some 28, (some (26, true)), .op (.mv (.tmp 6))⟩,
    ⟨some 29, (some (26, true)), .op (.ia 1 (.tmp 27) (.tmp 28))⟩,
    ⟨some 30, (some (26, true)), .op (.ld none (.tmp 29))⟩,
    ⟨some 31, none, .op (.pick (.tmp 26) (.tmp 30) (.const (.bool false)))⟩]
def c104_6 : C := .regD 0 [⟨0, ⟨some 35, none, .op (.ld (some 6) (.tmp 2))⟩, none, []⟩,
    ⟨1, ⟨some 36, none, .op (.mv (.tmp 6))⟩, none, []⟩,
    ⟨2, ⟨some 37, none, .op (.fa 1 (.tmp 2))⟩, none, []⟩,
    ⟨3, ⟨some 38, none, .op (.ld none (.tmp 37))⟩, none, []⟩,
    ⟨4, ⟨some 39, none, .op (.len (.tmp 38))⟩, none, []⟩,
    ⟨6, ⟨some 41, none, .op (.mv (.tmp 7))⟩, none, []⟩,
    ⟨7, ⟨some 42, none, .op (.fa 0 (.tmp 2))⟩, none, []⟩,
    ⟨8, ⟨some 43, none, .op (.ld none (.tmp 42))⟩, none, []⟩,
    ⟨5, ⟨some 40, none, .call 53 [.tmp 36, .tmp 39]⟩, none, [(none, .tmp 42, 43, none), (some 6, .tmp 2, 35, none)]⟩,
    ⟨9, ⟨some 44, none, .call 53 [.tmp 41, .tmp 43]⟩, none, [(some 6, .tmp 2, 35, none)]⟩,
    ⟨10, ⟨some 45, none, .call 39 [.tmp 35, .tmp 40, .tmp 44]⟩, none, []⟩,
    ⟨11, ⟨some 34, none, .op (.mv (.tmp 45))⟩, none, []⟩,
    ⟨12, ⟨some 46, none, .op (.ext (.tmp 34) 0)⟩, none, []⟩,
    ⟨13, ⟨some 47, none, .op (.ext (.tmp 34) 1)⟩, none, []⟩,
    ⟨14, ⟨some 48, none, .op (.ext (.tmp 34) 2)⟩, none, []⟩,
    ⟨15, ⟨some 8, none, .op (.mv (.tmp 46))⟩, none, []⟩,
    ⟨16, ⟨some 9, none, .op (.mv (.tmp 47))⟩, none, []⟩,
    ⟨17, ⟨some 10, none, .op (.mv (.tmp 48))⟩, none, []⟩]
def c104_7 : C := .reg [⟨some 49, none, .op (.ld (some 6) (.tmp 2))⟩,
    ⟨some 50, none, .op (.mv (.tmp 8))⟩,
    ⟨some 51, none, .call 47 [.tmp 49, .tmp 50]⟩]
def c104_8 : C := .reg [⟨some 52, none, .op (.mv (.tmp 5))⟩,
    ⟨some 53, none, .op (.mv (.tmp 9))⟩,
    ⟨some 54, none, .call 105 [.tmp 53]⟩,
    ⟨some 55, none, .op (.ia 1 (.tmp 52) (.tmp 54))⟩,
    ⟨none, none, .op (.st 1 (.tmp 55) (.const (.bool true)))⟩]
def c104_9 : C := .reg [⟨some 32, none, .op (.mv (.tmp 7))⟩,
    ⟨some 33, none, .op (.bin .add (.tmp 32) (.const (.int .i64 1)))⟩,
    ⟨some 7, none, .op (.mv (.tmp 33))⟩]
def c104_10 : C := .reg [⟨some 18, none, .op (.mv (.tmp 6))⟩,
    ⟨some 19, none, .op (.bin .add (.tmp 18) (.const (.int .i64 1)))⟩,
    ⟨some 6, none, .op (.mv (.tmp 19))⟩]
def c104_11 : C := .reg [⟨some 56, none, .op (.mv (.tmp 5))⟩,
    ⟨some 4, none, .op (.mv (.tmp 56))⟩]
def c104 : Fn' := ⟨(.seq c104_0 (.seq c104_1 (.seq (.seq c104_2 (.block 0 (.loop (.seq (.seq c104_3 (.cond (.tmp 17) .skip (.exit 0))) (.seq (.block 1 (.seq c104_4 (.block 2 (.loop (.seq (.seq c104_5 (.cond (.tmp 31) .skip (.exit 2))) (.seq (.block 3 (.seq c104_6 (.seq c104_7 (.cond (.tmp 51) c104_8 .skip)))) c104_9)))))) c104_10))))) (.seq c104_11 .ret)))), [.tmp 4]⟩
theorem comp104 : compFn Tryz.prog 104 = some c104 := by kernel_rfl

def c105_0 : C := .reg [⟨some 2, none, .op (.mv (.const (.int .i64 0)))⟩]
def c105_1 : C := .reg [⟨some 3, none, .op (.mv (.const (.int .i64 0)))⟩]
def c105_2 : C := .reg [⟨some 4, none, .op (.mv (.const (.int .i64 0)))⟩]
def c105_3 : C := .reg [⟨some 5, none, .op (.mv (.tmp 4))⟩,
    ⟨some 6, none, .op (.mv (.tmp 0))⟩,
    ⟨some 7, none, .op (.len (.tmp 6))⟩,
    ⟨some 8, none, .op (.bin .lss (.tmp 5) (.tmp 7))⟩]
def c105_4 : C := .reg [⟨some 11, none, .op (.mv (.tmp 3))⟩,
    ⟨some 12, none, .op (.mv (.tmp 0))⟩,
    ⟨some 13, none, .op (.mv (.tmp 4))⟩,
    ⟨some 14, none, .op (.ia 1 (.tmp 12) (.tmp 13))⟩,
    ⟨some 15, none, .op (.ld none (.tmp 14))⟩,
    ⟨some 16, none, .op (.conv .i64 (.tmp 15))⟩,
    ⟨some 17, none, .op (.mv (.tmp 4))⟩,
    ⟨some 18, none, .op (.conv .u64 (.tmp 17))⟩,
    ⟨some 19, none, .op (.bin .shl (.tmp 16) (.tmp 18))⟩,
    ⟨some 20, none, .op (.bin .add (.tmp 11) (.tmp 19))⟩,
    ⟨some 3, none, .op (.mv (.tmp 20))⟩]
def c105_5 : C := .reg [⟨some 9, none, .op (.mv (.tmp 4))⟩,
    ⟨some 10, none, .op (.bin .add (.tmp 9) (.const (.int .i64 1)))⟩,
    ⟨some 4, none, .op (.mv (.tmp 10))⟩]
def c105_6 : C := .reg [⟨some 21, none, .op (.mv (.tmp 3))⟩,
    ⟨some 2, none, .op (.mv (.tmp 21))⟩]
def c105 : Fn' := ⟨(.seq c105_0 (.seq c105_1 (.seq (.seq c105_2 (.block 0 (.loop (.seq (.seq c105_3 (.cond (.tmp 8) .skip (.exit 0))) (.seq (.block 1 c105_4) c105_5))))) (.seq c105_6 .ret)))), [.tmp 2]⟩
theorem comp105 : compFn Tryz.prog 105 = some c105 := by kernel_rfl

def c106_0 : C := .reg [⟨some 4, none, .op (.mv (.const (.bool false)))⟩]
def c106_1 : C := .reg [⟨some 5, none, .op (.mv (.tmp 0))⟩,
    ⟨some 6, none, .op (.len (.tmp 5))⟩,
    ⟨some 7, none, .op (.mv (.tmp 1))⟩,
    ⟨some 8, none, .op (.len (.tmp 7))⟩,
    ⟨some 9, none, .op (.bin .neq (.tmp 6) (.tmp 8))⟩]
def c106_2 : C := .reg [⟨some 4, none, .op (.mv (.const (.bool false)))⟩]
def c106_3 : C := .reg [⟨some 10, none, .op (.mv (.tmp 0))⟩,
    ⟨some 11, none, .op (.len (.tmp 10))⟩,
    ⟨some 12, none, .op (.bin .gtr (.tmp 11) (.const (.int .i64 0)))⟩]
def c106_4 : C := .regD 0 [⟨0, ⟨some 13, none, .op (.mv (.tmp 0))⟩, none, []⟩,
    ⟨1, ⟨some 14, none, .op (.ia 1 (.tmp 13) (.const (.int .i64 0)))⟩, none, []⟩,
    ⟨2, ⟨some 15, none, .op (.ld none (.tmp 14))⟩, none, []⟩,
    ⟨3, ⟨some 16, none, .op (.mv (.tmp 1))⟩, none, []⟩,
    ⟨4, ⟨some 17, none, .op (.ia 1 (.tmp 16) (.const (.int .i64 0)))⟩, none, []⟩,
    ⟨5, ⟨some 18, none, .op (.ld none (.tmp 17))⟩, none, []⟩,
    ⟨6, ⟨some 19, none, .call 82 [.tmp 15, .tmp 18]⟩, none, []⟩,
    ⟨7, ⟨some 20, none, .op (.un .not (.tmp 19))⟩, none, []⟩]
def c106_5 : C := .reg [⟨some 4, none, .op (.mv (.const (.bool false)))⟩]
def c106_6 : C := .regD 0 [⟨0, ⟨some 21, none, .op (.mv (.tmp 0))⟩, none, []⟩,
    ⟨1, ⟨some 22, none, .op (.slc 1 (.tmp 21) (some (.const (.int .i64 1))) none none)⟩, none, []⟩,
    ⟨2, ⟨some 23, none, .op (.mv (.tmp 1))⟩, none, []⟩,
    ⟨3, ⟨some 24, none, .op (.slc 1 (.tmp 23) (some (.const (.int .i64 1))) none none)⟩, none, []⟩,
    ⟨4, ⟨some 0, none, .op (.mv (.tmp 22))⟩, none, []⟩,
    ⟨5, ⟨some 1, none, .op (.mv (.tmp 24))⟩, none, []⟩]
def c106_7 : C := .reg [⟨some 4, none, .op (.mv (.const (.bool true)))⟩]
def c106 : Fn' := ⟨(.seq c106_0 (.seq (.seq c106_1 (.cond (.tmp 9) (.seq c106_2 .ret) .skip)) (.seq (.block 0 (.loop (.seq (.seq c106_3 (.cond (.tmp 12) .skip (.exit 0))) (.block 1 (.seq (.seq c106_4 (.cond (.tmp 20) (.seq c106_5 .ret) .skip)) c106_6))))) (.seq c106_7 .ret)))), [.tmp 4]⟩
theorem comp106 : compFn Tryz.prog 106 = some c106 := by kernel_rfl

def c107_0 : C := .reg [⟨some 2, none, .op (.mv (.const (.slice none 0 0)))⟩]
def c107_1 : C := .reg [⟨some 3, none, .op (.mv (.tmp 0))⟩,
    ⟨some 4, none, .op (.nil 1 false (.tmp 3) (.const (.slice none 0 0)))⟩]
def c107_2 : C := .reg [⟨some 2, none, .op (.mv (.const (.slice none 0 0)))⟩]
def c107_3 : C := .reg [⟨some 5, none, .op (.mkSl (reps 0 [(.slice none 0 0)]) 0 [])⟩,
    ⟨some 6, none, .op (.mv (.tmp 0))⟩,
    ⟨some 7, none, .op (.app 1 24 (.tmp 5) (.tmp 6))⟩,
    ⟨some 2, none, .op (.mv (.tmp 7))⟩]
def c107 : Fn' := ⟨(.seq c107_0 (.seq (.seq c107_1 (.cond (.tmp 4) (.seq c107_2 .ret) .skip)) (.seq c107_3 .ret))), [.tmp 2]⟩
theorem comp107 : compFn Tryz.prog 107 = some c107 := by kernel_rfl

def c108_0 : C := .reg [⟨some 6, none, .op (.mv (.const (.slice none 0 0)))⟩]
def c108_1 : C := .reg [⟨some 8, none, .op (.mv (.tmp 0))⟩,
    ⟨some 9, none, .op (.mv (.tmp 1))⟩,
    ⟨some 10, none, .op (.mv (.tmp 2))⟩,
    ⟨some 11, none, .op (.mv (.tmp 0))⟩,
    ⟨some 12, none, .op (.len (.tmp 11))⟩,
    ⟨some 13, none, .op (.slc 1 (.tmp 8) (some (.tmp 9)) (some (.tmp 10)) (some (.tmp 12)))⟩]
def c108_2 : C := .reg [⟨some 14, none, .op (.mv (.tmp 1))⟩,
    ⟨some 15, none, .op (.mv (.tmp 2))⟩,
    ⟨some 16, none, .op (.bin .eql (.tmp 14) (.tmp 15))⟩]
def c108_3 : C := .reg [⟨some 17, none, .op (.mv (.tmp 0))⟩,
    ⟨some 6, none, .op (.mv (.tmp 17))⟩]
def c108_4 : C := .reg [⟨some 18, none, .op (.mv (.tmp 0))⟩,
    ⟨some 19, none, .op (.len (.tmp 18))⟩,
    ⟨some 7, none, .op (.mv (.tmp 19))⟩]
def c108_5 : C := .regD 0 [⟨0, ⟨some 20, none, .op (.mv (.tmp 0))⟩, none, []⟩,
    ⟨1, ⟨some 21, none, .op (.mv (.tmp 1))⟩, none, []⟩,
    ⟨2, ⟨some 22, none, .op (.slc 1 (.tmp 20) none (some (.tmp 21)) none)⟩, none, []⟩,
    ⟨3, ⟨some 23, none, .op (.mv (.tmp 0))⟩, none, []⟩,
    ⟨4, ⟨some 24, none, .op (.mv (.tmp 2))⟩, none, []⟩,
    ⟨5, ⟨some 25, none, .op (.slc 1 (.tmp 23) (some (.tmp 24)) none none)⟩, none, []⟩,
    ⟨6, ⟨some 26, none, .op (.app 1 24 (.tmp 22) (.tmp 25))⟩, none, []⟩,
    ⟨7, ⟨some 0, none, .op (.mv (.tmp 26))⟩, none, []⟩]
def c108_6 : C := .reg [⟨some 27, none, .op (.mv (.tmp 0))⟩,
    ⟨some 28, none, .op (.mv (.tmp 0))⟩,
    ⟨some 29, none, .op (.len (.tmp 28))⟩,
    ⟨some 30, none, .op (.mv (.tmp 7))⟩,
    ⟨some 31, none, .op (.slc 1 (.tmp 27) (some (.tmp 29)) (some (.tmp 30)) none)⟩,
    ⟨none, none, .op (.clr [(.slice none 0 0)] (.tmp 31))⟩]
def c108_7 : C := .reg [⟨some 32, none, .op (.mv (.tmp 0))⟩,
    ⟨some 6, none, .op (.mv (.tmp 32))⟩]
def c108 : Fn' := ⟨(.seq c108_0 (.seq c108_1 (.seq (.seq c108_2 (.cond (.tmp 16) (.seq c108_3 .ret) .skip)) (.seq c108_4 (.seq c108_5 (.seq c108_6 (.seq c108_7 .ret))))))), [.tmp 6]⟩
theorem comp108 : compFn Tryz.prog 108 = some c108 := by kernel_rfl

def c109_0 : C := .reg [⟨some 2, none, .op (.new [(.slice none 0 0)])⟩]
def c109_1 : C := .reg [⟨some 5, none, .op (.mv (.tmp 0))⟩,
    ⟨some 6, none, .op (.len (.tmp 5))⟩,
    ⟨some 7, none, .op (.mv (.const (.int .i64 0)))⟩]
def c109_2 : C := .reg [⟨some 8, none, .op (.bin .lss (.tmp 7) (.tmp 6))⟩]
def c109_3 : C := .reg [⟨some 9, none, .op (.ia 1 (.tmp 5) (.tmp 7))⟩,
    ⟨some 10, none, .op (.ld none (.tmp 9))⟩,
    ⟨some 4, none, .op (.mv (.tmp 10))⟩]
def c109_4 : C := .regD 1 [⟨0, ⟨some 11, none, .op (.fa 0 (.tmp 2))⟩, none, []⟩,
    ⟨1, ⟨some 12, none, .op (.ld none (.tmp 11))⟩, none, []⟩,
    ⟨2, ⟨some 13, none, .op (.mv (.tmp 4))⟩, none, []⟩,
    ⟨3, ⟨some 14, none, .call 135 [.tmp 13]⟩, none, [(none, .tmp 11, 12, none)]⟩,
    ⟨4, ⟨some 15, none, .op (.mkSl (reps 1 [(.slice none 0 0)]) 1 [(0, 1, .tmp 14)])⟩, some 0, []⟩,
    ⟨5, ⟨some 16, none, .op (.app 1 24 (.tmp 12) (.tmp 15))⟩, none, []⟩,
    ⟨6, ⟨some 17, none, .op (.fa 0 (.tmp 2))⟩, none, []⟩,
    ⟨7, ⟨none, none, .op (.st 1 (.tmp 17) (.tmp 16))⟩, none, []⟩]
def c109_5 : C := .reg [⟨some 18, none, .op (.bin .add (.tmp 7) (.const (.int .i64 1)))⟩,
    ⟨some 7, none, .op (.mv (.tmp 18))⟩]
def c109_6 : C := .reg [⟨some 19, none, .op (.ld (some 1) (.tmp 2))⟩,
    ⟨none, none, .op (.st 1 (.tmp 2) (.tmp 19))⟩]
def c109 : Fn' := ⟨(.seq c109_0 (.seq (.seq c109_1 (.block 0 (.loop (.seq c109_2 (.seq (.cond (.tmp 8) .skip (.exit 0)) (.seq (.block 1 (.seq c109_3 c109_4)) c109_5)))))) (.seq c109_6 .ret))), [.cell 2 (some 1)]⟩
theorem comp109 : compFn Tryz.prog 109 = some c109 := by kernel_rfl

def c110_0 : C := .reg [⟨some 2, none, .op (.box (.tmp 0))⟩,
    ⟨some 3, none, .op (.box (.tmp 1))⟩,
    ⟨some 4, none, .op (.mv (.const (.bool false)))⟩]
def c110_1 : C := .reg [⟨some 7, none, .op (.fa 0 (.tmp 2))⟩,
    ⟨some 8, none, .op (.ld none (.tmp 7))⟩,
    ⟨some 9, none, .op (.len (.tmp 8))⟩,
    ⟨some 10, none, .op (.fa 0 (.tmp 3))⟩,
    ⟨some 11, none, .op (.ld none (.tmp 10))⟩,
    ⟨some 12, none, .op (.len (.tmp 11))⟩,
    ⟨some 13, none, .op (.bin .neq (.tmp 9) (.tmp 12))⟩]
def c110_2 : C := .reg [⟨some 4, none, .op (.mv (.const (.bool false)))⟩]
def c110_3 : C := .reg [⟨some 5, none, .op (.mv (.const (.int .i64 0)))⟩]
def c110_4 : C := .reg [⟨some 14, none, .op (.mv (.tmp 5))⟩,
    ⟨some 15, none, .op (.fa 0 (.tmp 2))⟩,
    ⟨some 16, none, .op (.ld none (.tmp 15))⟩,
    ⟨some 17, none, .op (.len (.tmp 16))⟩,
    ⟨some 18, none, .op (.bin .lss (.tmp 14) (.tmp 17))⟩]
def c110_5 : C := .regD 0 [⟨0, ⟨some 21, none, .op (.fa 0 (.tmp 2))⟩, none, []⟩,
    ⟨1, ⟨some 22, none, .op (.ld none (.tmp 21))⟩, none, []⟩,
    ⟨2, ⟨some 23, none, .op (.mv (.tmp 5))⟩, none, []⟩,
    ⟨3, ⟨some 24, none, .op (.ia 1 (.tmp 22) (.tmp 23))⟩, none, []⟩,
    ⟨4, ⟨some 25, none, .op (.ld none (.tmp 24))⟩, none, []⟩,
    ⟨5, ⟨some 26, none, .op (.len (.tmp 25))⟩, none, []⟩,
    ⟨6, ⟨some 27, none, .op (.fa 0 (.tmp 3))⟩, none, []⟩,
    ⟨7, ⟨some 28, none, .op (.ld none (.tmp 27))⟩, none, []⟩,
    ⟨8, ⟨some 29, none, .op (.mv (.tmp 5))⟩, none, []⟩,
    ⟨9, ⟨some 30, none, .op (.ia 1 (.tmp 28) (.tmp 29))⟩, none, []⟩,
    ⟨10, ⟨some 31, none, .op (.ld none (.tmp 30))⟩, none, []⟩,
    ⟨11, ⟨some 32, none, .op (.len (.tmp 31))⟩, none, []⟩,
    ⟨12, ⟨some 33, none, .op (.bin .neq (.tmp 26) (.tmp 32))⟩, none, []⟩]
def c110_6 : C := .reg [⟨some 4, none, .op (.mv (.const (.bool false)))⟩]
def c110_7 : C := .reg [⟨some 6, none, .op (.mv (.const (.int .i64 0)))⟩]
def c110_8 : C := .reg [⟨some 34, none, .op (.mv (.tmp 6))⟩,
    ⟨some 35, none, .op (.fa 0 (.tmp 2))⟩,
    ⟨some 36, none, .op (.ld none (.tmp 35))⟩,
    ⟨some 37, none, .op (.mv (.tmp 5))⟩,
    ⟨some 38, none, .op (.ia 1 (.tmp 36) (.tmp 37))⟩,
    ⟨some 39, none, .op (.ld none (.tmp 38))⟩,
    ⟨some 40, none, .op (.len (.tmp 39))⟩,
    ⟨some 41, none, .op (.bin .lss (.tmp 34) (.tmp 40))⟩]
def c110_9 : C := .regD 0 [⟨0, ⟨some 44, none, .op (.fa 0 (.tmp 2))⟩, none, []⟩,
    ⟨1, ⟨some 45, none, .op (.ld none (.tmp 44))⟩, none, []⟩,
    ⟨2, ⟨some 46, none, .op (.mv (.tmp 5))⟩, none, []⟩,
    ⟨3, ⟨some 47, none, .op (.ia 1 (.tmp 45) (.tmp 46))⟩, none, []⟩,
    ⟨4, ⟨some 48, none, .op (.ld none (.tmp 47))⟩, none, []⟩,
    ⟨5, ⟨some 49, none, .op (.mv (.tmp 6))⟩, none, []⟩,
    ⟨6, ⟨some 50, none, .op (.ia 1 (.tmp 48) (.tmp 49))⟩, none, []⟩,
    ⟨7, ⟨some 51, none, .op (.ld none (.tmp 50))⟩, none, []⟩,
    ⟨8, ⟨some 52, none, .op (.fa 0 (.tmp 3))⟩, none, []⟩,
    ⟨9, ⟨some 53, none, .op (.ld none (.tmp 52))⟩, none, []⟩,
    ⟨10, ⟨some 54, none, .op (.mv (.tmp 5))⟩, none, []⟩,
    ⟨11, ⟨some 55, none, .op (.ia 1 (.tmp 53) (.tmp 54))⟩, none, []⟩,
    ⟨12, ⟨some 56, none, .op (.ld none (.tmp 55))⟩, none, []⟩,
    ⟨13, ⟨some 57, none, .op (.mv (.tmp 6))⟩, none, []⟩,
    ⟨14, ⟨some 58, none, .op (.ia 1 (.tmp 56) (.tmp 57))⟩, none, []⟩,
    ⟨15, ⟨some 59, none, .op (.ld none (.tmp 58))⟩, none, []⟩,
    ⟨16, ⟨some 60, none, .op (.bin .neq (.tmp 51) (.tmp 59))⟩, none, []⟩]
def c110_10 : C := .reg [⟨some 4, none, .op (.mv (.const (.bool false)))⟩]
def c110_11 : C := .reg [⟨some 42, none, .op (.mv (.tmp 6))⟩,
    ⟨some 43, none, .op (.bin .add (.tmp 42) (.const (.int .i64 1)))⟩,
    ⟨some 6, none, .op (.mv (.tmp 43))⟩]
def c110_12 : C := .reg [⟨some 19, none, .op (.mv (.tmp 5))⟩,
    ⟨some 20, none, .op (.bin .add (.tmp 19) (.const (.int .i64 1)))⟩,
    ⟨some 5, none, .op (.mv (.tmp 20))⟩]
def c110_13 : C := .reg [⟨some 4, none, .op (.mv (.const (.bool true)))⟩]
def c110 : Fn' := ⟨(.seq c110_0 (.seq (.seq c110_1 (.cond (.tmp 13) (.seq c110_2 .ret) .skip)) (.seq (.seq c110_3 (.block 0 (.loop (.seq (.seq c110_4 (.cond (.tmp 18) .skip (.exit 0))) (.seq (.block 1 (.seq (.seq c110_5 (.cond (.tmp 33) (.seq c110_6 .ret) .skip)) (.seq c110_7 (.block 2 (.loop (.seq (.seq c110_8 (.cond (.tmp 41) .skip (.exit 2))) (.seq (.block 3 (.seq c110_9 (.cond (.tmp 60) (.seq c110_10 .ret) .skip))) c110_11))))))) c110_12))))) (.seq c110_13 .ret)))), [.tmp 4]⟩
theorem comp110 : compFn Tryz.prog 110 = some c110 := by kernel_rfl

end Go.Proofs.YtmmpnmekiplhfaaGreat
