/-
  The codes of functions (Pdr).
-/
import Derived.Test.YtmmpnmekiplhfaaGreatAeComp
import Derived.Test.YtmmpnmekiplhfaaGreatRows
import Derived.KernelRfl
namespace Go.Proofs.YtmmpnmekiplhfaaGreat
open Go Go.Ae

def c27_0 : C := .reg [⟨some 2, none, .op (.mv (.const (.int .i64 0)))⟩]
def c27_1 : C := .reg [⟨some 3, none, .op (.mv (.tmp 0))⟩,
    ⟨some 4, none, .call 63 [.tmp 3]⟩]
def c27_2 : C := .reg [⟨some 2, none, .op (.mv (.const (.int .i64 0)))⟩]
def c27_3 : C := .reg [⟨some 5, none, .op (.mv (.tmp 0))⟩,
    ⟨some 6, none, .op (.nn (.tmp 5))⟩,
    ⟨some 7, none, .op (.fa 0 (.tmp 6))⟩,
    ⟨some 8, none, .op (.ld none (.tmp 7))⟩,
    ⟨some 2, none, .op (.mv (.tmp 8))⟩]
def c27 : Fn' := ⟨(.seq c27_0 (.seq (.seq c27_1 (.cond (.tmp 4) (.seq c27_2 .ret) .skip)) (.seq c27_3 .ret))), [.tmp 2]⟩
theorem comp27 : compFn Tryz.prog 27 = some c27 := by kernel_rfl

def c29_0 : C := .reg [⟨some 4, none, .op (.mv (.const (.int .i64 0)))⟩]
def c29_1 : C := .reg [⟨some 6, none, .op (.mv (.tmp 0))⟩,
    ⟨some 7, none, .call 63 [.tmp 6]⟩,
    ⟨some 5, none, .op (.mv (.tmp 7))⟩]
def c29_2 : C := .reg [⟨some 4, none, .op (.mv (.const (.int .i64 1)))⟩]
def c29_3 : C := .reg [⟨some 9, none, .op (.mv (.tmp 1))⟩,
    ⟨some 10, none, .op (.bin .lss (.tmp 9) (.const (.int .i64 0)))⟩,
    ⟨some 8, none, .op (.mv (.tmp 10))⟩]
def c29_4 : C := .reg [⟨some 4, none, .op (.mv (.const (.int .i64 2)))⟩]
def c29_5 : C := .reg [⟨some 12, none, .op (.mv (.tmp 1))⟩,
    ⟨some 13, none, .op (.mv (.tmp 0))⟩,
    ⟨some 14, none, .op (.nn (.tmp 13))⟩,
    ⟨some 15, none, .op (.fa 0 (.tmp 14))⟩,
    ⟨some 16, none, .op (.ld none (.tmp 15))⟩,
    ⟨some 17, none, .op (.bin .sub (.const (.int .i64 4194304)) (.tmp 16))⟩,
    ⟨some 18, none, .op (.bin .gtr (.tmp 12) (.tmp 17))⟩,
    ⟨some 11, none, .op (.mv (.tmp 18))⟩]
def c29_6 : C := .reg [⟨some 4, none, .op (.mv (.const (.int .i64 3)))⟩]
def c29_7 : C := .reg [⟨some 19, none, .op (.mv (.tmp 0))⟩,
    ⟨some 20, none, .call 65 [.tmp 19]⟩]
def c29_8 : C := .reg [⟨some 21, none, .op (.mv (.tmp 0))⟩,
    ⟨some 22, none, .op (.mv (.tmp 0))⟩,
    ⟨some 23, none, .op (.nn (.tmp 22))⟩,
    ⟨some 24, none, .op (.fa 0 (.tmp 23))⟩,
    ⟨some 25, none, .op (.ld none (.tmp 24))⟩,
    ⟨some 26, none, .op (.mv (.tmp 1))⟩,
    ⟨some 27, none, .op (.bin .add (.tmp 25) (.tmp 26))⟩,
    ⟨some 28, none, .call 59 [.tmp 21, .tmp 27]⟩]
def c29_9 : C := .reg [⟨some 4, none, .op (.mv (.const (.int .i64 0)))⟩]
def c29 : Fn' := ⟨(.seq c29_0 (.seq (.block 0 (.seq c29_1 (.cond (.tmp 5) (.seq c29_2 .ret) (.seq c29_3 (.cond (.tmp 8) (.seq c29_4 .ret) (.seq c29_5 (.cond (.tmp 11) (.seq c29_6 .ret) .skip))))))) (.seq c29_7 (.seq c29_8 (.seq c29_9 .ret))))), [.tmp 4]⟩
theorem comp29 : compFn Tryz.prog 29 = some c29 := by kernel_rfl

def c49_0 : C := .reg [⟨some 0, none, .op (.mv (.const (.bool false)))⟩]
def c49_1 : C := .reg [⟨some 10, none, .call 96 [.const (.int .i64 0), .const (.int .u32 2)]⟩,
    ⟨some 11, none, .call 50 [.tmp 10, .const (.int .i64 0), .const (.int .i64 1000)]⟩,
    ⟨some 9, none, .op (.mv (.tmp 11))⟩,
    ⟨some 12, none, .op (.ext (.tmp 9) 0)⟩,
    ⟨some 13, none, .op (.ext (.tmp 9) 1)⟩,
    ⟨some 14, none, .op (.ext (.tmp 9) 2)⟩,
    ⟨some 15, none, .op (.ext (.tmp 9) 3)⟩,
    ⟨some 2, none, .op (.new [(.slice none 0 0)])⟩,
    ⟨some 3, none, .op (.new [(.int .i64 0), (.slice none 0 0), (.slice none 0 0)])⟩,
    ⟨some 1, none, .op (.mv (.tmp 12))⟩,
    ⟨none, none, .op (.st 1 (.tmp 2) (.tmp 13))⟩,
    ⟨none, none, .op (.st 3 (.tmp 3) (.tmp 14))⟩,
    ⟨some 4, none, .op (.mv (.tmp 15))⟩]
def c49_2 : C := .reg [⟨some 17, none, .call 96 [.const (.int .i64 1), .const (.int .u32 2)]⟩,
    ⟨some 18, none, .call 50 [.tmp 17, .const (.int .i64 0), .const (.int .i64 1000)]⟩,
    ⟨some 16, none, .op (.mv (.tmp 18))⟩,
    ⟨some 19, none, .op (.ext (.tmp 16) 0)⟩,
    ⟨some 20, none, .op (.ext (.tmp 16) 1)⟩,
    ⟨some 21, none, .op (.ext (.tmp 16) 2)⟩,
    ⟨some 22, none, .op (.ext (.tmp 16) 3)⟩,
    ⟨some 6, none, .op (.new [(.slice none 0 0)])⟩,
    ⟨some 7, none, .op (.new [(.int .i64 0), (.slice none 0 0), (.slice none 0 0)])⟩,
    ⟨some 5, none, .op (.mv (.tmp 19))⟩,
    ⟨none, none, .op (.st 1 (.tmp 6) (.tmp 20))⟩,
    ⟨none, none, .op (.st 3 (.tmp 7) (.tmp 21))⟩,
    ⟨some 8, none, .op (.mv (.tmp 22))⟩]
def c49_3 : C := .reg [⟨some 23, none, .op (.mv (.tmp 1))⟩,
    ⟨some 24, none, .op (.bin .eql (.tmp 23) (.const (.int .u8 1)))⟩,
    ⟨some 25, none, .op (.mv (.tmp 24))⟩,
    ⟨some 26, (some (25, true)), .op (.mv (.tmp 4))⟩,
    ⟨some 27, (some (25, true)), .op (.bin .eql (.tmp 26) (.const (.int .i64 0)))⟩,
    ⟨some 28, none, .op (.pick (.tmp 25) (.tmp 27) (.const (.bool false)))⟩,
    ⟨some 29, none, .op (.mv (.tmp 28))⟩,
    ⟨some 30, (some (29, true)), .op (.mv (.tmp 5))⟩,
    ⟨some 31, (some (29, true)), .op (.bin .eql (.tmp 30) (.const (.int .u8 2)))⟩,
    ⟨some 32, none, .op (.pick (.tmp 29) (.tmp 31) (.const (.bool false)))⟩,
    ⟨some 33, none, .op (.mv (.tmp 32))⟩,
    ⟨some 34, (some (33, true)), .op (.mv (.tmp 8))⟩,
    ⟨some 35, (some (33, true)), .op (.bin .eql (.tmp 34) (.const (.int .i64 0)))⟩,
    ⟨some 36, none, .op (.pick (.tmp 33) (.tmp 35) (.const (.bool false)))⟩,
    ⟨some 37, none, .op (.mv (.tmp 36))⟩,
    ⟨some 38, (some (37, true)), .op (.fa 2 (.tmp 7))⟩,
    ⟨some 39, (some (37, true)), .op (.ld none (.tmp 38))⟩,
    ⟨some 40, (some (37, true)), .op (.len (.tmp 39))⟩,
    ⟨some 41, (some (37, true)), .op (.bin .eql (.tmp 40) (.const (.int .i64 2)))⟩,
    ⟨some 42, none, .op (.pick (.tmp 37) (.tmp 41) (.const (.bool false)))⟩,
    ⟨some 0, none, .op (.mv (.tmp 42))⟩]
def c49 : Fn' := ⟨(.seq c49_0 (.seq c49_1 (.seq c49_2 (.seq c49_3 .ret)))), [.tmp 0]⟩
theorem comp49 : compFn Tryz.prog 49 = some c49 := by kernel_rfl

def c50_0 : C := .reg [⟨some 3, none, .op (.box (.tmp 0))⟩,
    ⟨some 6, none, .op (.mv (.const (.int .u8 0)))⟩,
    ⟨some 7, none, .op (.new [(.slice none 0 0)])⟩,
    ⟨some 8, none, .op (.new [(.int .i64 0), (.slice none 0 0), (.slice none 0 0)])⟩,
    ⟨some 9, none, .op (.mv (.const (.int .i64 0)))⟩]
def c50_1 : C := .reg [⟨some 15, none, .op (.ld (some 6) (.tmp 3))⟩,
    ⟨some 16, none, .call 97 [.tmp 15]⟩,
    ⟨some 17, none, .op (.un .not (.tmp 16))⟩,
    ⟨some 18, none, .op (.mv (.tmp 17))⟩,
    ⟨some 19, (some (18, false)), .op (.mv (.tmp 1))⟩,
    ⟨some 20, (some (18, false)), .op (.bin .lss (.tmp 19) (.const (.int .i64 0)))⟩,
    ⟨some 21, none, .op (.pick (.tmp 18) (.const (.bool true)) (.tmp 20))⟩,
    ⟨some 22, none, .op (.mv (.tmp 21))⟩,
    ⟨some 23, (some (22, false)), .op (.mv (.tmp 1))⟩,
    ⟨some 24, (some (22, false)), .op (.fa 4 (.tmp 3))⟩,
    ⟨some 25, (some (22, false)), .op (.ld none (.tmp 24))⟩,
    ⟨some 26, (some (22, false)), .op (.len (.tmp 25))⟩,
    ⟨some 27, (some (22, false)), .op (.bin .geq (.tmp 23) (.tmp 26))⟩,
    ⟨some 28, none, .op (.pick (.tmp 22) (.const (.bool true)) (.tmp 27))⟩,
    ⟨some 29, none, .op (.mv (.tmp 28))⟩,
    ⟨some 30, (some (29, false)), .op (.mv (.tmp 2))⟩,
    ⟨some 31, (some (29, false)), .op (.bin .lss (.tmp 30) (.const (.int .i64 0)))⟩,
    ⟨some 32, none, .op (.pick (.tmp 29) (.const (.bool true)) (.tmp 31))⟩,
    ⟨some 33, none, .op (.mv (.tmp 32))⟩,
    ⟨some 34, (some (33, false)), .op (.mv (.tmp 2))⟩,
    ⟨some 35, (some (33, false)), .op (.bin .gtr (.tmp 34) (.const (.int .i64 1048576)))⟩,
    ⟨some 36, none, .op (.pick (.tmp 33) (.const (.bool true)) (.tmp 35))⟩]
def c50_2 : C := .reg [⟨some 37, none, .op (.mk [(.slice none 0 0)] [])⟩,
    ⟨some 38, none, .op (.mk [(.int .i64 0), (.slice none 0 0), (.slice none 0 0)] [])⟩,
    ⟨some 6, none, .op (.mv (.const (.int .u8 0)))⟩,
    ⟨none, none, .op (.st 1 (.tmp 7) (.tmp 37))⟩,
    ⟨none, none, .op (.st 3 (.tmp 8) (.tmp 38))⟩,
    ⟨some 9, none, .op (.mv (.const (.int .i64 2)))⟩]
def c50_3 : C := .regD 1 [⟨0, ⟨some 39, none, .op (.ld (some 6) (.tmp 3))⟩, none, []⟩,
    ⟨1, ⟨some 40, none, .op (.ld (some 6) (.tmp 3))⟩, none, []⟩,
    ⟨3, ⟨some 42, none, .op (.mv (.tmp 1))⟩, none, []⟩,
    ⟨4, ⟨some 43, none, .op (.mv (.tmp 2))⟩, none, []⟩,
    ⟨2, ⟨some 41, none, .call 84 [.tmp 40]⟩, none, [(some 6, .tmp 3, 39, none)]⟩,
    ⟨5, ⟨some 44, none, .op (.mk [(.int .i64 0), (.slice none 0 0), (.slice none 0 0), (.slice none 0 0), (.slice none 0 0), (.slice none 0 0), (.int .i64 0), (.slice none 0 0), (.slice none 0 0), (.slice none 0 0), (.slice none 0 0), (.slice none 0 0), (.int .i64 0), (.int .i64 0), (.int .i64 0), (.pointer none), (.slice none 0 0), (.slice none 0 0), (.int .i64 0), (.int .i64 0), (.bool false)] [(0, 6, .tmp 39), (6, 6, .tmp 41), (12, 1, .tmp 42), (13, 1, .tmp 43)])⟩, none, []⟩,
    ⟨6, ⟨some 45, none, .op (.box (.tmp 44))⟩, some 0, []⟩,
    ⟨7, ⟨some 10, none, .op (.mv (.tmp 45))⟩, none, []⟩]
def c50_4 : C := .reg [⟨some 46, none, .op (.mv (.tmp 10))⟩,
    ⟨some 47, none, .op (.nn (.tmp 46))⟩,
    ⟨some 48, none, .op (.fa 6 (.tmp 47))⟩,
    ⟨some 49, none, .op (.fa 1 (.tmp 48))⟩,
    ⟨some 50, none, .op (.ld none (.tmp 49))⟩,
    ⟨some 51, none, .op (.len (.tmp 50))⟩,
    ⟨some 52, none, .op (.mv (.const (.int .i64 0)))⟩]
def c50_5 : C := .reg [⟨some 53, none, .op (.bin .lss (.tmp 52) (.tmp 51))⟩]
def c50_6 : C := .reg [⟨some 54, none, .op (.mv (.tmp 52))⟩,
    ⟨some 11, none, .op (.mv (.tmp 54))⟩]
def c50_7 : C := .reg [⟨some 55, none, .op (.mv (.tmp 10))⟩,
    ⟨some 56, none, .op (.nn (.tmp 55))⟩,
    ⟨some 57, none, .op (.fa 6 (.tmp 56))⟩,
    ⟨some 58, none, .op (.fa 1 (.tmp 57))⟩,
    ⟨some 59, none, .op (.ld none (.tmp 58))⟩,
    ⟨some 60, none, .op (.mv (.tmp 11))⟩,
    ⟨some 61, none, .op (.ia 2 (.tmp 59) (.tmp 60))⟩,
    ⟨some 62, none, .op (.fa 1 (.tmp 61))⟩,
    ⟨none, none, .op (.st 1 (.tmp 62) (.const (.int .u8 2)))⟩]
def c50_8 : C := .reg [⟨some 63, none, .op (.bin .add (.tmp 52) (.const (.int .i64 1)))⟩,
    ⟨some 52, none, .op (.mv (.tmp 63))⟩]
def c50_9 : C := .reg [⟨some 64, none, .op (.mv (.tmp 10))⟩,
    ⟨some 65, none, .call 98 [.tmp 64]⟩]
def c50_10 : C := .reg [⟨some 66, none, .op (.mv (.tmp 10))⟩,
    ⟨some 67, none, .op (.nn (.tmp 66))⟩,
    ⟨some 68, none, .op (.fa 19 (.tmp 67))⟩,
    ⟨some 69, none, .op (.ld none (.tmp 68))⟩,
    ⟨some 70, none, .op (.bin .neq (.tmp 69) (.const (.int .i64 0)))⟩]
def c50_11 : C := .regD 0 [⟨0, ⟨some 71, none, .op (.mk [(.slice none 0 0)] [])⟩, none, []⟩,
    ⟨1, ⟨some 72, none, .op (.mk [(.int .i64 0), (.slice none 0 0), (.slice none 0 0)] [])⟩, none, []⟩,
    ⟨2, ⟨some 73, none, .op (.mv (.tmp 10))⟩, none, []⟩,
    ⟨3, ⟨some 74, none, .op (.nn (.tmp 73))⟩, none, []⟩,
    ⟨4, ⟨some 75, none, .op (.fa 19 (.tmp 74))⟩, none, []⟩,
    ⟨5, ⟨some 76, none, .op (.ld none (.tmp 75))⟩, none, []⟩,
    ⟨6, ⟨some 6, none, .op (.mv (.const (.int .u8 0)))⟩, none, []⟩,
    ⟨7, ⟨none, none, .op (.st 1 (.tmp 7) (.tmp 71))⟩, none, [(none, .tmp 75, 76, none)]⟩,
    ⟨8, ⟨none, none, .op (.st 3 (.tmp 8) (.tmp 72))⟩, none, [(none, .tmp 75, 76, none)]⟩,
    ⟨9, ⟨some 9, none, .op (.mv (.tmp 76))⟩, none, []⟩]
def c50_12 : C := .reg [⟨some 78, none, .op (.mv (.tmp 10))⟩,
    ⟨some 79, none, .call 99 [.tmp 78]⟩,
    ⟨some 77, none, .op (.mv (.tmp 79))⟩,
    ⟨some 80, none, .op (.ext (.tmp 77) 0)⟩,
    ⟨some 81, none, .op (.ext (.tmp 77) 1)⟩,
    ⟨some 82, none, .op (.ext (.tmp 77) 2)⟩,
    ⟨some 13, none, .op (.new [(.slice none 0 0)])⟩,
    ⟨some 14, none, .op (.new [(.int .i64 0), (.slice none 0 0), (.slice none 0 0)])⟩,
    ⟨some 12, none, .op (.mv (.tmp 80))⟩,
    ⟨none, none, .op (.st 1 (.tmp 13) (.tmp 81))⟩,
    ⟨none, none, .op (.st 3 (.tmp 14) (.tmp 82))⟩]
def c50_13 : C := .reg [⟨some 83, none, .op (.mv (.tmp 12))⟩,
    ⟨some 84, none, .op (.bin .eql (.tmp 83) (.const (.int .u8 1)))⟩,
    ⟨some 85, none, .op (.mv (.tmp 84))⟩,
    ⟨some 86, (some (85, true)), .op (.fa 0 (.tmp 13))⟩,
    ⟨some 87, (some (85, true)), .op (.ld none (.tmp 86))⟩,
    ⟨some 88, (some (85, true)), .op (.len (.tmp 87))⟩,
    ⟨some 89, (some (85, true)), .op (.bin .gtr (.tmp 88) (.const (.int .i64 65536)))⟩,
    ⟨some 90, (some (85, true)), .op (.mv (.tmp 89))⟩,
    ⟨some 91, (some (90, false)), .op (.fa 0 (.tmp 13))⟩,
    ⟨some 92, (some (90, false)), .op (.ld none (.tmp 91))⟩,
    ⟨some 93, (some (90, false)), .call 100 [.tmp 92, .func 101]⟩,
    ⟨some 94, (some (85, true)), .op (.pick (.tmp 90) (.const (.bool true)) (.tmp 93))⟩,
    ⟨some 95, none, .op (.pick (.tmp 85) (.tmp 94) (.const (.bool false)))⟩]
def c50_14 : C := .reg [⟨some 96, none, .op (.mk [(.slice none 0 0)] [])⟩,
    ⟨some 97, none, .op (.mk [(.int .i64 0), (.slice none 0 0), (.slice none 0 0)] [])⟩,
    ⟨some 6, none, .op (.mv (.const (.int .u8 0)))⟩,
    ⟨none, none, .op (.st 1 (.tmp 7) (.tmp 96))⟩,
    ⟨none, none, .op (.st 3 (.tmp 8) (.tmp 97))⟩,
    ⟨some 9, none, .op (.mv (.const (.int .i64 0)))⟩]
def c50_15 : C := .reg [⟨some 98, none, .op (.mv (.tmp 10))⟩,
    ⟨some 99, none, .op (.nn (.tmp 98))⟩,
    ⟨some 100, none, .op (.fa 19 (.tmp 99))⟩,
    ⟨some 101, none, .op (.ld none (.tmp 100))⟩,
    ⟨some 102, none, .op (.bin .neq (.tmp 101) (.const (.int .i64 0)))⟩,
    ⟨some 103, none, .op (.mv (.tmp 102))⟩,
    ⟨some 104, (some (103, true)), .op (.mv (.tmp 12))⟩,
    ⟨some 105, (some (103, true)), .op (.bin .eql (.tmp 104) (.const (.int .u8 0)))⟩,
    ⟨some 106, none, .op (.pick (.tmp 103) (.tmp 105) (.const (.bool false)))⟩]
def c50_16 : C := .regD 0 [⟨0, ⟨some 107, none, .op (.mk [(.slice none 0 0)] [])⟩, none, []⟩,
    ⟨1, ⟨some 108, none, .op (.mk [(.int .i64 0), (.slice none 0 0), (.slice none 0 0)] [])⟩, none, []⟩,
    ⟨2, ⟨some 109, none, .op (.mv (.tmp 10))⟩, none, []⟩,
    ⟨3, ⟨some 110, none, .op (.nn (.tmp 109))⟩, none, []⟩,
    ⟨4, ⟨some 111, none, .op (.fa 19 (.tmp 110))⟩, none, []⟩,
    ⟨5, ⟨some 112, none, .op (.ld none (.tmp 111))⟩, none, []⟩,
    ⟨6, ⟨some 6, none, .op (.mv (.const (.int .u8 0)))⟩, none, []⟩,
    ⟨7, ⟨none, none, .op (.st 1 (.tmp 7) (.tmp 107))⟩, none, [(none, .tmp 111, 112, none)]⟩,
    ⟨8, ⟨none, none, .op (.st 3 (.tmp 8) (.tmp 108))⟩, none, [(none, .tmp 111, 112, none)]⟩,
    ⟨9, ⟨some 9, none, .op (.mv (.tmp 112))⟩, none, []⟩]
def c50_17 : C := .regD 0 [⟨0, ⟨some 113, none, .op (.mv (.tmp 12))⟩, none, []⟩,
    ⟨1, ⟨some 114, none, .op (.ld (some 1) (.tmp 13))⟩, none, []⟩,
    ⟨2, ⟨some 115, none, .op (.ld (some 3) (.tmp 14))⟩, none, []⟩,
    ⟨3, ⟨some 6, none, .op (.mv (.tmp 113))⟩, none, []⟩,
    ⟨4, ⟨none, none, .op (.st 1 (.tmp 7) (.tmp 114))⟩, none, [(some 3, .tmp 14, 115, none)]⟩,
    ⟨5, ⟨none, none, .op (.st 3 (.tmp 8) (.tmp 115))⟩, none, []⟩,
    ⟨6, ⟨some 9, none, .op (.mv (.const (.int .i64 0)))⟩, none, []⟩]
def c50 : Fn' := ⟨(.seq c50_0 (.seq (.seq c50_1 (.cond (.tmp 36) (.seq c50_2 .ret) .skip)) (.seq c50_3 (.seq (.seq c50_4 (.block 0 (.loop (.seq c50_5 (.seq (.cond (.tmp 53) .skip (.exit 0)) (.seq (.block 1 (.seq c50_6 c50_7)) c50_8)))))) (.seq (.seq c50_9 (.seq c50_10 (.cond (.tmp 70) (.seq c50_11 .ret) .skip))) (.seq c50_12 (.seq (.seq c50_13 (.cond (.tmp 95) (.seq c50_14 .ret) .skip)) (.seq (.seq c50_15 (.cond (.tmp 106) (.seq c50_16 .ret) .skip)) (.seq c50_17 .ret))))))))), [.tmp 6, .cell 7 (some 1), .cell 8 (some 3), .tmp 9]⟩
theorem comp50 : compFn Tryz.prog 50 = some c50 := by kernel_rfl

def c96_0 : C := .reg [⟨some 4, none, .op (.new [(.int .i64 0), (.slice none 0 0), (.slice none 0 0), (.slice none 0 0), (.slice none 0 0), (.slice none 0 0)])⟩]
def c96_1 : C := .reg [⟨some 5, none, .op (.mv (.tmp 0))⟩,
    ⟨some 6, none, .op (.mv (.tmp 1))⟩,
    ⟨some 7, none, .op (.mk [(.int .u32 0), (.int .u8 0)] [(0, 1, .tmp 6)])⟩,
    ⟨some 8, none, .op (.mkSl (reps 1 [(.int .u32 0), (.int .u8 0)]) 1 [(0, 2, .tmp 7)])⟩,
    ⟨some 9, none, .op (.mv (.tmp 0))⟩,
    ⟨some 10, none, .op (.bin .mul (.const (.int .i64 2)) (.tmp 9))⟩,
    ⟨some 11, none, .op (.bin .add (.const (.int .i64 2)) (.tmp 10))⟩,
    ⟨some 12, none, .op (.conv .u32 (.tmp 11))⟩,
    ⟨some 13, none, .op (.mkSl (reps 1 [(.int .u32 0)]) 1 [(0, 1, .tmp 12)])⟩,
    ⟨some 14, none, .op (.mk [(.int .i64 0), (.slice none 0 0), (.slice none 0 0), (.slice none 0 0), (.slice none 0 0), (.slice none 0 0)] [(0, 1, .tmp 5), (1, 1, .tmp 8), (4, 1, .tmp 13)])⟩,
    ⟨none, none, .op (.st 6 (.tmp 4) (.tmp 14))⟩]
def c96 : Fn' := ⟨(.seq c96_0 (.seq c96_1 .ret)), [.cell 4 (some 6)]⟩
theorem comp96 : compFn Tryz.prog 96 = some c96 := by kernel_rfl

def c98_0 : C := .reg [⟨some 11, none, .op (.mv (.tmp 0))⟩,
    ⟨some 12, none, .op (.nn (.tmp 11))⟩,
    ⟨some 13, none, .op (.fa 6 (.tmp 12))⟩,
    ⟨some 14, none, .op (.ld (some 6) (.tmp 13))⟩,
    ⟨some 15, none, .call 136 [.tmp 14, .const (.int .i64 1)]⟩,
    ⟨some 10, none, .op (.mv (.tmp 15))⟩,
    ⟨some 16, none, .op (.ext (.tmp 10) 0)⟩,
    ⟨some 17, none, .op (.ext (.tmp 10) 1)⟩,
    ⟨some 2, none, .op (.mv (.tmp 16))⟩,
    ⟨some 3, none, .op (.mv (.tmp 17))⟩]
def c98_1 : C := .reg [⟨some 18, none, .op (.mv (.tmp 3))⟩,
    ⟨some 19, none, .op (.bin .neq (.tmp 18) (.const (.int .i64 0)))⟩]
def c98_2 : C := .reg [⟨some 20, none, .op (.mv (.tmp 0))⟩,
    ⟨some 21, none, .op (.mv (.tmp 3))⟩,
    ⟨some 22, none, .op (.nn (.tmp 20))⟩,
    ⟨some 23, none, .op (.fa 19 (.tmp 22))⟩,
    ⟨none, none, .op (.st 1 (.tmp 23) (.tmp 21))⟩]
def c98_3 : C := .reg [⟨some 25, none, .op (.mv (.tmp 0))⟩,
    ⟨some 26, none, .op (.nn (.tmp 25))⟩,
    ⟨some 27, none, .op (.fa 6 (.tmp 26))⟩,
    ⟨some 28, none, .op (.ld (some 6) (.tmp 27))⟩,
    ⟨some 29, none, .call 137 [.tmp 28, .const (.int .i64 1)]⟩,
    ⟨some 24, none, .op (.mv (.tmp 29))⟩,
    ⟨some 30, none, .op (.ext (.tmp 24) 0)⟩,
    ⟨some 31, none, .op (.ext (.tmp 24) 1)⟩,
    ⟨some 4, none, .op (.mv (.tmp 30))⟩,
    ⟨some 5, none, .op (.mv (.tmp 31))⟩]
def c98_4 : C := .reg [⟨some 33, none, .op (.mv (.tmp 0))⟩,
    ⟨some 34, none, .op (.mv (.tmp 4))⟩,
    ⟨some 35, none, .call 17 [.tmp 34]⟩,
    ⟨some 32, none, .op (.mv (.tmp 35))⟩,
    ⟨some 36, none, .op (.ext (.tmp 32) 0)⟩,
    ⟨some 37, none, .op (.ext (.tmp 32) 1)⟩,
    ⟨some 38, none, .op (.nn (.tmp 33))⟩,
    ⟨some 39, none, .op (.fa 15 (.tmp 38))⟩,
    ⟨none, none, .op (.st 1 (.tmp 39) (.tmp 36))⟩]
def c98_5 : C := .reg [⟨some 40, none, .op (.mv (.tmp 2))⟩,
    ⟨some 41, none, .op (.len (.tmp 40))⟩,
    ⟨some 42, none, .op (.mv (.const (.int .i64 0)))⟩]
def c98_6 : C := .reg [⟨some 43, none, .op (.bin .lss (.tmp 42) (.tmp 41))⟩]
def c98_7 : C := .reg [⟨some 44, none, .op (.ia 1 (.tmp 40) (.tmp 42))⟩,
    ⟨some 45, none, .op (.ld none (.tmp 44))⟩,
    ⟨some 7, none, .op (.mv (.tmp 45))⟩]
def c98_8 : C := .reg [⟨some 46, none, .op (.mv (.tmp 0))⟩,
    ⟨some 47, none, .op (.mv (.tmp 7))⟩,
    ⟨some 48, none, .call 146 [.tmp 46, .tmp 47]⟩]
def c98_9 : C := .reg [⟨some 49, none, .op (.bin .add (.tmp 42) (.const (.int .i64 1)))⟩,
    ⟨some 42, none, .op (.mv (.tmp 49))⟩]
def c98_10 : C := .reg [⟨some 50, none, .op (.mv (.tmp 0))⟩,
    ⟨some 51, none, .op (.nn (.tmp 50))⟩,
    ⟨some 52, none, .op (.fa 0 (.tmp 51))⟩,
    ⟨some 53, none, .op (.fa 5 (.tmp 52))⟩,
    ⟨some 54, none, .op (.ld none (.tmp 53))⟩,
    ⟨some 55, none, .op (.len (.tmp 54))⟩,
    ⟨some 56, none, .op (.mv (.const (.int .i64 0)))⟩]
def c98_11 : C := .reg [⟨some 57, none, .op (.bin .lss (.tmp 56) (.tmp 55))⟩]
def c98_12 : C := .reg [⟨some 58, none, .op (.ia 1 (.tmp 54) (.tmp 56))⟩,
    ⟨some 59, none, .op (.ld none (.tmp 58))⟩,
    ⟨some 9, none, .op (.mv (.tmp 59))⟩]
def c98_13 : C := .reg [⟨some 60, none, .op (.mv (.tmp 0))⟩,
    ⟨some 61, none, .op (.mv (.tmp 0))⟩,
    ⟨some 62, none, .op (.mv (.tmp 9))⟩,
    ⟨some 63, none, .call 147 [.tmp 61, .tmp 62]⟩,
    ⟨some 64, none, .op (.mkSl (reps 1 [(.int .i64 0)]) 1 [(0, 1, .tmp 63)])⟩,
    ⟨some 65, none, .call 146 [.tmp 60, .tmp 64]⟩]
def c98_14 : C := .reg [⟨some 66, none, .op (.bin .add (.tmp 56) (.const (.int .i64 1)))⟩,
    ⟨some 56, none, .op (.mv (.tmp 66))⟩]
def c98 : Fn' := ⟨(.seq c98_0 (.seq (.seq c98_1 (.cond (.tmp 19) (.seq c98_2 .ret) .skip)) (.seq c98_3 (.seq c98_4 (.seq (.seq c98_5 (.block 0 (.loop (.seq c98_6 (.seq (.cond (.tmp 43) .skip (.exit 0)) (.seq (.block 1 (.seq c98_7 c98_8)) c98_9)))))) (.seq c98_10 (.block 2 (.loop (.seq c98_11 (.seq (.cond (.tmp 57) .skip (.exit 2)) (.seq (.block 3 (.seq c98_12 c98_13)) c98_14))))))))))), []⟩
theorem comp98 : compFn Tryz.prog 98 = some c98 := by kernel_rfl

def c99_0 : C := .reg [⟨some 2, none, .op (.mv (.const (.int .u8 0)))⟩,
    ⟨some 3, none, .op (.new [(.slice none 0 0)])⟩,
    ⟨some 4, none, .op (.new [(.int .i64 0), (.slice none 0 0), (.slice none 0 0)])⟩]
def c99_1 : C := .regD 1 [⟨0, ⟨some 7, none, .op (.mv (.tmp 0))⟩, none, []⟩,
    ⟨1, ⟨some 8, none, .op (.mv (.tmp 0))⟩, none, []⟩,
    ⟨3, ⟨some 10, none, .op (.mv (.tmp 0))⟩, none, []⟩,
    ⟨4, ⟨some 11, none, .op (.mv (.tmp 0))⟩, none, []⟩,
    ⟨5, ⟨some 12, none, .op (.nn (.tmp 11))⟩, none, []⟩,
    ⟨6, ⟨some 13, none, .op (.fa 0 (.tmp 12))⟩, none, []⟩,
    ⟨7, ⟨some 14, none, .op (.fa 4 (.tmp 13))⟩, none, []⟩,
    ⟨8, ⟨some 15, none, .op (.ld none (.tmp 14))⟩, none, []⟩,
    ⟨9, ⟨some 16, none, .op (.mv (.tmp 0))⟩, none, []⟩,
    ⟨10, ⟨some 17, none, .op (.nn (.tmp 16))⟩, none, []⟩,
    ⟨11, ⟨some 18, none, .op (.fa 12 (.tmp 17))⟩, none, []⟩,
    ⟨12, ⟨some 19, none, .op (.ld none (.tmp 18))⟩, none, []⟩,
    ⟨13, ⟨some 20, none, .op (.ia 1 (.tmp 15) (.tmp 19))⟩, none, []⟩,
    ⟨14, ⟨some 21, none, .op (.ld none (.tmp 20))⟩, none, []⟩,
    ⟨2, ⟨some 9, none, .call 149 [.tmp 8, .const (.int .i64 0)]⟩, none, [(none, .tmp 20, 21, none), (none, .tmp 18, 19, none), (none, .tmp 14, 15, none)]⟩,
    ⟨15, ⟨some 22, none, .call 147 [.tmp 10, .tmp 21]⟩, none, []⟩,
    ⟨16, ⟨some 23, none, .op (.mkSl (reps 1 [(.int .i64 0)]) 1 [(0, 1, .tmp 22)])⟩, some 0, []⟩,
    ⟨17, ⟨some 24, none, .op (.app 1 8 (.tmp 9) (.tmp 23))⟩, none, []⟩,
    ⟨18, ⟨some 25, none, .call 148 [.tmp 7, .tmp 24]⟩, none, []⟩]
def c99_2 : C := .reg [⟨some 27, none, .op (.bin .eql (.tmp 25) (.const (.int .u8 1)))⟩,
    ⟨some 26, none, .op (.mv (.tmp 27))⟩]
def c99_3 : C := .reg [⟨some 29, none, .op (.mv (.tmp 0))⟩,
    ⟨some 30, none, .call 150 [.tmp 29]⟩,
    ⟨some 28, none, .op (.mv (.tmp 30))⟩,
    ⟨some 31, none, .op (.ext (.tmp 28) 0)⟩,
    ⟨some 32, none, .op (.ext (.tmp 28) 1)⟩,
    ⟨some 5, none, .op (.mv (.tmp 31))⟩,
    ⟨some 6, none, .op (.mv (.tmp 32))⟩]
def c99_4 : C := .regD 1 [⟨0, ⟨some 33, none, .op (.mk [(.slice none 0 0)] [])⟩, none, []⟩,
    ⟨1, ⟨some 34, none, .op (.mv (.tmp 0))⟩, none, []⟩,
    ⟨2, ⟨some 35, none, .op (.nn (.tmp 34))⟩, none, []⟩,
    ⟨3, ⟨some 36, none, .op (.fa 12 (.tmp 35))⟩, none, []⟩,
    ⟨4, ⟨some 37, none, .op (.ld none (.tmp 36))⟩, none, []⟩,
    ⟨5, ⟨some 38, none, .op (.mv (.tmp 5))⟩, none, []⟩,
    ⟨6, ⟨some 39, none, .op (.mv (.tmp 6))⟩, none, []⟩,
    ⟨9, ⟨some 2, none, .op (.mv (.const (.int .u8 2)))⟩, none, []⟩,
    ⟨10, ⟨none, none, .op (.st 1 (.tmp 3) (.tmp 33))⟩, none, [(none, .tmp 36, 37, none)]⟩,
    ⟨7, ⟨some 40, none, .op (.mkSl (reps 1 [(.slice none 0 0)]) 1 [(0, 1, .tmp 39)])⟩, some 0, []⟩,
    ⟨8, ⟨some 41, none, .op (.mk [(.int .i64 0), (.slice none 0 0), (.slice none 0 0)] [(0, 1, .tmp 37), (1, 1, .tmp 38), (2, 1, .tmp 40)])⟩, none, []⟩,
    ⟨11, ⟨none, none, .op (.st 3 (.tmp 4) (.tmp 41))⟩, none, []⟩]
def c99_5 : C := .reg [⟨some 43, none, .op (.bin .eql (.tmp 25) (.const (.int .u8 2)))⟩,
    ⟨some 42, none, .op (.mv (.tmp 43))⟩]
def c99_6 : C := .reg [⟨some 44, none, .op (.mv (.tmp 0))⟩,
    ⟨some 45, none, .call 151 [.tmp 44]⟩,
    ⟨some 46, none, .op (.ext (.tmp 45) 0)⟩,
    ⟨some 47, none, .op (.ext (.tmp 45) 1)⟩,
    ⟨some 48, none, .op (.ext (.tmp 45) 2)⟩,
    ⟨some 2, none, .op (.mv (.tmp 46))⟩,
    ⟨none, none, .op (.st 1 (.tmp 3) (.tmp 47))⟩,
    ⟨none, none, .op (.st 3 (.tmp 4) (.tmp 48))⟩]
def c99_7 : C := .reg [⟨some 49, none, .op (.mk [(.slice none 0 0)] [])⟩,
    ⟨some 50, none, .op (.mk [(.int .i64 0), (.slice none 0 0), (.slice none 0 0)] [])⟩,
    ⟨some 2, none, .op (.mv (.const (.int .u8 0)))⟩,
    ⟨none, none, .op (.st 1 (.tmp 3) (.tmp 49))⟩,
    ⟨none, none, .op (.st 3 (.tmp 4) (.tmp 50))⟩]
def c99 : Fn' := ⟨(.seq c99_0 (.seq (.seq c99_1 (.block 0 (.seq c99_2 (.cond (.tmp 26) (.seq c99_3 (.seq c99_4 .ret)) (.seq c99_5 (.cond (.tmp 42) (.seq c99_6 .ret) .skip)))))) (.seq c99_7 .ret))), [.tmp 2, .cell 3 (some 1), .cell 4 (some 3)]⟩
theorem comp99 : compFn Tryz.prog 99 = some c99 := by kernel_rfl

def c101_0 : C := .reg [⟨some 2, none, .op (.mv (.const (.bool false)))⟩]
def c101_1 : C := .reg [⟨some 3, none, .op (.mv (.tmp 0))⟩,
    ⟨some 4, none, .op (.len (.tmp 3))⟩,
    ⟨some 5, none, .op (.bin .gtr (.tmp 4) (.const (.int .i64 4096)))⟩,
    ⟨some 2, none, .op (.mv (.tmp 5))⟩]
def c101 : Fn' := ⟨(.seq c101_0 (.seq c101_1 .ret)), [.tmp 2]⟩
theorem comp101 : compFn Tryz.prog 101 = some c101 := by kernel_rfl

def c146_0 : C := .reg [⟨some 4, none, .op (.mv (.const (.bool false)))⟩]
def c146_1 : C := .reg [⟨some 5, none, .op (.mv (.tmp 0))⟩,
    ⟨some 6, none, .op (.nn (.tmp 5))⟩,
    ⟨some 7, none, .op (.fa 19 (.tmp 6))⟩,
    ⟨some 8, none, .op (.ld none (.tmp 7))⟩,
    ⟨some 9, none, .op (.bin .eql (.tmp 8) (.const (.int .i64 0)))⟩,
    ⟨some 10, none, .op (.mv (.tmp 9))⟩,
    ⟨some 11, (some (10, true)), .op (.mv (.tmp 0))⟩,
    ⟨some 12, (some (10, true)), .op (.nn (.tmp 11))⟩,
    ⟨some 13, (some (10, true)), .op (.fa 15 (.tmp 12))⟩,
    ⟨some 14, (some (10, true)), .op (.ld none (.tmp 13))⟩,
    ⟨some 15, (some (10, true)), .op (.mv (.tmp 1))⟩,
    ⟨some 16, (some (10, true)), .call 20 [.tmp 14, .tmp 15]⟩,
    ⟨some 17, (some (10, true)), .op (.bin .neq (.tmp 16) (.const (.int .i64 0)))⟩,
    ⟨some 18, none, .op (.pick (.tmp 10) (.tmp 17) (.const (.bool false)))⟩]
def c146_2 : C := .reg [⟨some 19, none, .op (.mv (.tmp 0))⟩,
    ⟨some 20, none, .op (.nn (.tmp 19))⟩,
    ⟨some 21, none, .op (.fa 19 (.tmp 20))⟩,
    ⟨none, none, .op (.st 1 (.tmp 21) (.const (.int .i64 3)))⟩]
def c146_3 : C := .reg [⟨some 22, none, .op (.mv (.tmp 0))⟩,
    ⟨some 23, none, .op (.nn (.tmp 22))⟩,
    ⟨some 24, none, .op (.fa 19 (.tmp 23))⟩,
    ⟨some 25, none, .op (.ld none (.tmp 24))⟩,
    ⟨some 26, none, .op (.bin .eql (.tmp 25) (.const (.int .i64 0)))⟩,
    ⟨some 4, none, .op (.mv (.tmp 26))⟩]
def c146 : Fn' := ⟨(.seq c146_0 (.seq (.seq c146_1 (.cond (.tmp 18) c146_2 .skip)) (.seq c146_3 .ret))), [.tmp 4]⟩
theorem comp146 : compFn Tryz.prog 146 = some c146 := by kernel_rfl

def c147_0 : C := .reg [⟨some 4, none, .op (.mv (.const (.int .i64 0)))⟩]
def c147_1 : C := .reg [⟨some 8, none, .op (.mv (.tmp 0))⟩,
    ⟨some 9, none, .op (.nn (.tmp 8))⟩,
    ⟨some 10, none, .op (.fa 6 (.tmp 9))⟩,
    ⟨some 11, none, .op (.ld (some 6) (.tmp 10))⟩,
    ⟨some 12, none, .op (.mv (.tmp 1))⟩,
    ⟨some 13, none, .call 176 [.tmp 11, .tmp 12, .const (.int .i64 0)]⟩,
    ⟨some 7, none, .op (.mv (.tmp 13))⟩,
    ⟨some 14, none, .op (.ext (.tmp 7) 0)⟩,
    ⟨some 15, none, .op (.ext (.tmp 7) 1)⟩,
    ⟨some 5, none, .op (.mv (.tmp 14))⟩,
    ⟨some 6, none, .op (.mv (.tmp 15))⟩]
def c147_2 : C := .reg [⟨some 16, none, .op (.mv (.tmp 5))⟩,
    ⟨some 4, none, .op (.mv (.tmp 16))⟩]
def c147 : Fn' := ⟨(.seq c147_0 (.seq c147_1 (.seq c147_2 .ret))), [.tmp 4]⟩
theorem comp147 : compFn Tryz.prog 147 = some c147 := by kernel_rfl

def c148_0 : C := .reg [⟨some 4, none, .op (.mv (.const (.int .u8 0)))⟩]
def c148_1 : C := .reg [⟨some 7, none, .op (.mv (.tmp 0))⟩,
    ⟨some 8, none, .op (.nn (.tmp 7))⟩,
    ⟨some 9, none, .op (.fa 19 (.tmp 8))⟩,
    ⟨some 10, none, .op (.ld none (.tmp 9))⟩,
    ⟨some 11, none, .op (.bin .neq (.tmp 10) (.const (.int .i64 0)))⟩,
    ⟨some 12, none, .op (.mv (.tmp 11))⟩,
    ⟨some 13, (some (12, false)), .op (.mv (.tmp 0))⟩,
    ⟨some 14, (some (12, false)), .op (.nn (.tmp 13))⟩,
    ⟨some 15, (some (12, false)), .op (.fa 20 (.tmp 14))⟩,
    ⟨some 16, (some (12, false)), .op (.ld none (.tmp 15))⟩,
    ⟨some 17, none, .op (.pick (.tmp 12) (.const (.bool true)) (.tmp 16))⟩]
def c148_2 : C := .reg [⟨some 4, none, .op (.mv (.const (.int .u8 0)))⟩]
def c148_3 : C := .regD 0 [⟨0, ⟨some 18, none, .op (.mv (.tmp 0))⟩, none, []⟩,
    ⟨1, ⟨some 19, none, .op (.nn (.tmp 18))⟩, none, []⟩,
    ⟨2, ⟨some 20, none, .op (.fa 14 (.tmp 19))⟩, none, []⟩,
    ⟨3, ⟨some 21, none, .op (.ld none (.tmp 20))⟩, none, []⟩,
    ⟨4, ⟨some 22, none, .op (.mv (.tmp 0))⟩, none, []⟩,
    ⟨5, ⟨some 23, none, .op (.nn (.tmp 22))⟩, none, []⟩,
    ⟨6, ⟨some 24, none, .op (.fa 13 (.tmp 23))⟩, none, []⟩,
    ⟨7, ⟨some 25, none, .op (.ld none (.tmp 24))⟩, none, []⟩,
    ⟨8, ⟨some 26, none, .op (.bin .eql (.tmp 21) (.tmp 25))⟩, none, []⟩,
    ⟨9, ⟨some 27, none, .op (.mv (.tmp 26))⟩, none, []⟩,
    ⟨10, ⟨some 28, (some (27, true)), .op (.mv (.tmp 0))⟩, none, []⟩,
    ⟨11, ⟨some 29, (some (27, true)), .op (.nn (.tmp 28))⟩, none, []⟩,
    ⟨12, ⟨some 30, (some (27, true)), .op (.fa 13 (.tmp 29))⟩, none, []⟩,
    ⟨13, ⟨some 31, (some (27, true)), .op (.ld none (.tmp 30))⟩, none, []⟩,
    ⟨14, ⟨some 32, (some (27, true)), .op (.bin .lss (.tmp 31) (.const (.int .i64 1048576)))⟩, none, []⟩,
    ⟨15, ⟨some 33, none, .op (.pick (.tmp 27) (.tmp 32) (.const (.bool false)))⟩, none, []⟩]
def c148_4 : C := .reg [⟨some 34, none, .op (.mv (.tmp 0))⟩,
    ⟨some 35, none, .op (.nn (.tmp 34))⟩,
    ⟨some 36, none, .op (.fa 20 (.tmp 35))⟩,
    ⟨none, none, .op (.st 1 (.tmp 36) (.const (.bool true)))⟩]
def c148_5 : C := .reg [⟨some 4, none, .op (.mv (.const (.int .u8 0)))⟩]
def c148_6 : C := .reg [⟨some 37, none, .op (.mv (.tmp 0))⟩,
    ⟨some 38, none, .op (.nn (.tmp 37))⟩,
    ⟨some 39, none, .op (.fa 14 (.tmp 38))⟩,
    ⟨some 40, none, .op (.ld none (.tmp 39))⟩,
    ⟨some 41, none, .op (.bin .add (.tmp 40) (.const (.int .i64 1)))⟩,
    ⟨some 42, none, .op (.nn (.tmp 37))⟩,
    ⟨some 43, none, .op (.fa 14 (.tmp 42))⟩,
    ⟨none, none, .op (.st 1 (.tmp 43) (.tmp 41))⟩]
def c148_7 : C := .regD 0 [⟨0, ⟨some 45, none, .op (.mv (.tmp 0))⟩, none, []⟩,
    ⟨1, ⟨some 46, none, .op (.nn (.tmp 45))⟩, none, []⟩,
    ⟨2, ⟨some 47, none, .op (.fa 15 (.tmp 46))⟩, none, []⟩,
    ⟨3, ⟨some 48, none, .op (.ld none (.tmp 47))⟩, none, []⟩,
    ⟨4, ⟨some 49, none, .op (.mv (.tmp 1))⟩, none, []⟩,
    ⟨5, ⟨some 50, none, .op (.mv (.tmp 0))⟩, none, []⟩,
    ⟨6, ⟨some 51, none, .op (.nn (.tmp 50))⟩, none, []⟩,
    ⟨7, ⟨some 52, none, .op (.fa 13 (.tmp 51))⟩, none, []⟩,
    ⟨8, ⟨some 53, none, .op (.ld none (.tmp 52))⟩, none, []⟩,
    ⟨9, ⟨some 54, none, .call 23 [.tmp 48, .tmp 49, .tmp 53]⟩, none, []⟩,
    ⟨10, ⟨some 44, none, .op (.mv (.tmp 54))⟩, none, []⟩,
    ⟨11, ⟨some 55, none, .op (.ext (.tmp 44) 0)⟩, none, []⟩,
    ⟨12, ⟨some 56, none, .op (.ext (.tmp 44) 1)⟩, none, []⟩,
    ⟨13, ⟨some 5, none, .op (.mv (.tmp 55))⟩, none, []⟩,
    ⟨14, ⟨some 6, none, .op (.mv (.tmp 56))⟩, none, []⟩]
def c148_8 : C := .reg [⟨some 57, none, .op (.mv (.tmp 6))⟩,
    ⟨some 58, none, .op (.bin .neq (.tmp 57) (.const (.int .i64 0)))⟩]
def c148_9 : C := .reg [⟨some 59, none, .op (.mv (.tmp 0))⟩,
    ⟨some 60, none, .op (.nn (.tmp 59))⟩,
    ⟨some 61, none, .op (.fa 19 (.tmp 60))⟩,
    ⟨none, none, .op (.st 1 (.tmp 61) (.const (.int .i64 3)))⟩]
def c148_10 : C := .reg [⟨some 4, none, .op (.mv (.const (.int .u8 0)))⟩]
def c148_11 : C := .reg [⟨some 62, none, .op (.mv (.tmp 0))⟩,
    ⟨some 63, none, .op (.mv (.tmp 0))⟩,
    ⟨some 64, none, .op (.nn (.tmp 63))⟩,
    ⟨some 65, none, .op (.fa 20 (.tmp 64))⟩,
    ⟨some 66, none, .op (.ld none (.tmp 65))⟩,
    ⟨some 67, none, .op (.mv (.tmp 66))⟩,
    ⟨some 68, (some (67, false)), .op (.mv (.tmp 5))⟩,
    ⟨some 69, (some (67, false)), .op (.bin .eql (.tmp 68) (.const (.int .u8 0)))⟩,
    ⟨some 70, none, .op (.pick (.tmp 67) (.const (.bool true)) (.tmp 69))⟩,
    ⟨some 71, none, .op (.nn (.tmp 62))⟩,
    ⟨some 72, none, .op (.fa 20 (.tmp 71))⟩,
    ⟨none, none, .op (.st 1 (.tmp 72) (.tmp 70))⟩]
def c148_12 : C := .reg [⟨some 73, none, .op (.mv (.tmp 5))⟩,
    ⟨some 4, none, .op (.mv (.tmp 73))⟩]
def c148 : Fn' := ⟨(.seq c148_0 (.seq (.seq c148_1 (.cond (.tmp 17) (.seq c148_2 .ret) .skip)) (.seq (.seq c148_3 (.cond (.tmp 33) (.seq c148_4 (.seq c148_5 .ret)) .skip)) (.seq c148_6 (.seq c148_7 (.seq (.seq c148_8 (.cond (.tmp 58) (.seq c148_9 (.seq c148_10 .ret)) .skip)) (.seq c148_11 (.seq c148_12 .ret)))))))), [.tmp 4]⟩
theorem comp148 : compFn Tryz.prog 148 = some c148 := by kernel_rfl

def c149_0 : C := .reg [⟨some 4, none, .op (.mv (.const (.slice none 0 0)))⟩]
def c149_1 : C := .reg [⟨some 8, none, .op (.mv (.tmp 1))⟩,
    ⟨some 9, none, .op (.bin .eql (.tmp 8) (.const (.int .i64 0)))⟩]
def c149_2 : C := .reg [⟨some 10, none, .op (.mv (.tmp 0))⟩,
    ⟨some 11, none, .op (.nn (.tmp 10))⟩,
    ⟨some 12, none, .op (.fa 0 (.tmp 11))⟩,
    ⟨some 13, none, .op (.fa 1 (.tmp 12))⟩,
    ⟨some 14, none, .op (.ld none (.tmp 13))⟩,
    ⟨some 15, none, .op (.len (.tmp 14))⟩,
    ⟨some 16, none, .op (.mv (.const (.int .i64 0)))⟩]
def c149_3 : C := .reg [⟨some 17, none, .op (.bin .lss (.tmp 16) (.tmp 15))⟩]
def c149_4 : C := .reg [⟨some 18, none, .op (.mv (.tmp 16))⟩,
    ⟨some 19, none, .op (.ia 2 (.tmp 14) (.tmp 16))⟩,
    ⟨some 20, none, .op (.ld (some 2) (.tmp 19))⟩,
    ⟨some 6, none, .op (.new [(.int .u32 0), (.int .u8 0)])⟩,
    ⟨some 5, none, .op (.mv (.tmp 18))⟩,
    ⟨none, none, .op (.st 2 (.tmp 6) (.tmp 20))⟩]
def c149_5 : C := .reg [⟨some 21, none, .op (.fa 1 (.tmp 6))⟩,
    ⟨some 22, none, .op (.ld none (.tmp 21))⟩,
    ⟨some 23, none, .op (.bin .neq (.tmp 22) (.const (.int .u8 2)))⟩]
def c149_6 : C := .reg [⟨some 24, none, .op (.mv (.tmp 4))⟩,
    ⟨some 25, none, .op (.mv (.tmp 0))⟩,
    ⟨some 26, none, .op (.mv (.tmp 0))⟩,
    ⟨some 27, none, .op (.mv (.tmp 5))⟩,
    ⟨some 28, none, .op (.fa 1 (.tmp 6))⟩,
    ⟨some 29, none, .op (.ld none (.tmp 28))⟩,
    ⟨some 30, none, .call 181 [.tmp 26, .tmp 27, .tmp 29]⟩,
    ⟨some 31, none, .call 147 [.tmp 25, .tmp 30]⟩,
    ⟨some 32, none, .op (.mkSl (reps 1 [(.int .i64 0)]) 1 [(0, 1, .tmp 31)])⟩,
    ⟨some 33, none, .op (.app 1 8 (.tmp 24) (.tmp 32))⟩,
    ⟨some 4, none, .op (.mv (.tmp 33))⟩]
def c149_7 : C := .reg [⟨some 34, none, .op (.bin .add (.tmp 16) (.const (.int .i64 1)))⟩,
    ⟨some 16, none, .op (.mv (.tmp 34))⟩]
def c149_8 : C := .reg [⟨some 35, none, .op (.mv (.tmp 4))⟩,
    ⟨some 4, none, .op (.mv (.tmp 35))⟩]
def c149_9 : C := .reg [⟨some 36, none, .op (.mv (.tmp 1))⟩,
    ⟨some 7, none, .op (.mv (.tmp 36))⟩]
def c149_10 : C := .reg [⟨some 37, none, .op (.mv (.tmp 7))⟩,
    ⟨some 38, none, .op (.mv (.tmp 0))⟩,
    ⟨some 39, none, .op (.nn (.tmp 38))⟩,
    ⟨some 40, none, .op (.fa 16 (.tmp 39))⟩,
    ⟨some 41, none, .op (.ld none (.tmp 40))⟩,
    ⟨some 42, none, .op (.len (.tmp 41))⟩,
    ⟨some 43, none, .op (.bin .lss (.tmp 37) (.tmp 42))⟩]
def c149_11 : C := .reg [⟨some 46, none, .op (.mv (.tmp 4))⟩,
    ⟨some 47, none, .op (.mv (.tmp 0))⟩,
    ⟨some 48, none, .op (.nn (.tmp 47))⟩,
    ⟨some 49, none, .op (.fa 16 (.tmp 48))⟩,
    ⟨some 50, none, .op (.ld none (.tmp 49))⟩,
    ⟨some 51, none, .op (.mv (.tmp 7))⟩,
    ⟨some 52, none, .op (.ia 1 (.tmp 50) (.tmp 51))⟩,
    ⟨some 53, none, .op (.ld none (.tmp 52))⟩,
    ⟨some 54, none, .op (.mkSl (reps 1 [(.int .i64 0)]) 1 [(0, 1, .tmp 53)])⟩,
    ⟨some 55, none, .op (.app 1 8 (.tmp 46) (.tmp 54))⟩,
    ⟨some 4, none, .op (.mv (.tmp 55))⟩]
def c149_12 : C := .reg [⟨some 44, none, .op (.mv (.tmp 7))⟩,
    ⟨some 45, none, .op (.bin .add (.tmp 44) (.const (.int .i64 1)))⟩,
    ⟨some 7, none, .op (.mv (.tmp 45))⟩]
def c149_13 : C := .reg [⟨some 56, none, .op (.mv (.tmp 4))⟩,
    ⟨some 4, none, .op (.mv (.tmp 56))⟩]
def c149 : Fn' := ⟨(.seq c149_0 (.seq (.seq c149_1 (.cond (.tmp 9) (.seq (.seq c149_2 (.block 0 (.loop (.seq c149_3 (.seq (.cond (.tmp 17) .skip (.exit 0)) (.seq (.block 1 (.seq c149_4 (.seq c149_5 (.cond (.tmp 23) c149_6 .skip)))) c149_7)))))) (.seq c149_8 .ret)) .skip)) (.seq (.seq c149_9 (.block 2 (.loop (.seq (.seq c149_10 (.cond (.tmp 43) .skip (.exit 2))) (.seq (.block 3 c149_11) c149_12))))) (.seq c149_13 .ret)))), [.tmp 4]⟩
theorem comp149 : compFn Tryz.prog 149 = some c149 := by kernel_rfl

def c150_0 : C := .reg [⟨some 2, none, .op (.mv (.const (.slice none 0 0)))⟩,
    ⟨some 3, none, .op (.mv (.const (.slice none 0 0)))⟩]
def c150_1 : C := .regD 1 [⟨0, ⟨some 7, none, .op (.mv (.tmp 0))⟩, none, []⟩,
    ⟨1, ⟨some 8, none, .op (.nn (.tmp 7))⟩, none, []⟩,
    ⟨2, ⟨some 9, none, .op (.fa 6 (.tmp 8))⟩, none, []⟩,
    ⟨3, ⟨some 10, none, .op (.ld (some 6) (.tmp 9))⟩, none, []⟩,
    ⟨4, ⟨some 11, none, .op (.mv (.tmp 0))⟩, none, []⟩,
    ⟨5, ⟨some 12, none, .op (.nn (.tmp 11))⟩, none, []⟩,
    ⟨6, ⟨some 13, none, .op (.fa 12 (.tmp 12))⟩, none, []⟩,
    ⟨7, ⟨some 14, none, .op (.ld none (.tmp 13))⟩, none, []⟩,
    ⟨8, ⟨some 15, none, .op (.mv (.tmp 0))⟩, none, []⟩,
    ⟨9, ⟨some 16, none, .op (.nn (.tmp 15))⟩, none, []⟩,
    ⟨10, ⟨some 17, none, .op (.fa 15 (.tmp 16))⟩, none, []⟩,
    ⟨11, ⟨some 18, none, .op (.ld none (.tmp 17))⟩, none, []⟩,
    ⟨12, ⟨some 19, none, .call 26 [.tmp 18]⟩, none, [(none, .tmp 13, 14, none), (some 6, .tmp 9, 10, none)]⟩,
    ⟨13, ⟨some 20, none, .call 180 [.tmp 10, .tmp 14, .const (.int .i64 1), .tmp 19]⟩, none, []⟩,
    ⟨14, ⟨some 6, none, .op (.mv (.tmp 20))⟩, none, []⟩,
    ⟨15, ⟨some 21, none, .op (.ext (.tmp 6) 0)⟩, none, []⟩,
    ⟨16, ⟨some 22, none, .op (.ext (.tmp 6) 1)⟩, none, []⟩,
    ⟨17, ⟨some 4, none, .op (.new [(.int .i64 0), (.slice none 0 0), (.slice none 0 0)])⟩, some 0, []⟩,
    ⟨18, ⟨none, none, .op (.st 3 (.tmp 4) (.tmp 21))⟩, none, []⟩,
    ⟨19, ⟨some 5, none, .op (.mv (.tmp 22))⟩, none, []⟩]
def c150_2 : C := .regD 0 [⟨0, ⟨some 23, none, .op (.fa 1 (.tmp 4))⟩, none, []⟩,
    ⟨1, ⟨some 24, none, .op (.ld none (.tmp 23))⟩, none, []⟩,
    ⟨2, ⟨some 25, none, .op (.fa 2 (.tmp 4))⟩, none, []⟩,
    ⟨3, ⟨some 26, none, .op (.ld none (.tmp 25))⟩, none, []⟩,
    ⟨4, ⟨some 27, none, .op (.ia 1 (.tmp 26) (.const (.int .i64 0)))⟩, none, []⟩,
    ⟨5, ⟨some 28, none, .op (.ld none (.tmp 27))⟩, none, []⟩,
    ⟨6, ⟨some 2, none, .op (.mv (.tmp 24))⟩, none, []⟩,
    ⟨7, ⟨some 3, none, .op (.mv (.tmp 28))⟩, none, []⟩]
def c150 : Fn' := ⟨(.seq c150_0 (.seq c150_1 (.seq c150_2 .ret))), [.tmp 2, .tmp 3]⟩
theorem comp150 : compFn Tryz.prog 150 = some c150 := by kernel_rfl

def c151_0 : C := .reg [⟨some 2, none, .op (.mv (.const (.int .u8 0)))⟩,
    ⟨some 3, none, .op (.new [(.slice none 0 0)])⟩,
    ⟨some 4, none, .op (.new [(.int .i64 0), (.slice none 0 0), (.slice none 0 0)])⟩]
def c151_1 : C := .reg [⟨some 12, none, .op (.mv (.tmp 0))⟩,
    ⟨some 13, none, .op (.mv (.tmp 0))⟩,
    ⟨some 14, none, .call 182 [.tmp 13]⟩,
    ⟨some 15, none, .op (.mkSl (reps 2 [(.int .i64 0)]) 2 [(0, 1, .const (.int .i64 0)), (1, 1, .tmp 14)])⟩,
    ⟨some 16, none, .op (.nn (.tmp 12))⟩,
    ⟨some 17, none, .op (.fa 16 (.tmp 16))⟩,
    ⟨none, none, .op (.st 1 (.tmp 17) (.tmp 15))⟩]
def c151_2 : C := .reg [⟨some 18, none, .op (.mv (.tmp 0))⟩,
    ⟨some 19, none, .call 183 [.tmp 18]⟩,
    ⟨some 20, none, .op (.un .not (.tmp 19))⟩,
    ⟨some 21, none, .op (.mv (.tmp 20))⟩,
    ⟨some 22, (some (21, true)), .op (.mv (.tmp 0))⟩,
    ⟨some 23, (some (21, true)), .op (.nn (.tmp 22))⟩,
    ⟨some 24, (some (21, true)), .op (.fa 16 (.tmp 23))⟩,
    ⟨some 25, (some (21, true)), .op (.ld none (.tmp 24))⟩,
    ⟨some 26, (some (21, true)), .op (.len (.tmp 25))⟩,
    ⟨some 27, (some (21, true)), .op (.bin .leq (.tmp 26) (.const (.int .i64 256)))⟩,
    ⟨some 28, none, .op (.pick (.tmp 21) (.tmp 27) (.const (.bool false)))⟩]
def c151_3 : C := .reg [⟨some 29, none, .op (.mv (.tmp 0))⟩,
    ⟨some 30, none, .op (.nn (.tmp 29))⟩,
    ⟨some 31, none, .op (.fa 16 (.tmp 30))⟩,
    ⟨some 32, none, .op (.ld none (.tmp 31))⟩,
    ⟨some 33, none, .op (.len (.tmp 32))⟩,
    ⟨some 34, none, .op (.bin .sub (.tmp 33) (.const (.int .i64 1)))⟩,
    ⟨some 5, none, .op (.mv (.tmp 34))⟩]
def c151_4 : C := .reg [⟨some 35, none, .op (.mv (.tmp 0))⟩,
    ⟨some 36, none, .call 183 [.tmp 35]⟩,
    ⟨some 37, none, .op (.un .not (.tmp 36))⟩]
def c151_5 : C := .regD 1 [⟨0, ⟨some 38, none, .op (.mv (.tmp 0))⟩, none, []⟩,
    ⟨1, ⟨some 39, none, .op (.mv (.tmp 0))⟩, none, []⟩,
    ⟨2, ⟨some 40, none, .op (.mv (.tmp 5))⟩, none, []⟩,
    ⟨4, ⟨some 42, none, .op (.mv (.tmp 0))⟩, none, []⟩,
    ⟨5, ⟨some 43, none, .op (.mv (.tmp 0))⟩, none, []⟩,
    ⟨6, ⟨some 44, none, .op (.nn (.tmp 43))⟩, none, []⟩,
    ⟨7, ⟨some 45, none, .op (.fa 0 (.tmp 44))⟩, none, []⟩,
    ⟨8, ⟨some 46, none, .op (.fa 4 (.tmp 45))⟩, none, []⟩,
    ⟨9, ⟨some 47, none, .op (.ld none (.tmp 46))⟩, none, []⟩,
    ⟨10, ⟨some 48, none, .op (.mv (.tmp 0))⟩, none, []⟩,
    ⟨11, ⟨some 49, none, .op (.nn (.tmp 48))⟩, none, []⟩,
    ⟨12, ⟨some 50, none, .op (.fa 12 (.tmp 49))⟩, none, []⟩,
    ⟨13, ⟨some 51, none, .op (.ld none (.tmp 50))⟩, none, []⟩,
    ⟨14, ⟨some 52, none, .op (.ia 1 (.tmp 47) (.tmp 51))⟩, none, []⟩,
    ⟨15, ⟨some 53, none, .op (.ld none (.tmp 52))⟩, none, []⟩,
    ⟨3, ⟨some 41, none, .call 149 [.tmp 39, .tmp 40]⟩, none, [(none, .tmp 52, 53, none), (none, .tmp 50, 51, none), (none, .tmp 46, 47, none)]⟩,
    ⟨16, ⟨some 54, none, .call 147 [.tmp 42, .tmp 53]⟩, none, []⟩,
    ⟨17, ⟨some 55, none, .op (.mkSl (reps 1 [(.int .i64 0)]) 1 [(0, 1, .tmp 54)])⟩, some 0, []⟩,
    ⟨18, ⟨some 56, none, .op (.app 1 8 (.tmp 41) (.tmp 55))⟩, none, []⟩,
    ⟨19, ⟨some 57, none, .call 148 [.tmp 38, .tmp 56]⟩, none, []⟩,
    ⟨20, ⟨some 58, none, .op (.bin .neq (.tmp 57) (.const (.int .u8 1)))⟩, none, []⟩]
def c151_6 : C := .reg [⟨some 60, none, .op (.mv (.tmp 0))⟩,
    ⟨some 61, none, .call 150 [.tmp 60]⟩,
    ⟨some 59, none, .op (.mv (.tmp 61))⟩,
    ⟨some 62, none, .op (.ext (.tmp 59) 0)⟩,
    ⟨some 63, none, .op (.ext (.tmp 59) 1)⟩,
    ⟨some 6, none, .op (.mv (.tmp 62))⟩,
    ⟨some 7, none, .op (.mv (.tmp 63))⟩]
def c151_7 : C := .reg [⟨some 64, none, .op (.mv (.tmp 0))⟩,
    ⟨some 65, none, .op (.nn (.tmp 64))⟩,
    ⟨some 66, none, .op (.fa 18 (.tmp 65))⟩,
    ⟨some 67, none, .op (.ld none (.tmp 66))⟩,
    ⟨some 68, none, .op (.bin .add (.tmp 67) (.const (.int .i64 1)))⟩,
    ⟨some 69, none, .op (.nn (.tmp 64))⟩,
    ⟨some 70, none, .op (.fa 18 (.tmp 69))⟩,
    ⟨none, none, .op (.st 1 (.tmp 70) (.tmp 68))⟩]
def c151_8 : C := .reg [⟨some 72, none, .op (.mv (.tmp 0))⟩,
    ⟨some 73, none, .op (.mv (.tmp 5))⟩,
    ⟨some 74, none, .op (.mv (.tmp 0))⟩,
    ⟨some 75, none, .op (.nn (.tmp 74))⟩,
    ⟨some 76, none, .op (.fa 18 (.tmp 75))⟩,
    ⟨some 77, none, .op (.ld none (.tmp 76))⟩,
    ⟨some 78, none, .op (.mv (.tmp 6))⟩,
    ⟨some 79, none, .op (.mv (.tmp 7))⟩,
    ⟨some 80, none, .op (.mk [(.int .i64 0), (.int .i64 0), (.slice none 0 0), (.slice none 0 0), (.pointer none)] [(0, 1, .tmp 73), (1, 1, .tmp 77), (2, 1, .tmp 78), (3, 1, .tmp 79), (4, 1, .const (.pointer none))])⟩,
    ⟨some 81, none, .op (.box (.tmp 80))⟩,
    ⟨some 82, none, .call 184 [.tmp 72, .tmp 81]⟩,
    ⟨some 71, none, .op (.mv (.tmp 82))⟩,
    ⟨some 83, none, .op (.ext (.tmp 71) 0)⟩,
    ⟨some 84, none, .op (.ext (.tmp 71) 1)⟩,
    ⟨some 8, none, .op (.new [(.int .i64 0), (.slice none 0 0), (.slice none 0 0)])⟩,
    ⟨none, none, .op (.st 3 (.tmp 8) (.tmp 83))⟩,
    ⟨some 9, none, .op (.mv (.tmp 84))⟩]
def c151_9 : C := .reg [⟨some 85, none, .op (.mv (.tmp 9))⟩]
def c151_10 : C := .regD 0 [⟨0, ⟨some 86, none, .op (.mk [(.slice none 0 0)] [])⟩, none, []⟩,
    ⟨1, ⟨some 87, none, .op (.ld (some 3) (.tmp 8))⟩, none, []⟩,
    ⟨2, ⟨some 2, none, .op (.mv (.const (.int .u8 2)))⟩, none, []⟩,
    ⟨3, ⟨none, none, .op (.st 1 (.tmp 3) (.tmp 86))⟩, none, [(some 3, .tmp 8, 87, none)]⟩,
    ⟨4, ⟨none, none, .op (.st 3 (.tmp 4) (.tmp 87))⟩, none, []⟩]
def c151_11 : C := .regD 1 [⟨0, ⟨some 88, none, .op (.mv (.tmp 0))⟩, none, []⟩,
    ⟨1, ⟨some 89, none, .op (.mv (.tmp 0))⟩, none, []⟩,
    ⟨2, ⟨some 90, none, .op (.nn (.tmp 89))⟩, none, []⟩,
    ⟨3, ⟨some 91, none, .op (.fa 16 (.tmp 90))⟩, none, []⟩,
    ⟨4, ⟨some 92, none, .op (.ld none (.tmp 91))⟩, none, []⟩,
    ⟨5, ⟨some 93, none, .op (.mv (.tmp 0))⟩, none, []⟩,
    ⟨6, ⟨some 94, none, .call 182 [.tmp 93]⟩, none, [(none, .tmp 91, 92, none)]⟩,
    ⟨7, ⟨some 95, none, .op (.mkSl (reps 1 [(.int .i64 0)]) 1 [(0, 1, .tmp 94)])⟩, some 0, []⟩,
    ⟨8, ⟨some 96, none, .op (.app 1 8 (.tmp 92) (.tmp 95))⟩, none, []⟩,
    ⟨9, ⟨some 97, none, .op (.nn (.tmp 88))⟩, none, []⟩,
    ⟨10, ⟨some 98, none, .op (.fa 16 (.tmp 97))⟩, none, []⟩,
    ⟨11, ⟨none, none, .op (.st 1 (.tmp 98) (.tmp 96))⟩, none, []⟩]
def c151_12 : C := .reg [⟨some 100, none, .op (.mv (.tmp 0))⟩,
    ⟨some 101, none, .call 185 [.tmp 100]⟩,
    ⟨some 99, none, .op (.mv (.tmp 101))⟩,
    ⟨some 102, none, .op (.ext (.tmp 99) 0)⟩,
    ⟨some 103, none, .op (.ext (.tmp 99) 1)⟩,
    ⟨some 10, none, .op (.mv (.tmp 102))⟩,
    ⟨some 11, none, .op (.mv (.tmp 103))⟩]
def c151_13 : C := .reg [⟨some 104, none, .op (.mv (.tmp 11))⟩,
    ⟨some 105, none, .op (.mv (.tmp 104))⟩,
    ⟨some 106, (some (105, true)), .op (.mv (.tmp 0))⟩,
    ⟨some 107, (some (105, true)), .call 183 [.tmp 106]⟩,
    ⟨some 108, (some (105, true)), .op (.un .not (.tmp 107))⟩,
    ⟨some 109, none, .op (.pick (.tmp 105) (.tmp 108) (.const (.bool false)))⟩]
def c151_14 : C := .reg [⟨some 110, none, .op (.mv (.tmp 0))⟩,
    ⟨some 111, none, .op (.mv (.tmp 10))⟩,
    ⟨some 112, none, .call 186 [.tmp 110, .tmp 111]⟩,
    ⟨some 113, none, .op (.mk [(.int .i64 0), (.slice none 0 0), (.slice none 0 0)] [])⟩,
    ⟨some 2, none, .op (.mv (.const (.int .u8 1)))⟩,
    ⟨none, none, .op (.st 1 (.tmp 3) (.tmp 112))⟩,
    ⟨none, none, .op (.st 3 (.tmp 4) (.tmp 113))⟩]
def c151_15 : C := .reg [⟨some 114, none, .op (.mk [(.slice none 0 0)] [])⟩,
    ⟨some 115, none, .op (.mk [(.int .i64 0), (.slice none 0 0), (.slice none 0 0)] [])⟩,
    ⟨some 2, none, .op (.mv (.const (.int .u8 0)))⟩,
    ⟨none, none, .op (.st 1 (.tmp 3) (.tmp 114))⟩,
    ⟨none, none, .op (.st 3 (.tmp 4) (.tmp 115))⟩]
def c151 : Fn' := ⟨(.seq c151_0 (.seq c151_1 (.seq (.block 0 (.loop (.seq (.seq c151_2 (.cond (.tmp 28) .skip (.exit 0))) (.block 1 (.seq c151_3 (.seq (.block 2 (.loop (.seq (.seq c151_4 (.cond (.tmp 37) .skip (.exit 2))) (.block 3 (.seq (.seq c151_5 (.cond (.tmp 58) (.exit 2) .skip)) (.seq c151_6 (.seq c151_7 (.seq c151_8 (.seq c151_9 (.cond (.tmp 85) (.seq c151_10 .ret) .skip)))))))))) (.seq c151_11 (.seq c151_12 (.seq c151_13 (.cond (.tmp 109) (.seq c151_14 .ret) .skip)))))))))) (.seq c151_15 .ret)))), [.tmp 2, .cell 3 (some 1), .cell 4 (some 3)]⟩
theorem comp151 : compFn Tryz.prog 151 = some c151 := by kernel_rfl

def c181_0 : C := .reg [⟨some 6, none, .op (.mv (.const (.int .u32 0)))⟩]
def c181_1 : C := .reg [⟨some 7, none, .op (.mv (.tmp 0))⟩,
    ⟨some 8, none, .op (.nn (.tmp 7))⟩,
    ⟨some 9, none, .op (.fa 0 (.tmp 8))⟩,
    ⟨some 10, none, .op (.fa 0 (.tmp 9))⟩,
    ⟨some 11, none, .op (.ld none (.tmp 10))⟩,
    ⟨some 12, none, .op (.bin .add (.const (.int .i64 1)) (.tmp 11))⟩,
    ⟨some 13, none, .op (.mv (.tmp 1))⟩,
    ⟨some 14, none, .op (.bin .add (.tmp 12) (.tmp 13))⟩,
    ⟨some 15, none, .op (.conv .u32 (.tmp 14))⟩,
    ⟨some 16, none, .op (.bin .shl (.tmp 15) (.const (.int .u64 1)))⟩,
    ⟨some 17, none, .op (.mv (.tmp 2))⟩,
    ⟨some 18, none, .op (.bin .xor (.tmp 17) (.const (.int .u8 1)))⟩,
    ⟨some 19, none, .op (.conv .u32 (.tmp 18))⟩,
    ⟨some 20, none, .op (.bin .or (.tmp 16) (.tmp 19))⟩,
    ⟨some 6, none, .op (.mv (.tmp 20))⟩]
def c181 : Fn' := ⟨(.seq c181_0 (.seq c181_1 .ret)), [.tmp 6]⟩
theorem comp181 : compFn Tryz.prog 181 = some c181 := by kernel_rfl

def c182_0 : C := .reg [⟨some 2, none, .op (.mv (.const (.int .i64 0)))⟩]
def c182_1 : C := .reg [⟨some 3, none, .op (.mv (.tmp 0))⟩,
    ⟨some 4, none, .op (.nn (.tmp 3))⟩,
    ⟨some 5, none, .op (.fa 19 (.tmp 4))⟩,
    ⟨some 6, none, .op (.ld none (.tmp 5))⟩,
    ⟨some 7, none, .op (.bin .eql (.tmp 6) (.const (.int .i64 0)))⟩,
    ⟨some 8, none, .op (.mv (.tmp 7))⟩,
    ⟨some 9, (some (8, true)), .op (.mv (.tmp 0))⟩,
    ⟨some 10, (some (8, true)), .op (.nn (.tmp 9))⟩,
    ⟨some 11, (some (8, true)), .op (.fa 15 (.tmp 10))⟩,
    ⟨some 12, (some (8, true)), .op (.ld none (.tmp 11))⟩,
    ⟨some 13, (some (8, true)), .call 29 [.tmp 12, .const (.int .i64 1)]⟩,
    ⟨some 14, (some (8, true)), .op (.bin .neq (.tmp 13) (.const (.int .i64 0)))⟩,
    ⟨some 15, none, .op (.pick (.tmp 8) (.tmp 14) (.const (.bool false)))⟩]
def c182_2 : C := .reg [⟨some 16, none, .op (.mv (.tmp 0))⟩,
    ⟨some 17, none, .op (.nn (.tmp 16))⟩,
    ⟨some 18, none, .op (.fa 19 (.tmp 17))⟩,
    ⟨none, none, .op (.st 1 (.tmp 18) (.const (.int .i64 3)))⟩]
def c182_3 : C := .reg [⟨some 19, none, .op (.mv (.tmp 0))⟩,
    ⟨some 20, none, .op (.nn (.tmp 19))⟩,
    ⟨some 21, none, .op (.fa 15 (.tmp 20))⟩,
    ⟨some 22, none, .op (.ld none (.tmp 21))⟩,
    ⟨some 23, none, .call 27 [.tmp 22]⟩,
    ⟨some 2, none, .op (.mv (.tmp 23))⟩]
def c182 : Fn' := ⟨(.seq c182_0 (.seq (.seq c182_1 (.cond (.tmp 15) c182_2 .skip)) (.seq c182_3 .ret))), [.tmp 2]⟩
theorem comp182 : compFn Tryz.prog 182 = some c182 := by kernel_rfl

def c183_0 : C := .reg [⟨some 2, none, .op (.mv (.const (.bool false)))⟩]
def c183_1 : C := .reg [⟨some 3, none, .op (.mv (.tmp 0))⟩,
    ⟨some 4, none, .op (.nn (.tmp 3))⟩,
    ⟨some 5, none, .op (.fa 19 (.tmp 4))⟩,
    ⟨some 6, none, .op (.ld none (.tmp 5))⟩,
    ⟨some 7, none, .op (.bin .neq (.tmp 6) (.const (.int .i64 0)))⟩,
    ⟨some 8, none, .op (.mv (.tmp 7))⟩,
    ⟨some 9, (some (8, false)), .op (.mv (.tmp 0))⟩,
    ⟨some 10, (some (8, false)), .op (.nn (.tmp 9))⟩,
    ⟨some 11, (some (8, false)), .op (.fa 20 (.tmp 10))⟩,
    ⟨some 12, (some (8, false)), .op (.ld none (.tmp 11))⟩,
    ⟨some 13, none, .op (.pick (.tmp 8) (.const (.bool true)) (.tmp 12))⟩,
    ⟨some 2, none, .op (.mv (.tmp 13))⟩]
def c183 : Fn' := ⟨(.seq c183_0 (.seq c183_1 .ret)), [.tmp 2]⟩
theorem comp183 : compFn Tryz.prog 183 = some c183 := by kernel_rfl

def c184_0 : C := .reg [⟨some 4, none, .op (.new [(.int .i64 0), (.slice none 0 0), (.slice none 0 0)])⟩,
    ⟨some 5, none, .op (.mv (.const (.bool false)))⟩]
def c184_1 : C := .reg [⟨some 6, none, .op (.new [(.slice none 0 0)])⟩]
def c184_2 : C := .reg [⟨some 15, none, .op (.ifc 246 (.tmp 6))⟩,
    ⟨some 16, none, .op (.mk [(.nilIface), (.pointer none)] [(0, 1, .tmp 15), (1, 1, .tmp 6)])⟩,
    ⟨some 7, none, .op (.new [(.nilIface), (.pointer none)])⟩,
    ⟨none, none, .op (.st 2 (.tmp 7) (.tmp 16))⟩]
def c184_3 : C := .reg [⟨some 17, none, .op (.ld (some 2) (.tmp 7))⟩,
    ⟨some 18, none, .op (.ifc 250 (.tmp 17))⟩,
    ⟨some 19, none, .op (.mv (.tmp 1))⟩,
    ⟨some 20, none, .op (.ifc 220 (.tmp 19))⟩,
    ⟨some 21, none, .call 191 [.tmp 18, .tmp 20]⟩]
def c184_4 : C := .reg [⟨some 22, none, .op (.ld none (.tmp 6))⟩,
    ⟨some 23, none, .call 211 [.tmp 22]⟩,
    ⟨some 24, none, .op (.bin .gtr (.tmp 23) (.const (.int .i64 0)))⟩,
    ⟨some 25, none, .op (.mv (.tmp 24))⟩,
    ⟨some 26, (some (25, true)), .op (.mv (.tmp 0))⟩,
    ⟨some 27, (some (25, true)), .call 183 [.tmp 26]⟩,
    ⟨some 28, (some (25, true)), .op (.un .not (.tmp 27))⟩,
    ⟨some 29, none, .op (.pick (.tmp 25) (.tmp 28) (.const (.bool false)))⟩]
def c184_5 : C := .reg [⟨some 30, none, .op (.ld (some 2) (.tmp 7))⟩,
    ⟨some 31, none, .op (.ifc 250 (.tmp 30))⟩,
    ⟨some 32, none, .call 195 [.tmp 31]⟩,
    ⟨some 33, none, .op (.ta 220 (.tmp 32))⟩,
    ⟨some 8, none, .op (.mv (.tmp 33))⟩]
def c184_6 : C := .reg [⟨some 34, none, .op (.mv (.tmp 0))⟩,
    ⟨some 35, none, .op (.mv (.tmp 8))⟩,
    ⟨some 36, none, .op (.nn (.tmp 35))⟩,
    ⟨some 37, none, .op (.fa 2 (.tmp 36))⟩,
    ⟨some 38, none, .op (.ld none (.tmp 37))⟩,
    ⟨some 39, none, .call 212 [.tmp 34, .tmp 38]⟩,
    ⟨some 9, none, .op (.mv (.tmp 39))⟩]
def c184_7 : C := .reg [⟨some 40, none, .op (.mv (.tmp 0))⟩,
    ⟨some 41, none, .op (.mv (.tmp 9))⟩,
    ⟨some 42, none, .call 213 [.tmp 40, .tmp 41]⟩]
def c184_8 : C := .reg [⟨some 43, none, .op (.mv (.tmp 0))⟩,
    ⟨some 44, none, .op (.mv (.tmp 8))⟩,
    ⟨some 45, none, .call 214 [.tmp 43, .tmp 44]⟩,
    ⟨some 10, none, .op (.new [(.int .i64 0), (.slice none 0 0), (.slice none 0 0)])⟩,
    ⟨none, none, .op (.st 3 (.tmp 10) (.tmp 45))⟩]
def c184_9 : C := .reg [⟨some 46, none, .op (.mv (.tmp 0))⟩,
    ⟨some 47, none, .op (.mv (.tmp 0))⟩,
    ⟨some 48, none, .op (.nn (.tmp 47))⟩,
    ⟨some 49, none, .op (.fa 20 (.tmp 48))⟩,
    ⟨some 50, none, .op (.ld none (.tmp 49))⟩,
    ⟨some 51, none, .op (.mv (.tmp 50))⟩,
    ⟨some 52, (some (51, false)), .op (.fa 2 (.tmp 10))⟩,
    ⟨some 53, (some (51, false)), .op (.ld none (.tmp 52))⟩,
    ⟨some 54, (some (51, false)), .op (.len (.tmp 53))⟩,
    ⟨some 55, (some (51, false)), .op (.bin .gtr (.tmp 54) (.const (.int .i64 256)))⟩,
    ⟨some 56, none, .op (.pick (.tmp 51) (.const (.bool true)) (.tmp 55))⟩,
    ⟨some 57, none, .op (.nn (.tmp 46))⟩,
    ⟨some 58, none, .op (.fa 20 (.tmp 57))⟩,
    ⟨none, none, .op (.st 1 (.tmp 58) (.tmp 56))⟩]
def c184_10 : C := .regD 0 [⟨0, ⟨some 59, none, .op (.ld (some 3) (.tmp 10))⟩, none, []⟩,
    ⟨1, ⟨some 60, none, .op (.mv (.tmp 0))⟩, none, []⟩,
    ⟨2, ⟨some 61, none, .op (.nn (.tmp 60))⟩, none, []⟩,
    ⟨3, ⟨some 62, none, .op (.fa 20 (.tmp 61))⟩, none, []⟩,
    ⟨4, ⟨some 63, none, .op (.ld none (.tmp 62))⟩, none, []⟩,
    ⟨5, ⟨some 64, none, .op (.un .not (.tmp 63))⟩, none, []⟩,
    ⟨6, ⟨none, none, .op (.st 3 (.tmp 4) (.tmp 59))⟩, none, [(none, .tmp 62, 63, none)]⟩,
    ⟨7, ⟨some 5, none, .op (.mv (.tmp 64))⟩, none, []⟩]
def c184_11 : C := .reg [⟨some 65, none, .op (.mv (.tmp 8))⟩,
    ⟨some 66, none, .op (.nn (.tmp 65))⟩,
    ⟨some 67, none, .op (.fa 0 (.tmp 66))⟩,
    ⟨some 68, none, .op (.ld none (.tmp 67))⟩,
    ⟨some 69, none, .op (.bin .eql (.tmp 68) (.const (.int .i64 0)))⟩]
def c184_12 : C := .reg [⟨some 71, none, .op (.mv (.tmp 0))⟩,
    ⟨some 72, none, .op (.mv (.tmp 9))⟩,
    ⟨some 73, none, .op (.mv (.tmp 8))⟩,
    ⟨some 74, none, .op (.nn (.tmp 73))⟩,
    ⟨some 75, none, .op (.fa 0 (.tmp 74))⟩,
    ⟨some 76, none, .op (.ld none (.tmp 75))⟩,
    ⟨some 77, none, .op (.bin .sub (.tmp 76) (.const (.int .i64 1)))⟩,
    ⟨some 78, none, .call 215 [.tmp 71, .tmp 72, .tmp 77]⟩,
    ⟨some 70, none, .op (.mv (.tmp 78))⟩,
    ⟨some 79, none, .op (.ext (.tmp 70) 0)⟩,
    ⟨some 80, none, .op (.ext (.tmp 70) 1)⟩,
    ⟨some 11, none, .op (.mv (.tmp 79))⟩,
    ⟨some 12, none, .op (.mv (.tmp 80))⟩]
def c184_13 : C := .reg [⟨some 81, none, .op (.mv (.tmp 11))⟩,
    ⟨some 82, none, .op (.bin .eql (.tmp 81) (.const (.int .u8 1)))⟩]
def c184_14 : C := .reg [⟨some 84, none, .op (.mv (.tmp 0))⟩,
    ⟨some 85, none, .call 150 [.tmp 84]⟩,
    ⟨some 83, none, .op (.mv (.tmp 85))⟩,
    ⟨some 86, none, .op (.ext (.tmp 83) 0)⟩,
    ⟨some 87, none, .op (.ext (.tmp 83) 1)⟩,
    ⟨some 13, none, .op (.mv (.tmp 86))⟩,
    ⟨some 14, none, .op (.mv (.tmp 87))⟩]
def c184_15 : C := .reg [⟨some 88, none, .op (.mv (.tmp 0))⟩,
    ⟨some 89, none, .op (.nn (.tmp 88))⟩,
    ⟨some 90, none, .op (.fa 18 (.tmp 89))⟩,
    ⟨some 91, none, .op (.ld none (.tmp 90))⟩,
    ⟨some 92, none, .op (.bin .add (.tmp 91) (.const (.int .i64 1)))⟩,
    ⟨some 93, none, .op (.nn (.tmp 88))⟩,
    ⟨some 94, none, .op (.fa 18 (.tmp 93))⟩,
    ⟨none, none, .op (.st 1 (.tmp 94) (.tmp 92))⟩]
def c184_16 : C := .regD 1 [⟨0, ⟨some 95, none, .op (.ld (some 2) (.tmp 7))⟩, none, []⟩,
    ⟨1, ⟨some 96, none, .op (.ifc 250 (.tmp 95))⟩, none, []⟩,
    ⟨2, ⟨some 97, none, .op (.mv (.tmp 8))⟩, none, []⟩,
    ⟨3, ⟨some 98, none, .op (.nn (.tmp 97))⟩, none, []⟩,
    ⟨4, ⟨some 99, none, .op (.fa 0 (.tmp 98))⟩, none, []⟩,
    ⟨5, ⟨some 100, none, .op (.ld none (.tmp 99))⟩, none, []⟩,
    ⟨6, ⟨some 101, none, .op (.bin .sub (.tmp 100) (.const (.int .i64 1)))⟩, none, []⟩,
    ⟨7, ⟨some 102, none, .op (.mv (.tmp 0))⟩, none, []⟩,
    ⟨8, ⟨some 103, none, .op (.nn (.tmp 102))⟩, none, []⟩,
    ⟨9, ⟨some 104, none, .op (.fa 18 (.tmp 103))⟩, none, []⟩,
    ⟨10, ⟨some 105, none, .op (.ld none (.tmp 104))⟩, none, []⟩,
    ⟨11, ⟨some 106, none, .op (.mv (.tmp 13))⟩, none, []⟩,
    ⟨12, ⟨some 107, none, .op (.mv (.tmp 14))⟩, none, []⟩,
    ⟨13, ⟨some 108, none, .op (.mv (.tmp 8))⟩, none, []⟩,
    ⟨14, ⟨some 109, none, .op (.mk [(.int .i64 0), (.int .i64 0), (.slice none 0 0), (.slice none 0 0), (.pointer none)] [(0, 1, .tmp 101), (1, 1, .tmp 105), (2, 1, .tmp 106), (3, 1, .tmp 107), (4, 1, .tmp 108)])⟩, none, []⟩,
    ⟨15, ⟨some 110, none, .op (.box (.tmp 109))⟩, some 0, []⟩,
    ⟨16, ⟨some 111, none, .op (.ifc 220 (.tmp 110))⟩, none, []⟩,
    ⟨17, ⟨some 112, none, .call 191 [.tmp 96, .tmp 111]⟩, none, []⟩]
def c184_17 : C := .reg [⟨some 113, none, .op (.ld (some 2) (.tmp 7))⟩,
    ⟨some 114, none, .op (.ifc 250 (.tmp 113))⟩,
    ⟨some 115, none, .op (.mv (.tmp 8))⟩,
    ⟨some 116, none, .op (.ifc 220 (.tmp 115))⟩,
    ⟨some 117, none, .call 191 [.tmp 114, .tmp 116]⟩]
def c184_18 : C := .reg [⟨some 118, none, .op (.mv (.tmp 11))⟩,
    ⟨some 119, none, .op (.bin .eql (.tmp 118) (.const (.int .u8 2)))⟩]
def c184_19 : C := .regD 0 [⟨0, ⟨some 120, none, .op (.mv (.tmp 0))⟩, none, []⟩,
    ⟨1, ⟨some 121, none, .op (.mv (.tmp 0))⟩, none, []⟩,
    ⟨2, ⟨some 122, none, .op (.mv (.tmp 12))⟩, none, []⟩,
    ⟨3, ⟨some 123, none, .op (.mv (.tmp 9))⟩, none, []⟩,
    ⟨5, ⟨some 125, none, .op (.mv (.tmp 8))⟩, none, []⟩,
    ⟨6, ⟨some 126, none, .op (.nn (.tmp 125))⟩, none, []⟩,
    ⟨7, ⟨some 127, none, .op (.fa 0 (.tmp 126))⟩, none, []⟩,
    ⟨8, ⟨some 128, none, .op (.ld none (.tmp 127))⟩, none, []⟩,
    ⟨4, ⟨some 124, none, .call 217 [.tmp 121, .tmp 122, .tmp 123]⟩, none, [(none, .tmp 127, 128, none)]⟩,
    ⟨9, ⟨some 129, none, .call 216 [.tmp 120, .tmp 124, .tmp 128]⟩, none, []⟩]
def c184_20 : C := .regD 0 [⟨0, ⟨some 130, none, .op (.mv (.tmp 8))⟩, none, []⟩,
    ⟨1, ⟨some 131, none, .op (.nn (.tmp 130))⟩, none, []⟩,
    ⟨2, ⟨some 132, none, .op (.fa 0 (.tmp 131))⟩, none, []⟩,
    ⟨3, ⟨some 133, none, .op (.ld none (.tmp 132))⟩, none, []⟩,
    ⟨4, ⟨some 134, none, .op (.bin .add (.tmp 133) (.const (.int .i64 1)))⟩, none, []⟩,
    ⟨5, ⟨some 135, none, .op (.mv (.tmp 0))⟩, none, []⟩,
    ⟨6, ⟨some 136, none, .op (.nn (.tmp 135))⟩, none, []⟩,
    ⟨7, ⟨some 137, none, .op (.fa 16 (.tmp 136))⟩, none, []⟩,
    ⟨8, ⟨some 138, none, .op (.ld none (.tmp 137))⟩, none, []⟩,
    ⟨9, ⟨some 139, none, .op (.len (.tmp 138))⟩, none, []⟩,
    ⟨10, ⟨some 140, none, .op (.bin .lss (.tmp 134) (.tmp 139))⟩, none, []⟩]
def c184_21 : C := .reg [⟨some 141, none, .op (.mv (.tmp 0))⟩,
    ⟨some 142, none, .op (.nn (.tmp 141))⟩,
    ⟨some 143, none, .op (.fa 18 (.tmp 142))⟩,
    ⟨some 144, none, .op (.ld none (.tmp 143))⟩,
    ⟨some 145, none, .op (.bin .add (.tmp 144) (.const (.int .i64 1)))⟩,
    ⟨some 146, none, .op (.nn (.tmp 141))⟩,
    ⟨some 147, none, .op (.fa 18 (.tmp 146))⟩,
    ⟨none, none, .op (.st 1 (.tmp 147) (.tmp 145))⟩]
def c184_22 : C := .regD 1 [⟨0, ⟨some 148, none, .op (.ld (some 2) (.tmp 7))⟩, none, []⟩,
    ⟨1, ⟨some 149, none, .op (.ifc 250 (.tmp 148))⟩, none, []⟩,
    ⟨2, ⟨some 150, none, .op (.mv (.tmp 8))⟩, none, []⟩,
    ⟨3, ⟨some 151, none, .op (.nn (.tmp 150))⟩, none, []⟩,
    ⟨4, ⟨some 152, none, .op (.fa 0 (.tmp 151))⟩, none, []⟩,
    ⟨5, ⟨some 153, none, .op (.ld none (.tmp 152))⟩, none, []⟩,
    ⟨6, ⟨some 154, none, .op (.bin .add (.tmp 153) (.const (.int .i64 1)))⟩, none, []⟩,
    ⟨7, ⟨some 155, none, .op (.mv (.tmp 0))⟩, none, []⟩,
    ⟨8, ⟨some 156, none, .op (.nn (.tmp 155))⟩, none, []⟩,
    ⟨9, ⟨some 157, none, .op (.fa 18 (.tmp 156))⟩, none, []⟩,
    ⟨10, ⟨some 158, none, .op (.ld none (.tmp 157))⟩, none, []⟩,
    ⟨11, ⟨some 159, none, .op (.mv (.tmp 8))⟩, none, []⟩,
    ⟨12, ⟨some 160, none, .op (.nn (.tmp 159))⟩, none, []⟩,
    ⟨13, ⟨some 161, none, .op (.fa 2 (.tmp 160))⟩, none, []⟩,
    ⟨14, ⟨some 162, none, .op (.ld none (.tmp 161))⟩, none, []⟩,
    ⟨15, ⟨some 163, none, .op (.mv (.tmp 8))⟩, none, []⟩,
    ⟨16, ⟨some 164, none, .op (.nn (.tmp 163))⟩, none, []⟩,
    ⟨17, ⟨some 165, none, .op (.fa 3 (.tmp 164))⟩, none, []⟩,
    ⟨18, ⟨some 166, none, .op (.ld none (.tmp 165))⟩, none, []⟩,
    ⟨19, ⟨some 167, none, .op (.mv (.tmp 8))⟩, none, []⟩,
    ⟨20, ⟨some 168, none, .op (.nn (.tmp 167))⟩, none, []⟩,
    ⟨21, ⟨some 169, none, .op (.fa 4 (.tmp 168))⟩, none, []⟩,
    ⟨22, ⟨some 170, none, .op (.ld none (.tmp 169))⟩, none, []⟩,
    ⟨23, ⟨some 171, none, .op (.mk [(.int .i64 0), (.int .i64 0), (.slice none 0 0), (.slice none 0 0), (.pointer none)] [(0, 1, .tmp 154), (1, 1, .tmp 158), (2, 1, .tmp 162), (3, 1, .tmp 166), (4, 1, .tmp 170)])⟩, none, []⟩,
    ⟨24, ⟨some 172, none, .op (.box (.tmp 171))⟩, some 0, []⟩,
    ⟨25, ⟨some 173, none, .op (.ifc 220 (.tmp 172))⟩, none, []⟩,
    ⟨26, ⟨some 174, none, .call 191 [.tmp 149, .tmp 173]⟩, none, []⟩]
def c184_23 : C := .reg [⟨some 175, none, .op (.mk [(.int .i64 0), (.slice none 0 0), (.slice none 0 0)] [])⟩,
    ⟨none, none, .op (.st 3 (.tmp 4) (.tmp 175))⟩,
    ⟨some 5, none, .op (.mv (.const (.bool false)))⟩]
def c184 : Fn' := ⟨(.seq c184_0 (.seq c184_1 (.seq c184_2 (.seq c184_3 (.seq (.block 0 (.loop (.seq (.seq c184_4 (.cond (.tmp 29) .skip (.exit 0))) (.block 1 (.seq c184_5 (.seq c184_6 (.seq (.seq c184_7 (.cond (.tmp 42) (.seq c184_8 (.seq c184_9 (.seq c184_10 .ret))) .skip)) (.seq (.seq c184_11 (.cond (.tmp 69) (.exit 1) .skip)) (.seq c184_12 (.seq (.seq c184_13 (.cond (.tmp 82) (.seq c184_14 (.seq c184_15 (.seq c184_16 (.seq c184_17 (.exit 1))))) .skip)) (.seq c184_18 (.cond (.tmp 119) (.seq c184_19 (.seq c184_20 (.cond (.tmp 140) (.seq c184_21 c184_22) .skip))) .skip)))))))))))) (.seq c184_23 .ret)))))), [.cell 4 (some 3), .tmp 5]⟩
theorem comp184 : compFn Tryz.prog 184 = some c184 := by kernel_rfl

def c185_0 : C := .reg [⟨some 2, none, .op (.mv (.const (.int .i64 0)))⟩,
    ⟨some 3, none, .op (.mv (.const (.bool false)))⟩]
def c185_1 : C := .reg [⟨some 4, none, .op (.mv (.const (.int .i64 1)))⟩]
def c185_2 : C := .reg [⟨some 14, none, .op (.mv (.tmp 4))⟩,
    ⟨some 15, none, .op (.mv (.tmp 0))⟩,
    ⟨some 16, none, .op (.nn (.tmp 15))⟩,
    ⟨some 17, none, .op (.fa 16 (.tmp 16))⟩,
    ⟨some 18, none, .op (.ld none (.tmp 17))⟩,
    ⟨some 19, none, .op (.len (.tmp 18))⟩,
    ⟨some 20, none, .op (.bin .sub (.tmp 19) (.const (.int .i64 1)))⟩,
    ⟨some 21, none, .op (.bin .lss (.tmp 14) (.tmp 20))⟩]
def c185_3 : C := .reg [⟨some 5, none, .op (.mv (.const (.bool false)))⟩]
def c185_4 : C := .reg [⟨some 24, none, .op (.mv (.tmp 0))⟩,
    ⟨some 25, none, .op (.nn (.tmp 24))⟩,
    ⟨some 26, none, .op (.fa 17 (.tmp 25))⟩,
    ⟨some 27, none, .op (.ld none (.tmp 26))⟩,
    ⟨some 28, none, .op (.len (.tmp 27))⟩,
    ⟨some 29, none, .op (.mv (.const (.int .i64 0)))⟩]
def c185_5 : C := .reg [⟨some 30, none, .op (.bin .lss (.tmp 29) (.tmp 28))⟩]
def c185_6 : C := .reg [⟨some 31, none, .op (.mv (.tmp 29))⟩,
    ⟨some 6, none, .op (.mv (.tmp 31))⟩]
def c185_7 : C := .reg [⟨some 32, none, .op (.mv (.tmp 0))⟩,
    ⟨some 33, none, .op (.nn (.tmp 32))⟩,
    ⟨some 34, none, .op (.fa 17 (.tmp 33))⟩,
    ⟨some 35, none, .op (.ld none (.tmp 34))⟩,
    ⟨some 36, none, .op (.mv (.tmp 6))⟩,
    ⟨some 37, none, .op (.ia 2 (.tmp 35) (.tmp 36))⟩,
    ⟨some 7, none, .op (.mv (.tmp 37))⟩]
def c185_8 : C := .reg [⟨some 38, none, .op (.mv (.tmp 7))⟩,
    ⟨some 39, none, .op (.nn (.tmp 38))⟩,
    ⟨some 40, none, .op (.fa 1 (.tmp 39))⟩,
    ⟨some 41, none, .op (.ld none (.tmp 40))⟩,
    ⟨some 42, none, .op (.mv (.tmp 4))⟩,
    ⟨some 43, none, .op (.bin .neq (.tmp 41) (.tmp 42))⟩]
def c185_9 : C := .reg [⟨some 44, none, .op (.mv (.tmp 0))⟩,
    ⟨some 45, none, .op (.mv (.tmp 4))⟩,
    ⟨some 46, none, .call 149 [.tmp 44, .tmp 45]⟩,
    ⟨some 8, none, .op (.mv (.tmp 46))⟩]
def c185_10 : C := .reg [⟨some 47, none, .op (.mv (.tmp 7))⟩,
    ⟨some 48, none, .op (.nn (.tmp 47))⟩,
    ⟨some 49, none, .op (.fa 0 (.tmp 48))⟩,
    ⟨some 50, none, .op (.ld none (.tmp 49))⟩,
    ⟨some 51, none, .op (.len (.tmp 50))⟩,
    ⟨some 52, none, .op (.mv (.const (.int .i64 0)))⟩]
def c185_11 : C := .reg [⟨some 53, none, .op (.bin .lss (.tmp 52) (.tmp 51))⟩]
def c185_12 : C := .reg [⟨some 54, none, .op (.ia 1 (.tmp 50) (.tmp 52))⟩,
    ⟨some 55, none, .op (.ld none (.tmp 54))⟩,
    ⟨some 10, none, .op (.mv (.tmp 55))⟩]
def c185_13 : C := .reg [⟨some 56, none, .op (.mv (.tmp 8))⟩,
    ⟨some 57, none, .op (.mv (.tmp 0))⟩,
    ⟨some 58, none, .op (.mv (.tmp 10))⟩,
    ⟨some 59, none, .call 218 [.tmp 57, .tmp 58]⟩,
    ⟨some 60, none, .op (.un .neg (.tmp 59))⟩,
    ⟨some 61, none, .op (.mkSl (reps 1 [(.int .i64 0)]) 1 [(0, 1, .tmp 60)])⟩,
    ⟨some 62, none, .op (.app 1 8 (.tmp 56) (.tmp 61))⟩,
    ⟨some 8, none, .op (.mv (.tmp 62))⟩]
def c185_14 : C := .reg [⟨some 63, none, .op (.bin .add (.tmp 52) (.const (.int .i64 1)))⟩,
    ⟨some 52, none, .op (.mv (.tmp 63))⟩]
def c185_15 : C := .reg [⟨some 64, none, .op (.mv (.tmp 0))⟩,
    ⟨some 65, none, .op (.mv (.tmp 8))⟩,
    ⟨some 66, none, .call 148 [.tmp 64, .tmp 65]⟩,
    ⟨some 67, none, .op (.bin .neq (.tmp 66) (.const (.int .u8 2)))⟩]
def c185_16 : C := .reg [⟨some 5, none, .op (.mv (.const (.bool true)))⟩]
def c185_17 : C := .reg [⟨some 68, none, .op (.mv (.tmp 0))⟩,
    ⟨some 69, none, .op (.nn (.tmp 68))⟩,
    ⟨some 70, none, .op (.fa 16 (.tmp 69))⟩,
    ⟨some 71, none, .op (.ld none (.tmp 70))⟩,
    ⟨some 72, none, .op (.mv (.tmp 4))⟩,
    ⟨some 73, none, .op (.bin .add (.tmp 72) (.const (.int .i64 1)))⟩,
    ⟨some 74, none, .op (.ia 1 (.tmp 71) (.tmp 73))⟩,
    ⟨some 75, none, .op (.ld none (.tmp 74))⟩,
    ⟨some 76, none, .op (.un .neg (.tmp 75))⟩,
    ⟨some 77, none, .op (.mkSl (reps 1 [(.int .i64 0)]) 1 [(0, 1, .tmp 76)])⟩,
    ⟨some 11, none, .op (.mv (.tmp 77))⟩]
def c185_18 : C := .reg [⟨some 78, none, .op (.mv (.tmp 7))⟩,
    ⟨some 79, none, .op (.nn (.tmp 78))⟩,
    ⟨some 80, none, .op (.fa 0 (.tmp 79))⟩,
    ⟨some 81, none, .op (.ld none (.tmp 80))⟩,
    ⟨some 82, none, .op (.len (.tmp 81))⟩,
    ⟨some 83, none, .op (.mv (.const (.int .i64 0)))⟩]
def c185_19 : C := .reg [⟨some 84, none, .op (.bin .lss (.tmp 83) (.tmp 82))⟩]
def c185_20 : C := .reg [⟨some 85, none, .op (.ia 1 (.tmp 81) (.tmp 83))⟩,
    ⟨some 86, none, .op (.ld none (.tmp 85))⟩,
    ⟨some 13, none, .op (.mv (.tmp 86))⟩]
def c185_21 : C := .reg [⟨some 87, none, .op (.mv (.tmp 11))⟩,
    ⟨some 88, none, .op (.mv (.tmp 0))⟩,
    ⟨some 89, none, .op (.mv (.tmp 13))⟩,
    ⟨some 90, none, .call 147 [.tmp 88, .tmp 89]⟩,
    ⟨some 91, none, .op (.mkSl (reps 1 [(.int .i64 0)]) 1 [(0, 1, .tmp 90)])⟩,
    ⟨some 92, none, .op (.app 1 8 (.tmp 87) (.tmp 91))⟩,
    ⟨some 11, none, .op (.mv (.tmp 92))⟩]
def c185_22 : C := .reg [⟨some 93, none, .op (.bin .add (.tmp 83) (.const (.int .i64 1)))⟩,
    ⟨some 83, none, .op (.mv (.tmp 93))⟩]
def c185_23 : C := .reg [⟨some 94, none, .op (.mv (.tmp 0))⟩,
    ⟨some 95, none, .op (.mv (.tmp 11))⟩,
    ⟨some 96, none, .call 146 [.tmp 94, .tmp 95]⟩]
def c185_24 : C := .reg [⟨some 97, none, .op (.mv (.tmp 7))⟩,
    ⟨some 98, none, .op (.mv (.tmp 4))⟩,
    ⟨some 99, none, .op (.bin .add (.tmp 98) (.const (.int .i64 1)))⟩,
    ⟨some 100, none, .op (.nn (.tmp 97))⟩,
    ⟨some 101, none, .op (.fa 1 (.tmp 100))⟩,
    ⟨none, none, .op (.st 1 (.tmp 101) (.tmp 99))⟩]
def c185_25 : C := .reg [⟨some 102, none, .op (.bin .add (.tmp 29) (.const (.int .i64 1)))⟩,
    ⟨some 29, none, .op (.mv (.tmp 102))⟩]
def c185_26 : C := .reg [⟨some 103, none, .op (.mv (.tmp 5))⟩,
    ⟨some 104, none, .op (.un .not (.tmp 103))⟩,
    ⟨some 105, none, .op (.mv (.tmp 104))⟩,
    ⟨some 106, (some (105, true)), .op (.mv (.tmp 0))⟩,
    ⟨some 107, (some (105, true)), .call 183 [.tmp 106]⟩,
    ⟨some 108, (some (105, true)), .op (.un .not (.tmp 107))⟩,
    ⟨some 109, none, .op (.pick (.tmp 105) (.tmp 108) (.const (.bool false)))⟩]
def c185_27 : C := .reg [⟨some 110, none, .op (.mv (.tmp 4))⟩,
    ⟨some 2, none, .op (.mv (.tmp 110))⟩,
    ⟨some 3, none, .op (.mv (.const (.bool true)))⟩]
def c185_28 : C := .reg [⟨some 22, none, .op (.mv (.tmp 4))⟩,
    ⟨some 23, none, .op (.bin .add (.tmp 22) (.const (.int .i64 1)))⟩,
    ⟨some 4, none, .op (.mv (.tmp 23))⟩]
def c185_29 : C := .reg [⟨some 2, none, .op (.mv (.const (.int .i64 0)))⟩,
    ⟨some 3, none, .op (.mv (.const (.bool false)))⟩]
def c185 : Fn' := ⟨(.seq c185_0 (.seq (.seq c185_1 (.block 0 (.loop (.seq (.seq c185_2 (.cond (.tmp 21) .skip (.exit 0))) (.seq (.block 1 (.seq c185_3 (.seq (.seq c185_4 (.block 2 (.loop (.seq c185_5 (.seq (.cond (.tmp 30) .skip (.exit 2)) (.seq (.block 3 (.seq c185_6 (.seq c185_7 (.seq (.seq c185_8 (.cond (.tmp 43) (.exit 3) .skip)) (.seq c185_9 (.seq (.seq c185_10 (.block 4 (.loop (.seq c185_11 (.seq (.cond (.tmp 53) .skip (.exit 4)) (.seq (.block 5 (.seq c185_12 c185_13)) c185_14)))))) (.seq (.seq c185_15 (.cond (.tmp 67) (.seq c185_16 (.exit 3)) .skip)) (.seq c185_17 (.seq (.seq c185_18 (.block 6 (.loop (.seq c185_19 (.seq (.cond (.tmp 84) .skip (.exit 6)) (.seq (.block 7 (.seq c185_20 c185_21)) c185_22)))))) (.seq c185_23 c185_24)))))))))) c185_25)))))) (.seq c185_26 (.cond (.tmp 109) (.seq c185_27 .ret) .skip))))) c185_28))))) (.seq c185_29 .ret))), [.tmp 2, .tmp 3]⟩
theorem comp185 : compFn Tryz.prog 185 = some c185 := by kernel_rfl

def c186_0 : C := .reg [⟨some 4, none, .op (.new [(.slice none 0 0)])⟩]
def c186_1 : C := .reg [⟨some 7, none, .op (.mv (.tmp 0))⟩,
    ⟨some 8, none, .op (.nn (.tmp 7))⟩,
    ⟨some 9, none, .op (.fa 17 (.tmp 8))⟩,
    ⟨some 10, none, .op (.ld none (.tmp 9))⟩,
    ⟨some 11, none, .op (.len (.tmp 10))⟩,
    ⟨some 12, none, .op (.mv (.const (.int .i64 0)))⟩]
def c186_2 : C := .reg [⟨some 13, none, .op (.bin .lss (.tmp 12) (.tmp 11))⟩]
def c186_3 : C := .reg [⟨some 14, none, .op (.ia 2 (.tmp 10) (.tmp 12))⟩,
    ⟨some 15, none, .op (.ld (some 2) (.tmp 14))⟩,
    ⟨some 6, none, .op (.new [(.slice none 0 0), (.int .i64 0)])⟩,
    ⟨none, none, .op (.st 2 (.tmp 6) (.tmp 15))⟩]
def c186_4 : C := .reg [⟨some 16, none, .op (.fa 1 (.tmp 6))⟩,
    ⟨some 17, none, .op (.ld none (.tmp 16))⟩,
    ⟨some 18, none, .op (.mv (.tmp 1))⟩,
    ⟨some 19, none, .op (.bin .gtr (.tmp 17) (.tmp 18))⟩]
def c186_5 : C := .regD 1 [⟨0, ⟨some 20, none, .op (.fa 0 (.tmp 4))⟩, none, []⟩,
    ⟨1, ⟨some 21, none, .op (.ld none (.tmp 20))⟩, none, []⟩,
    ⟨2, ⟨some 22, none, .op (.fa 0 (.tmp 6))⟩, none, []⟩,
    ⟨3, ⟨some 23, none, .op (.ld none (.tmp 22))⟩, none, []⟩,
    ⟨4, ⟨some 24, none, .call 135 [.tmp 23]⟩, none, [(none, .tmp 20, 21, none)]⟩,
    ⟨5, ⟨some 25, none, .op (.mkSl (reps 1 [(.slice none 0 0)]) 1 [(0, 1, .tmp 24)])⟩, some 0, []⟩,
    ⟨6, ⟨some 26, none, .op (.app 1 24 (.tmp 21) (.tmp 25))⟩, none, []⟩,
    ⟨7, ⟨some 27, none, .op (.fa 0 (.tmp 4))⟩, none, []⟩,
    ⟨8, ⟨none, none, .op (.st 1 (.tmp 27) (.tmp 26))⟩, none, []⟩]
def c186_6 : C := .reg [⟨some 28, none, .op (.bin .add (.tmp 12) (.const (.int .i64 1)))⟩,
    ⟨some 12, none, .op (.mv (.tmp 28))⟩]
def c186_7 : C := .reg [⟨some 29, none, .op (.ld (some 1) (.tmp 4))⟩,
    ⟨none, none, .op (.st 1 (.tmp 4) (.tmp 29))⟩]
def c186 : Fn' := ⟨(.seq c186_0 (.seq (.seq c186_1 (.block 0 (.loop (.seq c186_2 (.seq (.cond (.tmp 13) .skip (.exit 0)) (.seq (.block 1 (.seq c186_3 (.seq c186_4 (.cond (.tmp 19) c186_5 .skip)))) c186_6)))))) (.seq c186_7 .ret))), [.cell 4 (some 1)]⟩
theorem comp186 : compFn Tryz.prog 186 = some c186 := by kernel_rfl

def c212_0 : C := .reg [⟨some 4, none, .op (.mv (.const (.slice none 0 0)))⟩]
def c212_1 : C := .reg [⟨some 7, none, .op (.mv (.tmp 1))⟩,
    ⟨some 8, none, .op (.len (.tmp 7))⟩,
    ⟨some 9, none, .op (.mv (.const (.int .i64 0)))⟩]
def c212_2 : C := .reg [⟨some 10, none, .op (.bin .lss (.tmp 9) (.tmp 8))⟩]
def c212_3 : C := .reg [⟨some 11, none, .op (.mv (.tmp 9))⟩,
    ⟨some 12, none, .op (.ia 1 (.tmp 7) (.tmp 9))⟩,
    ⟨some 13, none, .op (.ld none (.tmp 12))⟩,
    ⟨some 5, none, .op (.mv (.tmp 11))⟩,
    ⟨some 6, none, .op (.mv (.tmp 13))⟩]
def c212_4 : C := .reg [⟨some 14, none, .op (.mv (.tmp 4))⟩,
    ⟨some 15, none, .op (.mv (.tmp 0))⟩,
    ⟨some 16, none, .op (.mv (.tmp 5))⟩,
    ⟨some 17, none, .op (.mv (.tmp 6))⟩,
    ⟨some 18, none, .call 181 [.tmp 15, .tmp 16, .tmp 17]⟩,
    ⟨some 19, none, .op (.mkSl (reps 1 [(.int .u32 0)]) 1 [(0, 1, .tmp 18)])⟩,
    ⟨some 20, none, .op (.app 1 4 (.tmp 14) (.tmp 19))⟩,
    ⟨some 4, none, .op (.mv (.tmp 20))⟩]
def c212_5 : C := .reg [⟨some 21, none, .op (.bin .add (.tmp 9) (.const (.int .i64 1)))⟩,
    ⟨some 9, none, .op (.mv (.tmp 21))⟩]
def c212_6 : C := .reg [⟨some 22, none, .op (.mv (.tmp 4))⟩,
    ⟨some 4, none, .op (.mv (.tmp 22))⟩]
def c212 : Fn' := ⟨(.seq c212_0 (.seq (.seq c212_1 (.block 0 (.loop (.seq c212_2 (.seq (.cond (.tmp 10) .skip (.exit 0)) (.seq (.block 1 (.seq c212_3 c212_4)) c212_5)))))) (.seq c212_6 .ret))), [.tmp 4]⟩
theorem comp212 : compFn Tryz.prog 212 = some c212 := by kernel_rfl

def c213_0 : C := .reg [⟨some 2, none, .op (.box (.tmp 0))⟩,
    ⟨some 4, none, .op (.mv (.const (.bool false)))⟩]
def c213_1 : C := .reg [⟨some 5, none, .op (.mv (.tmp 1))⟩,
    ⟨some 6, none, .op (.fn 246 [] [.tmp 2])⟩,
    ⟨some 7, none, .call 132 [.tmp 5, .tmp 6]⟩,
    ⟨some 8, none, .op (.un .not (.tmp 7))⟩,
    ⟨some 4, none, .op (.mv (.tmp 8))⟩]
def c213 : Fn' := ⟨(.seq c213_0 (.seq c213_1 .ret)), [.tmp 4]⟩
theorem comp213 : compFn Tryz.prog 213 = some c213 := by kernel_rfl

def c214_0 : C := .reg [⟨some 4, none, .op (.new [(.int .i64 0), (.slice none 0 0), (.slice none 0 0)])⟩]
def c214_1 : C := .regD 1 [⟨0, ⟨some 6, none, .op (.mv (.tmp 0))⟩, none, []⟩,
    ⟨1, ⟨some 7, none, .op (.nn (.tmp 6))⟩, none, []⟩,
    ⟨2, ⟨some 8, none, .op (.fa 12 (.tmp 7))⟩, none, []⟩,
    ⟨3, ⟨some 9, none, .op (.ld none (.tmp 8))⟩, none, []⟩,
    ⟨4, ⟨some 10, none, .op (.mv (.tmp 1))⟩, none, []⟩,
    ⟨5, ⟨some 11, none, .op (.nn (.tmp 10))⟩, none, []⟩,
    ⟨6, ⟨some 12, none, .op (.fa 2 (.tmp 11))⟩, none, []⟩,
    ⟨7, ⟨some 13, none, .op (.ld none (.tmp 12))⟩, none, []⟩,
    ⟨8, ⟨some 14, none, .call 139 [.tmp 13]⟩, none, [(none, .tmp 8, 9, none)]⟩,
    ⟨9, ⟨some 15, none, .op (.mk [(.int .i64 0), (.slice none 0 0), (.slice none 0 0)] [(0, 1, .tmp 9), (1, 1, .tmp 14)])⟩, none, []⟩,
    ⟨10, ⟨some 5, none, .op (.new [(.int .i64 0), (.slice none 0 0), (.slice none 0 0)])⟩, some 0, []⟩,
    ⟨11, ⟨none, none, .op (.st 3 (.tmp 5) (.tmp 15))⟩, none, []⟩]
def c214_2 : C := .reg [⟨some 16, none, .op (.mv (.tmp 1))⟩,
    ⟨some 17, none, .op (.nil 0 true (.tmp 16) (.const (.pointer none)))⟩]
def c214_3 : C := .regD 1 [⟨0, ⟨some 22, none, .op (.fa 2 (.tmp 5))⟩, none, []⟩,
    ⟨1, ⟨some 23, none, .op (.ld none (.tmp 22))⟩, none, []⟩,
    ⟨2, ⟨some 24, none, .op (.mv (.tmp 1))⟩, none, []⟩,
    ⟨3, ⟨some 25, none, .op (.nn (.tmp 24))⟩, none, []⟩,
    ⟨4, ⟨some 26, none, .op (.fa 3 (.tmp 25))⟩, none, []⟩,
    ⟨5, ⟨some 27, none, .op (.ld none (.tmp 26))⟩, none, []⟩,
    ⟨6, ⟨some 28, none, .call 139 [.tmp 27]⟩, none, [(none, .tmp 22, 23, none)]⟩,
    ⟨7, ⟨some 29, none, .op (.mkSl (reps 1 [(.slice none 0 0)]) 1 [(0, 1, .tmp 28)])⟩, some 0, []⟩,
    ⟨8, ⟨some 30, none, .op (.app 1 24 (.tmp 23) (.tmp 29))⟩, none, []⟩,
    ⟨9, ⟨some 31, none, .op (.fa 2 (.tmp 5))⟩, none, []⟩,
    ⟨10, ⟨none, none, .op (.st 1 (.tmp 31) (.tmp 30))⟩, none, []⟩]
def c214_4 : C := .reg [⟨some 18, none, .op (.mv (.tmp 1))⟩,
    ⟨some 19, none, .op (.nn (.tmp 18))⟩,
    ⟨some 20, none, .op (.fa 4 (.tmp 19))⟩,
    ⟨some 21, none, .op (.ld none (.tmp 20))⟩,
    ⟨some 1, none, .op (.mv (.tmp 21))⟩]
def c214_5 : C := .reg [⟨some 32, none, .op (.ld (some 3) (.tmp 5))⟩,
    ⟨none, none, .op (.st 3 (.tmp 4) (.tmp 32))⟩]
def c214 : Fn' := ⟨(.seq c214_0 (.seq c214_1 (.seq (.block 0 (.loop (.seq (.seq c214_2 (.cond (.tmp 17) .skip (.exit 0))) (.seq (.block 1 c214_3) c214_4)))) (.seq c214_5 .ret)))), [.cell 4 (some 3)]⟩
theorem comp214 : compFn Tryz.prog 214 = some c214 := by kernel_rfl

def c215_0 : C := .reg [⟨some 6, none, .op (.mv (.const (.int .u8 0)))⟩,
    ⟨some 7, none, .op (.mv (.const (.slice none 0 0)))⟩]
def c215_1 : C := .reg [⟨some 21, none, .op (.mv (.tmp 0))⟩,
    ⟨some 22, none, .call 182 [.tmp 21]⟩,
    ⟨some 8, none, .op (.mv (.tmp 22))⟩]
def c215_2 : C := .reg [⟨some 23, none, .op (.mv (.tmp 8))⟩,
    ⟨some 24, none, .op (.un .neg (.tmp 23))⟩,
    ⟨some 25, none, .op (.mkSl (reps 1 [(.int .i64 0)]) 1 [(0, 1, .tmp 24)])⟩,
    ⟨some 9, none, .op (.mv (.tmp 25))⟩]
def c215_3 : C := .reg [⟨some 26, none, .op (.mv (.tmp 1))⟩,
    ⟨some 27, none, .op (.len (.tmp 26))⟩,
    ⟨some 28, none, .op (.mv (.const (.int .i64 0)))⟩]
def c215_4 : C := .reg [⟨some 29, none, .op (.bin .lss (.tmp 28) (.tmp 27))⟩]
def c215_5 : C := .reg [⟨some 30, none, .op (.ia 1 (.tmp 26) (.tmp 28))⟩,
    ⟨some 31, none, .op (.ld none (.tmp 30))⟩,
    ⟨some 11, none, .op (.mv (.tmp 31))⟩]
def c215_6 : C := .reg [⟨some 32, none, .op (.mv (.tmp 9))⟩,
    ⟨some 33, none, .op (.mv (.tmp 0))⟩,
    ⟨some 34, none, .op (.mv (.tmp 11))⟩,
    ⟨some 35, none, .call 147 [.tmp 33, .tmp 34]⟩,
    ⟨some 36, none, .op (.un .neg (.tmp 35))⟩,
    ⟨some 37, none, .op (.mkSl (reps 1 [(.int .i64 0)]) 1 [(0, 1, .tmp 36)])⟩,
    ⟨some 38, none, .op (.app 1 8 (.tmp 32) (.tmp 37))⟩,
    ⟨some 9, none, .op (.mv (.tmp 38))⟩]
def c215_7 : C := .reg [⟨some 39, none, .op (.bin .add (.tmp 28) (.const (.int .i64 1)))⟩,
    ⟨some 28, none, .op (.mv (.tmp 39))⟩]
def c215_8 : C := .reg [⟨some 40, none, .op (.mv (.tmp 0))⟩,
    ⟨some 41, none, .op (.mv (.tmp 9))⟩,
    ⟨some 42, none, .call 146 [.tmp 40, .tmp 41]⟩,
    ⟨some 43, none, .op (.un .not (.tmp 42))⟩]
def c215_9 : C := .reg [⟨some 6, none, .op (.mv (.const (.int .u8 0)))⟩,
    ⟨some 7, none, .op (.mv (.const (.slice none 0 0)))⟩]
def c215_10 : C := .reg [⟨some 44, none, .op (.mv (.tmp 0))⟩,
    ⟨some 45, none, .op (.mv (.tmp 2))⟩,
    ⟨some 46, none, .call 149 [.tmp 44, .tmp 45]⟩,
    ⟨some 47, none, .op (.mv (.tmp 8))⟩,
    ⟨some 48, none, .op (.mkSl (reps 1 [(.int .i64 0)]) 1 [(0, 1, .tmp 47)])⟩,
    ⟨some 49, none, .op (.app 1 8 (.tmp 46) (.tmp 48))⟩,
    ⟨some 12, none, .op (.mv (.tmp 49))⟩]
def c215_11 : C := .reg [⟨some 50, none, .op (.mv (.tmp 12))⟩,
    ⟨some 51, none, .op (.len (.tmp 50))⟩,
    ⟨some 13, none, .op (.mv (.tmp 51))⟩]
def c215_12 : C := .reg [⟨some 52, none, .op (.mv (.tmp 1))⟩,
    ⟨some 53, none, .op (.len (.tmp 52))⟩,
    ⟨some 54, none, .op (.mv (.const (.int .i64 0)))⟩]
def c215_13 : C := .reg [⟨some 55, none, .op (.bin .lss (.tmp 54) (.tmp 53))⟩]
def c215_14 : C := .reg [⟨some 56, none, .op (.ia 1 (.tmp 52) (.tmp 54))⟩,
    ⟨some 57, none, .op (.ld none (.tmp 56))⟩,
    ⟨some 15, none, .op (.mv (.tmp 57))⟩]
def c215_15 : C := .reg [⟨some 58, none, .op (.mv (.tmp 12))⟩,
    ⟨some 59, none, .op (.mv (.tmp 0))⟩,
    ⟨some 60, none, .op (.mv (.tmp 15))⟩,
    ⟨some 61, none, .call 218 [.tmp 59, .tmp 60]⟩,
    ⟨some 62, none, .op (.mkSl (reps 1 [(.int .i64 0)]) 1 [(0, 1, .tmp 61)])⟩,
    ⟨some 63, none, .op (.app 1 8 (.tmp 58) (.tmp 62))⟩,
    ⟨some 12, none, .op (.mv (.tmp 63))⟩]
def c215_16 : C := .reg [⟨some 64, none, .op (.bin .add (.tmp 54) (.const (.int .i64 1)))⟩,
    ⟨some 54, none, .op (.mv (.tmp 64))⟩]
def c215_17 : C := .reg [⟨some 65, none, .op (.mv (.tmp 0))⟩,
    ⟨some 66, none, .op (.mv (.tmp 12))⟩,
    ⟨some 67, none, .call 148 [.tmp 65, .tmp 66]⟩,
    ⟨some 16, none, .op (.mv (.tmp 67))⟩]
def c215_18 : C := .reg [⟨some 68, none, .op (.mv (.tmp 16))⟩,
    ⟨some 69, none, .op (.bin .neq (.tmp 68) (.const (.int .u8 2)))⟩]
def c215_19 : C := .reg [⟨some 70, none, .op (.mv (.tmp 16))⟩,
    ⟨some 6, none, .op (.mv (.tmp 70))⟩,
    ⟨some 7, none, .op (.mv (.const (.slice none 0 0)))⟩]
def c215_20 : C := .reg [⟨some 71, none, .op (.mv (.tmp 0))⟩,
    ⟨some 72, none, .op (.nn (.tmp 71))⟩,
    ⟨some 73, none, .op (.fa 15 (.tmp 72))⟩,
    ⟨some 74, none, .op (.ld none (.tmp 73))⟩,
    ⟨some 75, none, .call 30 [.tmp 74]⟩,
    ⟨some 17, none, .op (.mv (.tmp 75))⟩]
def c215_21 : C := .reg [⟨some 18, none, .op (.mv (.const (.slice none 0 0)))⟩]
def c215_22 : C := .reg [⟨some 76, none, .op (.mv (.tmp 1))⟩,
    ⟨some 77, none, .op (.len (.tmp 76))⟩,
    ⟨some 78, none, .op (.mv (.const (.int .i64 0)))⟩]
def c215_23 : C := .reg [⟨some 79, none, .op (.bin .lss (.tmp 78) (.tmp 77))⟩]
def c215_24 : C := .reg [⟨some 80, none, .op (.mv (.tmp 78))⟩,
    ⟨some 81, none, .op (.ia 1 (.tmp 76) (.tmp 78))⟩,
    ⟨some 82, none, .op (.ld none (.tmp 81))⟩,
    ⟨some 19, none, .op (.mv (.tmp 80))⟩,
    ⟨some 20, none, .op (.mv (.tmp 82))⟩]
def c215_25 : C := .reg [⟨some 83, none, .op (.mv (.tmp 17))⟩,
    ⟨some 84, none, .op (.mv (.tmp 12))⟩,
    ⟨some 85, none, .op (.mv (.tmp 13))⟩,
    ⟨some 86, none, .op (.mv (.tmp 19))⟩,
    ⟨some 87, none, .op (.bin .add (.tmp 85) (.tmp 86))⟩,
    ⟨some 88, none, .op (.ia 1 (.tmp 84) (.tmp 87))⟩,
    ⟨some 89, none, .op (.ld none (.tmp 88))⟩,
    ⟨some 90, none, .call 248 [.tmp 83, .tmp 89]⟩]
def c215_26 : C := .reg [⟨some 91, none, .op (.mv (.tmp 18))⟩,
    ⟨some 92, none, .op (.mv (.tmp 20))⟩,
    ⟨some 93, none, .op (.mkSl (reps 1 [(.int .u32 0)]) 1 [(0, 1, .tmp 92)])⟩,
    ⟨some 94, none, .op (.app 1 4 (.tmp 91) (.tmp 93))⟩,
    ⟨some 18, none, .op (.mv (.tmp 94))⟩]
def c215_27 : C := .reg [⟨some 95, none, .op (.bin .add (.tmp 78) (.const (.int .i64 1)))⟩,
    ⟨some 78, none, .op (.mv (.tmp 95))⟩]
def c215_28 : C := .reg [⟨some 96, none, .op (.mv (.tmp 0))⟩,
    ⟨some 97, none, .op (.mv (.tmp 8))⟩,
    ⟨some 98, none, .op (.un .neg (.tmp 97))⟩,
    ⟨some 99, none, .op (.mkSl (reps 1 [(.int .i64 0)]) 1 [(0, 1, .tmp 98)])⟩,
    ⟨some 100, none, .call 146 [.tmp 96, .tmp 99]⟩]
def c215_29 : C := .reg [⟨some 101, none, .op (.mv (.tmp 16))⟩,
    ⟨some 102, none, .op (.mv (.tmp 18))⟩,
    ⟨some 6, none, .op (.mv (.tmp 101))⟩,
    ⟨some 7, none, .op (.mv (.tmp 102))⟩]
def c215 : Fn' := ⟨(.seq c215_0 (.seq c215_1 (.seq c215_2 (.seq (.seq c215_3 (.block 0 (.loop (.seq c215_4 (.seq (.cond (.tmp 29) .skip (.exit 0)) (.seq (.block 1 (.seq c215_5 c215_6)) c215_7)))))) (.seq (.seq c215_8 (.cond (.tmp 43) (.seq c215_9 .ret) .skip)) (.seq c215_10 (.seq c215_11 (.seq (.seq c215_12 (.block 2 (.loop (.seq c215_13 (.seq (.cond (.tmp 55) .skip (.exit 2)) (.seq (.block 3 (.seq c215_14 c215_15)) c215_16)))))) (.seq c215_17 (.seq (.seq c215_18 (.cond (.tmp 69) (.seq c215_19 .ret) .skip)) (.seq c215_20 (.seq c215_21 (.seq (.seq c215_22 (.block 4 (.loop (.seq c215_23 (.seq (.cond (.tmp 79) .skip (.exit 4)) (.seq (.block 5 (.seq c215_24 (.seq c215_25 (.cond (.tmp 90) c215_26 .skip)))) c215_27)))))) (.seq c215_28 (.seq c215_29 .ret))))))))))))))), [.tmp 6, .tmp 7]⟩
theorem comp215 : compFn Tryz.prog 215 = some c215 := by kernel_rfl

def c216_0 : C := .reg [⟨some 10, none, .op (.mv (.tmp 0))⟩,
    ⟨some 11, none, .op (.nn (.tmp 10))⟩,
    ⟨some 12, none, .op (.fa 16 (.tmp 11))⟩,
    ⟨some 13, none, .op (.ld none (.tmp 12))⟩,
    ⟨some 14, none, .op (.mv (.tmp 2))⟩,
    ⟨some 15, none, .op (.ia 1 (.tmp 13) (.tmp 14))⟩,
    ⟨some 16, none, .op (.ld none (.tmp 15))⟩,
    ⟨some 17, none, .op (.un .neg (.tmp 16))⟩,
    ⟨some 18, none, .op (.mkSl (reps 1 [(.int .i64 0)]) 1 [(0, 1, .tmp 17)])⟩,
    ⟨some 6, none, .op (.mv (.tmp 18))⟩]
def c216_1 : C := .reg [⟨some 7, none, .op (.mv (.const (.slice none 0 0)))⟩]
def c216_2 : C := .reg [⟨some 19, none, .op (.mv (.tmp 1))⟩,
    ⟨some 20, none, .op (.len (.tmp 19))⟩,
    ⟨some 21, none, .op (.mv (.const (.int .i64 0)))⟩]
def c216_3 : C := .reg [⟨some 22, none, .op (.bin .lss (.tmp 21) (.tmp 20))⟩]
def c216_4 : C := .reg [⟨some 23, none, .op (.ia 1 (.tmp 19) (.tmp 21))⟩,
    ⟨some 24, none, .op (.ld none (.tmp 23))⟩,
    ⟨some 9, none, .op (.mv (.tmp 24))⟩]
def c216_5 : C := .reg [⟨some 25, none, .op (.mv (.tmp 6))⟩,
    ⟨some 26, none, .op (.mv (.tmp 0))⟩,
    ⟨some 27, none, .op (.mv (.tmp 9))⟩,
    ⟨some 28, none, .call 147 [.tmp 26, .tmp 27]⟩,
    ⟨some 29, none, .op (.un .neg (.tmp 28))⟩,
    ⟨some 30, none, .op (.mkSl (reps 1 [(.int .i64 0)]) 1 [(0, 1, .tmp 29)])⟩,
    ⟨some 31, none, .op (.app 1 8 (.tmp 25) (.tmp 30))⟩,
    ⟨some 32, none, .op (.mv (.tmp 7))⟩,
    ⟨some 33, none, .op (.mv (.tmp 9))⟩,
    ⟨some 34, none, .op (.bin .xor (.tmp 33) (.const (.int .u32 1)))⟩,
    ⟨some 35, none, .op (.mkSl (reps 1 [(.int .u32 0)]) 1 [(0, 1, .tmp 34)])⟩,
    ⟨some 36, none, .op (.app 1 4 (.tmp 32) (.tmp 35))⟩,
    ⟨some 6, none, .op (.mv (.tmp 31))⟩,
    ⟨some 7, none, .op (.mv (.tmp 36))⟩]
def c216_6 : C := .reg [⟨some 37, none, .op (.bin .add (.tmp 21) (.const (.int .i64 1)))⟩,
    ⟨some 21, none, .op (.mv (.tmp 37))⟩]
def c216_7 : C := .reg [⟨some 38, none, .op (.mv (.tmp 0))⟩,
    ⟨some 39, none, .op (.mv (.tmp 6))⟩,
    ⟨some 40, none, .call 146 [.tmp 38, .tmp 39]⟩]
def c216_8 : C := .reg [⟨some 41, none, .op (.mv (.tmp 0))⟩,
    ⟨some 42, none, .op (.mv (.tmp 0))⟩,
    ⟨some 43, none, .op (.nn (.tmp 42))⟩,
    ⟨some 44, none, .op (.fa 17 (.tmp 43))⟩,
    ⟨some 45, none, .op (.ld none (.tmp 44))⟩,
    ⟨some 46, none, .op (.mv (.tmp 7))⟩,
    ⟨some 47, none, .op (.mv (.tmp 2))⟩,
    ⟨some 48, none, .op (.mk [(.slice none 0 0), (.int .i64 0)] [(0, 1, .tmp 46), (1, 1, .tmp 47)])⟩,
    ⟨some 49, none, .op (.mkSl (reps 1 [(.slice none 0 0), (.int .i64 0)]) 1 [(0, 2, .tmp 48)])⟩,
    ⟨some 50, none, .op (.app 2 32 (.tmp 45) (.tmp 49))⟩,
    ⟨some 51, none, .op (.nn (.tmp 41))⟩,
    ⟨some 52, none, .op (.fa 17 (.tmp 51))⟩,
    ⟨none, none, .op (.st 1 (.tmp 52) (.tmp 50))⟩]
def c216 : Fn' := ⟨(.seq c216_0 (.seq c216_1 (.seq (.seq c216_2 (.block 0 (.loop (.seq c216_3 (.seq (.cond (.tmp 22) .skip (.exit 0)) (.seq (.block 1 (.seq c216_4 c216_5)) c216_6)))))) (.seq c216_7 (.cond (.tmp 40) c216_8 .skip))))), []⟩
theorem comp216 : compFn Tryz.prog 216 = some c216 := by kernel_rfl

def c217_0 : C := .reg [⟨some 6, none, .op (.mv (.const (.slice none 0 0)))⟩]
def c217_1 : C := .reg [⟨some 9, none, .op (.mv (.tmp 2))⟩,
    ⟨some 10, none, .op (.len (.tmp 9))⟩,
    ⟨some 11, none, .op (.mv (.const (.int .i64 0)))⟩]
def c217_2 : C := .reg [⟨some 12, none, .op (.bin .lss (.tmp 11) (.tmp 10))⟩]
def c217_3 : C := .reg [⟨some 13, none, .op (.ia 1 (.tmp 9) (.tmp 11))⟩,
    ⟨some 14, none, .op (.ld none (.tmp 13))⟩,
    ⟨some 8, none, .op (.mv (.tmp 14))⟩]
def c217_4 : C := .reg [⟨some 15, none, .op (.mv (.tmp 0))⟩,
    ⟨some 16, none, .op (.mv (.tmp 1))⟩,
    ⟨some 17, none, .call 213 [.tmp 15, .tmp 16]⟩,
    ⟨some 18, none, .op (.un .not (.tmp 17))⟩]
def c217_5 : C := .reg [⟨some 19, none, .op (.mv (.tmp 1))⟩,
    ⟨some 20, none, .op (.mv (.tmp 8))⟩,
    ⟨some 21, none, .call 249 [.tmp 19, .tmp 20]⟩,
    ⟨some 22, none, .op (.un .not (.tmp 21))⟩,
    ⟨some 23, none, .op (.mv (.tmp 22))⟩,
    ⟨some 24, (some (23, true)), .op (.mv (.tmp 0))⟩,
    ⟨some 25, (some (23, true)), .op (.mv (.tmp 8))⟩,
    ⟨some 26, (some (23, true)), .op (.mkSl (reps 1 [(.int .u32 0)]) 1 [(0, 1, .tmp 25)])⟩,
    ⟨some 27, (some (23, true)), .call 213 [.tmp 24, .tmp 26]⟩,
    ⟨some 28, (some (23, true)), .op (.un .not (.tmp 27))⟩,
    ⟨some 29, none, .op (.pick (.tmp 23) (.tmp 28) (.const (.bool false)))⟩]
def c217_6 : C := .reg [⟨some 30, none, .op (.mv (.tmp 1))⟩,
    ⟨some 31, none, .op (.mv (.tmp 8))⟩,
    ⟨some 32, none, .op (.mkSl (reps 1 [(.int .u32 0)]) 1 [(0, 1, .tmp 31)])⟩,
    ⟨some 33, none, .op (.app 1 4 (.tmp 30) (.tmp 32))⟩,
    ⟨some 1, none, .op (.mv (.tmp 33))⟩]
def c217_7 : C := .reg [⟨some 34, none, .op (.bin .add (.tmp 11) (.const (.int .i64 1)))⟩,
    ⟨some 11, none, .op (.mv (.tmp 34))⟩]
def c217_8 : C := .reg [⟨some 35, none, .op (.mv (.tmp 1))⟩,
    ⟨some 6, none, .op (.mv (.tmp 35))⟩]
def c217 : Fn' := ⟨(.seq c217_0 (.seq (.seq c217_1 (.block 0 (.loop (.seq c217_2 (.seq (.cond (.tmp 12) .skip (.exit 0)) (.seq (.block 1 (.seq c217_3 (.seq (.seq c217_4 (.cond (.tmp 18) (.exit 0) .skip)) (.seq c217_5 (.cond (.tmp 29) c217_6 .skip))))) c217_7)))))) (.seq c217_8 .ret))), [.tmp 6]⟩
theorem comp217 : compFn Tryz.prog 217 = some c217 := by kernel_rfl

def c218_0 : C := .reg [⟨some 4, none, .op (.mv (.const (.int .i64 0)))⟩]
def c218_1 : C := .regD 0 [⟨0, ⟨some 5, none, .op (.mv (.tmp 0))⟩, none, []⟩,
    ⟨1, ⟨some 6, none, .op (.mv (.tmp 0))⟩, none, []⟩,
    ⟨2, ⟨some 7, none, .op (.nn (.tmp 6))⟩, none, []⟩,
    ⟨3, ⟨some 8, none, .op (.fa 0 (.tmp 7))⟩, none, []⟩,
    ⟨4, ⟨some 9, none, .op (.fa 1 (.tmp 8))⟩, none, []⟩,
    ⟨5, ⟨some 10, none, .op (.ld none (.tmp 9))⟩, none, []⟩,
    ⟨6, ⟨some 11, none, .op (.mv (.tmp 0))⟩, none, []⟩,
    ⟨7, ⟨some 12, none, .op (.mv (.tmp 1))⟩, none, []⟩,
    ⟨12, ⟨some 17, none, .op (.mv (.tmp 1))⟩, none, []⟩,
    ⟨13, ⟨some 18, none, .op (.bin .and (.tmp 17) (.const (.int .u32 1)))⟩, none, []⟩,
    ⟨8, ⟨some 13, none, .call 247 [.tmp 11, .tmp 12]⟩, none, [(none, .tmp 9, 10, none)]⟩,
    ⟨9, ⟨some 14, none, .op (.ia 2 (.tmp 10) (.tmp 13))⟩, none, []⟩,
    ⟨10, ⟨some 15, none, .op (.fa 0 (.tmp 14))⟩, none, []⟩,
    ⟨11, ⟨some 16, none, .op (.ld none (.tmp 15))⟩, none, []⟩,
    ⟨14, ⟨some 19, none, .op (.bin .xor (.tmp 16) (.tmp 18))⟩, none, []⟩,
    ⟨15, ⟨some 20, none, .call 147 [.tmp 5, .tmp 19]⟩, none, []⟩,
    ⟨16, ⟨some 4, none, .op (.mv (.tmp 20))⟩, none, []⟩]
def c218 : Fn' := ⟨(.seq c218_0 (.seq c218_1 .ret)), [.tmp 4]⟩
theorem comp218 : compFn Tryz.prog 218 = some c218 := by kernel_rfl

def c246_0 : C := .reg [⟨some 3, none, .op (.mv (.const (.bool false)))⟩]
def c246_1 : C := .regD 0 [⟨0, ⟨some 5, none, .op (.ld none (.tmp 1))⟩, none, []⟩,
    ⟨1, ⟨some 6, none, .op (.nn (.tmp 5))⟩, none, []⟩,
    ⟨2, ⟨some 7, none, .op (.fa 0 (.tmp 6))⟩, none, []⟩,
    ⟨3, ⟨some 8, none, .op (.fa 1 (.tmp 7))⟩, none, []⟩,
    ⟨4, ⟨some 9, none, .op (.ld none (.tmp 8))⟩, none, []⟩,
    ⟨5, ⟨some 10, none, .op (.ld none (.tmp 1))⟩, none, []⟩,
    ⟨6, ⟨some 11, none, .op (.mv (.tmp 0))⟩, none, []⟩,
    ⟨7, ⟨some 12, none, .call 247 [.tmp 10, .tmp 11]⟩, none, [(none, .tmp 8, 9, none), (none, .tmp 1, 5, none)]⟩,
    ⟨8, ⟨some 13, none, .op (.ia 2 (.tmp 9) (.tmp 12))⟩, none, []⟩,
    ⟨9, ⟨some 14, none, .op (.fa 1 (.tmp 13))⟩, none, []⟩,
    ⟨10, ⟨some 15, none, .op (.ld none (.tmp 14))⟩, none, []⟩,
    ⟨11, ⟨some 4, none, .op (.mv (.tmp 15))⟩, none, []⟩]
def c246_2 : C := .reg [⟨some 16, none, .op (.mv (.tmp 4))⟩,
    ⟨some 17, none, .op (.bin .neq (.tmp 16) (.const (.int .u8 2)))⟩,
    ⟨some 18, none, .op (.mv (.tmp 17))⟩,
    ⟨some 19, (some (18, true)), .op (.mv (.tmp 4))⟩,
    ⟨some 20, (some (18, true)), .op (.mv (.tmp 0))⟩,
    ⟨some 21, (some (18, true)), .op (.bin .and (.tmp 20) (.const (.int .u32 1)))⟩,
    ⟨some 22, (some (18, true)), .op (.conv .u8 (.tmp 21))⟩,
    ⟨some 23, (some (18, true)), .op (.bin .eql (.tmp 19) (.tmp 22))⟩,
    ⟨some 24, none, .op (.pick (.tmp 18) (.tmp 23) (.const (.bool false)))⟩,
    ⟨some 3, none, .op (.mv (.tmp 24))⟩]
def c246 : Fn' := ⟨(.seq c246_0 (.seq c246_1 (.seq c246_2 .ret))), [.tmp 3]⟩
theorem comp246 : compFn Tryz.prog 246 = some c246 := by kernel_rfl

def c247_0 : C := .reg [⟨some 4, none, .op (.mv (.const (.int .i64 0)))⟩]
def c247_1 : C := .reg [⟨some 5, none, .op (.mv (.tmp 1))⟩,
    ⟨some 6, none, .op (.bin .shr (.tmp 5) (.const (.int .u64 1)))⟩,
    ⟨some 7, none, .op (.conv .i64 (.tmp 6))⟩,
    ⟨some 8, none, .op (.bin .sub (.tmp 7) (.const (.int .i64 1)))⟩,
    ⟨some 9, none, .op (.mv (.tmp 0))⟩,
    ⟨some 10, none, .op (.nn (.tmp 9))⟩,
    ⟨some 11, none, .op (.fa 0 (.tmp 10))⟩,
    ⟨some 12, none, .op (.fa 0 (.tmp 11))⟩,
    ⟨some 13, none, .op (.ld none (.tmp 12))⟩,
    ⟨some 14, none, .op (.bin .sub (.tmp 8) (.tmp 13))⟩,
    ⟨some 4, none, .op (.mv (.tmp 14))⟩]
def c247 : Fn' := ⟨(.seq c247_0 (.seq c247_1 .ret)), [.tmp 4]⟩
theorem comp247 : compFn Tryz.prog 247 = some c247 := by kernel_rfl

def c248_0 : C := .reg [⟨some 4, none, .op (.mv (.const (.bool false)))⟩]
def c248_1 : C := .reg [⟨some 5, none, .op (.mv (.tmp 0))⟩,
    ⟨some 6, none, .op (.mv (.tmp 1))⟩,
    ⟨some 7, none, .call 258 [.tmp 5, .tmp 6]⟩,
    ⟨some 8, none, .op (.bin .geq (.tmp 7) (.const (.int .i64 0)))⟩,
    ⟨some 4, none, .op (.mv (.tmp 8))⟩]
def c248 : Fn' := ⟨(.seq c248_0 (.seq c248_1 .ret)), [.tmp 4]⟩
theorem comp248 : compFn Tryz.prog 248 = some c248 := by kernel_rfl

def c249_0 : C := .reg [⟨some 4, none, .op (.mv (.const (.bool false)))⟩]
def c249_1 : C := .reg [⟨some 5, none, .op (.mv (.tmp 0))⟩,
    ⟨some 6, none, .op (.mv (.tmp 1))⟩,
    ⟨some 7, none, .call 259 [.tmp 5, .tmp 6]⟩,
    ⟨some 8, none, .op (.bin .geq (.tmp 7) (.const (.int .i64 0)))⟩,
    ⟨some 4, none, .op (.mv (.tmp 8))⟩]
def c249 : Fn' := ⟨(.seq c249_0 (.seq c249_1 .ret)), [.tmp 4]⟩
theorem comp249 : compFn Tryz.prog 249 = some c249 := by kernel_rfl

def c258_0 : C := .reg [⟨some 4, none, .op (.mv (.const (.int .i64 0)))⟩]
def c258_1 : C := .reg [⟨some 6, none, .op (.mv (.tmp 0))⟩,
    ⟨some 7, none, .op (.len (.tmp 6))⟩,
    ⟨some 8, none, .op (.mv (.const (.int .i64 0)))⟩]
def c258_2 : C := .reg [⟨some 9, none, .op (.bin .lss (.tmp 8) (.tmp 7))⟩]
def c258_3 : C := .reg [⟨some 10, none, .op (.mv (.tmp 8))⟩,
    ⟨some 5, none, .op (.mv (.tmp 10))⟩]
def c258_4 : C := .reg [⟨some 11, none, .op (.mv (.tmp 1))⟩,
    ⟨some 12, none, .op (.mv (.tmp 0))⟩,
    ⟨some 13, none, .op (.mv (.tmp 5))⟩,
    ⟨some 14, none, .op (.ia 1 (.tmp 12) (.tmp 13))⟩,
    ⟨some 15, none, .op (.ld none (.tmp 14))⟩,
    ⟨some 16, none, .op (.bin .eql (.tmp 11) (.tmp 15))⟩]
def c258_5 : C := .reg [⟨some 17, none, .op (.mv (.tmp 5))⟩,
    ⟨some 4, none, .op (.mv (.tmp 17))⟩]
def c258_6 : C := .reg [⟨some 18, none, .op (.bin .add (.tmp 8) (.const (.int .i64 1)))⟩,
    ⟨some 8, none, .op (.mv (.tmp 18))⟩]
def c258_7 : C := .reg [⟨some 4, none, .op (.mv (.const (.int .i64 (-1))))⟩]
def c258 : Fn' := ⟨(.seq c258_0 (.seq (.seq c258_1 (.block 0 (.loop (.seq c258_2 (.seq (.cond (.tmp 9) .skip (.exit 0)) (.seq (.block 1 (.seq c258_3 (.seq c258_4 (.cond (.tmp 16) (.seq c258_5 .ret) .skip)))) c258_6)))))) (.seq c258_7 .ret))), [.tmp 4]⟩
theorem comp258 : compFn Tryz.prog 258 = some c258 := by kernel_rfl

def c259_0 : C := .reg [⟨some 4, none, .op (.mv (.const (.int .i64 0)))⟩]
def c259_1 : C := .reg [⟨some 6, none, .op (.mv (.tmp 0))⟩,
    ⟨some 7, none, .op (.len (.tmp 6))⟩,
    ⟨some 8, none, .op (.mv (.const (.int .i64 0)))⟩]
def c259_2 : C := .reg [⟨some 9, none, .op (.bin .lss (.tmp 8) (.tmp 7))⟩]
def c259_3 : C := .reg [⟨some 10, none, .op (.mv (.tmp 8))⟩,
    ⟨some 5, none, .op (.mv (.tmp 10))⟩]
def c259_4 : C := .reg [⟨some 11, none, .op (.mv (.tmp 1))⟩,
    ⟨some 12, none, .op (.mv (.tmp 0))⟩,
    ⟨some 13, none, .op (.mv (.tmp 5))⟩,
    ⟨some 14, none, .op (.ia 1 (.tmp 12) (.tmp 13))⟩,
    ⟨some 15, none, .op (.ld none (.tmp 14))⟩,
    ⟨some 16, none, .op (.bin .eql (.tmp 11) (.tmp 15))⟩]
def c259_5 : C := .reg [⟨some 17, none, .op (.mv (.tmp 5))⟩,
    ⟨some 4, none, .op (.mv (.tmp 17))⟩]
def c259_6 : C := .reg [⟨some 18, none, .op (.bin .add (.tmp 8) (.const (.int .i64 1)))⟩,
    ⟨some 8, none, .op (.mv (.tmp 18))⟩]
def c259_7 : C := .reg [⟨some 4, none, .op (.mv (.const (.int .i64 (-1))))⟩]
def c259 : Fn' := ⟨(.seq c259_0 (.seq (.seq c259_1 (.block 0 (.loop (.seq c259_2 (.seq (.cond (.tmp 9) .skip (.exit 0)) (.seq (.block 1 (.seq c259_3 (.seq c259_4 (.cond (.tmp 16) (.seq c259_5 .ret) .skip)))) c259_6)))))) (.seq c259_7 .ret))), [.tmp 4]⟩
theorem comp259 : compFn Tryz.prog 259 = some c259 := by kernel_rfl

end Go.Proofs.YtmmpnmekiplhfaaGreat
