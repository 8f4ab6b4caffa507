/-
  The codes of the functions that the solver reaches.
-/
import Derived.Test.YtmmpnmekiplhfaaGreatAeComp
import Derived.Test.YtmmpnmekiplhfaaGreatRows
import Derived.KernelRfl
namespace Go.Proofs.YtmmpnmekiplhfaaGreat
open Go Go.Ae

def c17_0 : C := .reg [⟨some 2, none, .op (.mv (.const (.pointer none)))⟩,
    ⟨some 3, none, .op (.mv (.const (.int .i64 0)))⟩]
def c17_1 : C := .reg [⟨some 5, none, .op (.mv (.tmp 0))⟩,
    ⟨some 6, none, .op (.bin .lss (.tmp 5) (.const (.int .i64 0)))⟩,
    ⟨some 7, none, .op (.mv (.tmp 6))⟩,
    ⟨some 8, (some (7, false)), .op (.mv (.tmp 0))⟩,
    ⟨some 9, (some (7, false)), .op (.bin .gtr (.tmp 8) (.const (.int .i64 4194304)))⟩,
    ⟨some 10, none, .op (.pick (.tmp 7) (.const (.bool true)) (.tmp 9))⟩]
def c17_2 : C := .reg [⟨some 2, none, .op (.mv (.const (.pointer none)))⟩,
    ⟨some 3, none, .op (.mv (.const (.int .i64 2)))⟩]
def c17_3 : C := .reg [⟨some 11, none, .op (.mk [(.int .i64 0), (.int .i64 0), (.bool false), (.slice none 0 0), (.slice none 0 0), (.slice none 0 0), (.slice none 0 0), (.slice none 0 0), (.slice none 0 0), (.slice none 0 0), (.slice none 0 0), (.slice none 0 0), (.slice none 0 0), (.int .i64 0), (.pointer none), (.slice none 0 0), (.slice none 0 0), (.int .i64 0)] [])⟩,
    ⟨some 12, none, .op (.box (.tmp 11))⟩,
    ⟨some 4, none, .op (.mv (.tmp 12))⟩]
def c17_4 : C := .reg [⟨some 13, none, .op (.mv (.tmp 4))⟩,
    ⟨some 14, none, .op (.mv (.tmp 0))⟩,
    ⟨some 15, none, .call 59 [.tmp 13, .tmp 14]⟩]
def c17_5 : C := .reg [⟨some 16, none, .op (.mv (.tmp 4))⟩,
    ⟨some 2, none, .op (.mv (.tmp 16))⟩,
    ⟨some 3, none, .op (.mv (.const (.int .i64 0)))⟩]
def c17 : Fn' := ⟨(.seq c17_0 (.seq (.seq c17_1 (.cond (.tmp 10) (.seq c17_2 .ret) .skip)) (.seq c17_3 (.seq c17_4 (.seq c17_5 .ret))))), [.tmp 2, .tmp 3]⟩
theorem comp17 : compFn Tryz.prog 17 = some c17 := by kernel_rfl

def c19_0 : C := .reg [⟨some 0, none, .op (.mv (.const (.bool false)))⟩]
def c19_1 : C := .reg [⟨some 13, none, .call 17 [.const (.int .i64 3)]⟩,
    ⟨some 12, none, .op (.mv (.tmp 13))⟩,
    ⟨some 14, none, .op (.ext (.tmp 12) 0)⟩,
    ⟨some 15, none, .op (.ext (.tmp 12) 1)⟩,
    ⟨some 1, none, .op (.mv (.tmp 14))⟩,
    ⟨some 2, none, .op (.mv (.tmp 15))⟩]
def c19_2 : C := .reg [⟨some 16, none, .op (.mv (.tmp 2))⟩,
    ⟨some 17, none, .op (.bin .neq (.tmp 16) (.const (.int .i64 0)))⟩,
    ⟨some 18, none, .op (.mv (.tmp 17))⟩,
    ⟨some 19, (some (18, false)), .op (.mv (.tmp 1))⟩,
    ⟨some 20, (some (18, false)), .op (.nil 0 false (.tmp 19) (.const (.pointer none)))⟩,
    ⟨some 21, none, .op (.pick (.tmp 18) (.const (.bool true)) (.tmp 20))⟩,
    ⟨some 22, none, .op (.mv (.tmp 21))⟩,
    ⟨some 23, (some (22, false)), .op (.mv (.tmp 1))⟩,
    ⟨some 24, (some (22, false)), .op (.mkSl (reps 2 [(.int .i64 0)]) 2 [(0, 1, .const (.int .i64 (-1))), (1, 1, .const (.int .i64 2))])⟩,
    ⟨some 25, (some (22, false)), .call 20 [.tmp 23, .tmp 24]⟩,
    ⟨some 26, (some (22, false)), .op (.bin .neq (.tmp 25) (.const (.int .i64 0)))⟩,
    ⟨some 27, none, .op (.pick (.tmp 22) (.const (.bool true)) (.tmp 26))⟩,
    ⟨some 28, none, .op (.mv (.tmp 27))⟩,
    ⟨some 29, (some (28, false)), .op (.mv (.tmp 1))⟩,
    ⟨some 30, (some (28, false)), .op (.mkSl (reps 2 [(.int .i64 0)]) 2 [(0, 1, .const (.int .i64 (-2))), (1, 1, .const (.int .i64 3))])⟩,
    ⟨some 31, (some (28, false)), .call 20 [.tmp 29, .tmp 30]⟩,
    ⟨some 32, (some (28, false)), .op (.bin .neq (.tmp 31) (.const (.int .i64 0)))⟩,
    ⟨some 33, none, .op (.pick (.tmp 28) (.const (.bool true)) (.tmp 32))⟩]
def c19_3 : C := .reg [⟨some 0, none, .op (.mv (.const (.bool false)))⟩]
def c19_4 : C := .reg [⟨some 35, none, .op (.mv (.tmp 1))⟩,
    ⟨some 36, none, .op (.mkSl (reps 1 [(.int .i64 0)]) 1 [(0, 1, .const (.int .i64 1))])⟩,
    ⟨some 37, none, .call 23 [.tmp 35, .tmp 36, .const (.int .i64 100)]⟩,
    ⟨some 34, none, .op (.mv (.tmp 37))⟩,
    ⟨some 38, none, .op (.ext (.tmp 34) 0)⟩,
    ⟨some 39, none, .op (.ext (.tmp 34) 1)⟩,
    ⟨some 3, none, .op (.mv (.tmp 38))⟩,
    ⟨some 4, none, .op (.mv (.tmp 39))⟩]
def c19_5 : C := .reg [⟨some 40, none, .op (.mv (.tmp 1))⟩,
    ⟨some 41, none, .call 26 [.tmp 40]⟩,
    ⟨some 5, none, .op (.mv (.tmp 41))⟩]
def c19_6 : C := .reg [⟨some 42, none, .op (.mv (.tmp 3))⟩,
    ⟨some 43, none, .op (.bin .neq (.tmp 42) (.const (.int .u8 1)))⟩,
    ⟨some 44, none, .op (.mv (.tmp 43))⟩,
    ⟨some 45, (some (44, false)), .op (.mv (.tmp 4))⟩,
    ⟨some 46, (some (44, false)), .op (.bin .neq (.tmp 45) (.const (.int .i64 0)))⟩,
    ⟨some 47, none, .op (.pick (.tmp 44) (.const (.bool true)) (.tmp 46))⟩,
    ⟨some 48, none, .op (.mv (.tmp 47))⟩,
    ⟨some 49, (some (48, false)), .op (.mv (.tmp 5))⟩,
    ⟨some 50, (some (48, false)), .op (.mkSl (reps 4 [(.bool false)]) 4 [(0, 1, .const (.bool false)), (1, 1, .const (.bool true)), (2, 1, .const (.bool true)), (3, 1, .const (.bool true))])⟩,
    ⟨some 51, (some (48, false)), .call 61 [.tmp 49, .tmp 50]⟩,
    ⟨some 52, (some (48, false)), .op (.un .not (.tmp 51))⟩,
    ⟨some 53, none, .op (.pick (.tmp 48) (.const (.bool true)) (.tmp 52))⟩]
def c19_7 : C := .reg [⟨some 0, none, .op (.mv (.const (.bool false)))⟩]
def c19_8 : C := .reg [⟨some 55, none, .op (.mv (.tmp 1))⟩,
    ⟨some 56, none, .op (.mkSl (reps 2 [(.int .i64 0)]) 2 [(0, 1, .const (.int .i64 1)), (1, 1, .const (.int .i64 (-3)))])⟩,
    ⟨some 57, none, .call 23 [.tmp 55, .tmp 56, .const (.int .i64 100)]⟩,
    ⟨some 54, none, .op (.mv (.tmp 57))⟩,
    ⟨some 58, none, .op (.ext (.tmp 54) 0)⟩,
    ⟨some 59, none, .op (.ext (.tmp 54) 1)⟩,
    ⟨some 6, none, .op (.mv (.tmp 58))⟩,
    ⟨some 7, none, .op (.mv (.tmp 59))⟩]
def c19_9 : C := .reg [⟨some 60, none, .op (.mv (.tmp 1))⟩,
    ⟨some 61, none, .call 30 [.tmp 60]⟩,
    ⟨some 8, none, .op (.mv (.tmp 61))⟩]
def c19_10 : C := .reg [⟨some 62, none, .op (.mv (.tmp 1))⟩,
    ⟨some 63, none, .call 20 [.tmp 62, .const (.slice none 0 0)]⟩,
    ⟨some 9, none, .op (.mv (.tmp 63))⟩]
def c19_11 : C := .reg [⟨some 65, none, .op (.mv (.tmp 1))⟩,
    ⟨some 66, none, .call 23 [.tmp 65, .const (.slice none 0 0), .const (.int .i64 100)]⟩,
    ⟨some 64, none, .op (.mv (.tmp 66))⟩,
    ⟨some 67, none, .op (.ext (.tmp 64) 0)⟩,
    ⟨some 68, none, .op (.ext (.tmp 64) 1)⟩,
    ⟨some 10, none, .op (.mv (.tmp 67))⟩,
    ⟨some 11, none, .op (.mv (.tmp 68))⟩]
def c19_12 : C := .reg [⟨some 69, none, .op (.mv (.tmp 6))⟩,
    ⟨some 70, none, .op (.bin .eql (.tmp 69) (.const (.int .u8 2)))⟩,
    ⟨some 71, none, .op (.mv (.tmp 70))⟩,
    ⟨some 72, (some (71, true)), .op (.mv (.tmp 7))⟩,
    ⟨some 73, (some (71, true)), .op (.bin .eql (.tmp 72) (.const (.int .i64 0)))⟩,
    ⟨some 74, none, .op (.pick (.tmp 71) (.tmp 73) (.const (.bool false)))⟩,
    ⟨some 75, none, .op (.mv (.tmp 74))⟩,
    ⟨some 76, (some (75, true)), .op (.mv (.tmp 8))⟩,
    ⟨some 77, (some (75, true)), .op (.mkSl (reps 2 [(.int .i64 0)]) 2 [(0, 1, .const (.int .i64 1)), (1, 1, .const (.int .i64 (-3)))])⟩,
    ⟨some 78, (some (75, true)), .call 62 [.tmp 76, .tmp 77]⟩,
    ⟨some 79, none, .op (.pick (.tmp 75) (.tmp 78) (.const (.bool false)))⟩,
    ⟨some 80, none, .op (.mv (.tmp 79))⟩,
    ⟨some 81, (some (80, true)), .op (.mv (.tmp 9))⟩,
    ⟨some 82, (some (80, true)), .op (.bin .eql (.tmp 81) (.const (.int .i64 0)))⟩,
    ⟨some 83, none, .op (.pick (.tmp 80) (.tmp 82) (.const (.bool false)))⟩,
    ⟨some 84, none, .op (.mv (.tmp 83))⟩,
    ⟨some 85, (some (84, true)), .op (.mv (.tmp 10))⟩,
    ⟨some 86, (some (84, true)), .op (.bin .eql (.tmp 85) (.const (.int .u8 2)))⟩,
    ⟨some 87, none, .op (.pick (.tmp 84) (.tmp 86) (.const (.bool false)))⟩,
    ⟨some 88, none, .op (.mv (.tmp 87))⟩,
    ⟨some 89, (some (88, true)), .op (.mv (.tmp 11))⟩,
    ⟨some 90, (some (88, true)), .op (.bin .eql (.tmp 89) (.const (.int .i64 0)))⟩,
    ⟨some 91, none, .op (.pick (.tmp 88) (.tmp 90) (.const (.bool false)))⟩,
    ⟨some 92, none, .op (.mv (.tmp 91))⟩,
    ⟨some 93, (some (92, true)), .op (.mv (.tmp 1))⟩,
    ⟨some 94, (some (92, true)), .call 30 [.tmp 93]⟩,
    ⟨some 95, (some (92, true)), .op (.len (.tmp 94))⟩,
    ⟨some 96, (some (92, true)), .op (.bin .eql (.tmp 95) (.const (.int .i64 0)))⟩,
    ⟨some 97, none, .op (.pick (.tmp 92) (.tmp 96) (.const (.bool false)))⟩,
    ⟨some 0, none, .op (.mv (.tmp 97))⟩]
def c19 : Fn' := ⟨(.seq c19_0 (.seq c19_1 (.seq (.seq c19_2 (.cond (.tmp 33) (.seq c19_3 .ret) .skip)) (.seq c19_4 (.seq c19_5 (.seq (.seq c19_6 (.cond (.tmp 53) (.seq c19_7 .ret) .skip)) (.seq c19_8 (.seq c19_9 (.seq c19_10 (.seq c19_11 (.seq c19_12 .ret))))))))))), [.tmp 0]⟩
theorem comp19 : compFn Tryz.prog 19 = some c19 := by kernel_rfl

def c20_0 : C := .reg [⟨some 2, none, .op (.box (.tmp 0))⟩,
    ⟨some 4, none, .op (.mv (.const (.int .i64 0)))⟩]
def c20_1 : C := .reg [⟨some 8, none, .op (.ld none (.tmp 2))⟩,
    ⟨some 9, none, .call 63 [.tmp 8]⟩]
def c20_2 : C := .reg [⟨some 4, none, .op (.mv (.const (.int .i64 1)))⟩]
def c20_3 : C := .reg [⟨some 11, none, .op (.mv (.tmp 1))⟩,
    ⟨some 12, none, .op (.ld none (.tmp 2))⟩,
    ⟨some 13, none, .op (.nn (.tmp 12))⟩,
    ⟨some 14, none, .op (.fa 0 (.tmp 13))⟩,
    ⟨some 15, none, .op (.ld none (.tmp 14))⟩,
    ⟨some 16, none, .call 64 [.tmp 11, .tmp 15]⟩,
    ⟨some 10, none, .op (.mv (.tmp 16))⟩,
    ⟨some 17, none, .op (.ext (.tmp 10) 0)⟩,
    ⟨some 18, none, .op (.ext (.tmp 10) 1)⟩,
    ⟨some 19, none, .op (.ext (.tmp 10) 2)⟩,
    ⟨some 5, none, .op (.mv (.tmp 17))⟩,
    ⟨some 6, none, .op (.mv (.tmp 18))⟩,
    ⟨some 7, none, .op (.mv (.tmp 19))⟩]
def c20_4 : C := .reg [⟨some 21, none, .op (.mv (.tmp 7))⟩,
    ⟨some 22, none, .op (.bin .neq (.tmp 21) (.const (.int .i64 0)))⟩,
    ⟨some 20, none, .op (.mv (.tmp 22))⟩]
def c20_5 : C := .reg [⟨some 23, none, .op (.mv (.tmp 7))⟩,
    ⟨some 4, none, .op (.mv (.tmp 23))⟩]
def c20_6 : C := .reg [⟨some 25, none, .op (.ld none (.tmp 2))⟩,
    ⟨some 26, none, .op (.nn (.tmp 25))⟩,
    ⟨some 27, none, .op (.fa 1 (.tmp 26))⟩,
    ⟨some 28, none, .op (.ld none (.tmp 27))⟩,
    ⟨some 29, none, .op (.bin .eql (.tmp 28) (.const (.int .i64 1048576)))⟩,
    ⟨some 24, none, .op (.mv (.tmp 29))⟩]
def c20_7 : C := .reg [⟨some 4, none, .op (.mv (.const (.int .i64 3)))⟩]
def c20_8 : C := .reg [⟨some 30, none, .op (.ld none (.tmp 2))⟩,
    ⟨some 31, none, .call 65 [.tmp 30]⟩]
def c20_9 : C := .reg [⟨some 32, none, .op (.ld none (.tmp 2))⟩,
    ⟨some 33, none, .op (.nn (.tmp 32))⟩,
    ⟨some 34, none, .op (.fa 1 (.tmp 33))⟩,
    ⟨some 35, none, .op (.ld none (.tmp 34))⟩,
    ⟨some 36, none, .op (.bin .add (.tmp 35) (.const (.int .i64 1)))⟩,
    ⟨some 37, none, .op (.nn (.tmp 32))⟩,
    ⟨some 38, none, .op (.fa 1 (.tmp 37))⟩,
    ⟨none, none, .op (.st 1 (.tmp 38) (.tmp 36))⟩]
def c20_10 : C := .reg [⟨some 39, none, .op (.mv (.tmp 6))⟩,
    ⟨some 40, none, .op (.mv (.tmp 39))⟩,
    ⟨some 41, (some (40, false)), .op (.mv (.tmp 5))⟩,
    ⟨some 42, (some (40, false)), .op (.fn 67 [] [.tmp 2])⟩,
    ⟨some 43, (some (40, false)), .call 66 [.tmp 41, .tmp 42]⟩,
    ⟨some 44, none, .op (.pick (.tmp 40) (.const (.bool true)) (.tmp 43))⟩]
def c20_11 : C := .reg [⟨some 4, none, .op (.mv (.const (.int .i64 0)))⟩]
def c20_12 : C := .reg [⟨some 45, none, .op (.mv (.tmp 5))⟩,
    ⟨some 46, none, .op (.fn 70 [] [.tmp 2])⟩,
    ⟨some 47, none, .call 69 [.tmp 45, .tmp 46]⟩,
    ⟨some 5, none, .op (.mv (.tmp 47))⟩]
def c20_13 : C := .reg [⟨some 48, none, .op (.mv (.tmp 5))⟩,
    ⟨some 49, none, .op (.len (.tmp 48))⟩]
def c20_14 : C := .reg [⟨some 54, none, .op (.bin .eql (.tmp 49) (.const (.int .i64 0)))⟩,
    ⟨some 53, none, .op (.mv (.tmp 54))⟩]
def c20_15 : C := .reg [⟨some 55, none, .op (.ld none (.tmp 2))⟩,
    ⟨some 56, none, .op (.nn (.tmp 55))⟩,
    ⟨some 57, none, .op (.fa 2 (.tmp 56))⟩,
    ⟨none, none, .op (.st 1 (.tmp 57) (.const (.bool true)))⟩]
def c20_16 : C := .reg [⟨some 59, none, .op (.bin .eql (.tmp 49) (.const (.int .i64 1)))⟩,
    ⟨some 58, none, .op (.mv (.tmp 59))⟩]
def c20_17 : C := .regD 0 [⟨0, ⟨some 60, none, .op (.ld none (.tmp 2))⟩, none, []⟩,
    ⟨1, ⟨some 61, none, .op (.mv (.tmp 5))⟩, none, []⟩,
    ⟨2, ⟨some 62, none, .op (.ia 1 (.tmp 61) (.const (.int .i64 0)))⟩, none, []⟩,
    ⟨3, ⟨some 63, none, .op (.ld none (.tmp 62))⟩, none, []⟩,
    ⟨4, ⟨some 64, none, .call 71 [.tmp 60, .tmp 63, .const (.int .i64 (-1))]⟩, none, []⟩]
def c20_18 : C := .reg [⟨some 50, none, .op (.ld none (.tmp 2))⟩,
    ⟨some 51, none, .op (.mv (.tmp 5))⟩,
    ⟨some 52, none, .call 72 [.tmp 50, .tmp 51, .const (.bool false)]⟩]
def c20_19 : C := .reg [⟨some 4, none, .op (.mv (.const (.int .i64 0)))⟩]
def c20 : Fn' := ⟨(.seq c20_0 (.seq (.seq c20_1 (.cond (.tmp 9) (.seq c20_2 .ret) .skip)) (.seq c20_3 (.seq (.block 0 (.seq c20_4 (.cond (.tmp 20) (.seq c20_5 .ret) (.seq c20_6 (.cond (.tmp 24) (.seq c20_7 .ret) .skip))))) (.seq c20_8 (.seq c20_9 (.seq (.seq c20_10 (.cond (.tmp 44) (.seq c20_11 .ret) .skip)) (.seq c20_12 (.seq (.seq c20_13 (.block 1 (.seq c20_14 (.cond (.tmp 53) c20_15 (.seq c20_16 (.cond (.tmp 58) c20_17 c20_18)))))) (.seq c20_19 .ret)))))))))), [.tmp 4]⟩
theorem comp20 : compFn Tryz.prog 20 = some c20 := by kernel_rfl

def c23_0 : C := .reg [⟨some 6, none, .op (.mv (.const (.int .u8 0)))⟩,
    ⟨some 7, none, .op (.mv (.const (.int .i64 0)))⟩]
def c23_1 : C := .reg [⟨some 8, none, .op (.mv (.tmp 0))⟩,
    ⟨some 9, none, .call 63 [.tmp 8]⟩]
def c23_2 : C := .reg [⟨some 6, none, .op (.mv (.const (.int .u8 0)))⟩,
    ⟨some 7, none, .op (.mv (.const (.int .i64 1)))⟩]
def c23_3 : C := .reg [⟨some 10, none, .op (.mv (.tmp 1))⟩,
    ⟨some 11, none, .op (.mkSl (reps 1 [(.slice none 0 0)]) 1 [(0, 1, .tmp 10)])⟩,
    ⟨some 12, none, .op (.mv (.tmp 0))⟩,
    ⟨some 13, none, .op (.nn (.tmp 12))⟩,
    ⟨some 14, none, .op (.fa 0 (.tmp 13))⟩,
    ⟨some 15, none, .op (.ld none (.tmp 14))⟩,
    ⟨some 16, none, .call 73 [.tmp 11, .tmp 15]⟩,
    ⟨some 17, none, .op (.un .not (.tmp 16))⟩,
    ⟨some 18, none, .op (.mv (.tmp 17))⟩,
    ⟨some 19, (some (18, false)), .op (.mv (.tmp 2))⟩,
    ⟨some 20, (some (18, false)), .op (.bin .lss (.tmp 19) (.const (.int .i64 0)))⟩,
    ⟨some 21, none, .op (.pick (.tmp 18) (.const (.bool true)) (.tmp 20))⟩,
    ⟨some 22, none, .op (.mv (.tmp 21))⟩,
    ⟨some 23, (some (22, false)), .op (.mv (.tmp 2))⟩,
    ⟨some 24, (some (22, false)), .op (.bin .gtr (.tmp 23) (.const (.int .i64 1048576)))⟩,
    ⟨some 25, none, .op (.pick (.tmp 22) (.const (.bool true)) (.tmp 24))⟩]
def c23_4 : C := .reg [⟨some 6, none, .op (.mv (.const (.int .u8 0)))⟩,
    ⟨some 7, none, .op (.mv (.const (.int .i64 2)))⟩]
def c23_5 : C := .reg [⟨some 26, none, .op (.mv (.tmp 0))⟩,
    ⟨some 27, none, .call 65 [.tmp 26]⟩]
def c23_6 : C := .reg [⟨some 28, none, .op (.mv (.tmp 0))⟩,
    ⟨some 29, none, .op (.nn (.tmp 28))⟩,
    ⟨some 30, none, .op (.fa 17 (.tmp 29))⟩,
    ⟨none, none, .op (.st 1 (.tmp 30) (.const (.int .i64 0)))⟩]
def c23_7 : C := .reg [⟨some 31, none, .op (.mv (.tmp 0))⟩,
    ⟨some 32, none, .op (.nn (.tmp 31))⟩,
    ⟨some 33, none, .op (.fa 2 (.tmp 32))⟩,
    ⟨some 34, none, .op (.ld none (.tmp 33))⟩]
def c23_8 : C := .reg [⟨some 6, none, .op (.mv (.const (.int .u8 2)))⟩,
    ⟨some 7, none, .op (.mv (.const (.int .i64 0)))⟩]
def c23_9 : C := .reg [⟨some 35, none, .op (.mv (.tmp 0))⟩,
    ⟨some 36, none, .op (.mv (.tmp 1))⟩,
    ⟨some 37, none, .op (.mv (.tmp 2))⟩,
    ⟨some 38, none, .call 74 [.tmp 35, .tmp 36, .tmp 37]⟩,
    ⟨some 6, none, .op (.mv (.tmp 38))⟩,
    ⟨some 7, none, .op (.mv (.const (.int .i64 0)))⟩]
def c23 : Fn' := ⟨(.seq c23_0 (.seq (.seq c23_1 (.cond (.tmp 9) (.seq c23_2 .ret) .skip)) (.seq (.seq c23_3 (.cond (.tmp 25) (.seq c23_4 .ret) .skip)) (.seq c23_5 (.seq c23_6 (.seq (.seq c23_7 (.cond (.tmp 34) (.seq c23_8 .ret) .skip)) (.seq c23_9 .ret))))))), [.tmp 6, .tmp 7]⟩
theorem comp23 : compFn Tryz.prog 23 = some c23 := by kernel_rfl

def c26_0 : C := .reg [⟨some 2, none, .op (.mv (.const (.slice none 0 0)))⟩]
def c26_1 : C := .reg [⟨some 3, none, .op (.mv (.tmp 0))⟩,
    ⟨some 4, none, .call 63 [.tmp 3]⟩]
def c26_2 : C := .reg [⟨some 2, none, .op (.mv (.const (.slice none 0 0)))⟩]
def c26_3 : C := .reg [⟨some 5, none, .op (.mv (.tmp 0))⟩,
    ⟨some 6, none, .op (.nn (.tmp 5))⟩,
    ⟨some 7, none, .op (.fa 15 (.tmp 6))⟩,
    ⟨some 8, none, .op (.ld none (.tmp 7))⟩,
    ⟨some 9, none, .call 76 [.tmp 8]⟩,
    ⟨some 2, none, .op (.mv (.tmp 9))⟩]
def c26 : Fn' := ⟨(.seq c26_0 (.seq (.seq c26_1 (.cond (.tmp 4) (.seq c26_2 .ret) .skip)) (.seq c26_3 .ret))), [.tmp 2]⟩
theorem comp26 : compFn Tryz.prog 26 = some c26 := by kernel_rfl

def c30_0 : C := .reg [⟨some 2, none, .op (.mv (.const (.slice none 0 0)))⟩]
def c30_1 : C := .reg [⟨some 3, none, .op (.mv (.tmp 0))⟩,
    ⟨some 4, none, .call 63 [.tmp 3]⟩]
def c30_2 : C := .reg [⟨some 2, none, .op (.mv (.const (.slice none 0 0)))⟩]
def c30_3 : C := .reg [⟨some 5, none, .op (.mv (.tmp 0))⟩,
    ⟨some 6, none, .op (.nn (.tmp 5))⟩,
    ⟨some 7, none, .op (.fa 16 (.tmp 6))⟩,
    ⟨some 8, none, .op (.ld none (.tmp 7))⟩,
    ⟨some 9, none, .call 78 [.tmp 8]⟩,
    ⟨some 2, none, .op (.mv (.tmp 9))⟩]
def c30 : Fn' := ⟨(.seq c30_0 (.seq (.seq c30_1 (.cond (.tmp 4) (.seq c30_2 .ret) .skip)) (.seq c30_3 .ret))), [.tmp 2]⟩
theorem comp30 : compFn Tryz.prog 30 = some c30 := by kernel_rfl

def c59_0 : C := .reg [⟨some 4, none, .op (.mv (.tmp 0))⟩,
    ⟨some 5, none, .op (.nn (.tmp 4))⟩,
    ⟨some 6, none, .op (.fa 6 (.tmp 5))⟩,
    ⟨some 7, none, .op (.ld none (.tmp 6))⟩,
    ⟨some 8, none, .op (.len (.tmp 7))⟩,
    ⟨some 9, none, .op (.mv (.tmp 1))⟩,
    ⟨some 10, none, .op (.bin .leq (.tmp 8) (.tmp 9))⟩]
def c59_1 : C := .regD 3 [⟨0, ⟨some 11, none, .op (.mv (.tmp 0))⟩, none, []⟩,
    ⟨1, ⟨some 12, none, .op (.mv (.tmp 0))⟩, none, []⟩,
    ⟨2, ⟨some 13, none, .op (.mv (.tmp 0))⟩, none, []⟩,
    ⟨3, ⟨some 14, none, .op (.mv (.tmp 0))⟩, none, []⟩,
    ⟨4, ⟨some 15, none, .op (.nn (.tmp 14))⟩, none, []⟩,
    ⟨5, ⟨some 16, none, .op (.fa 6 (.tmp 15))⟩, none, []⟩,
    ⟨6, ⟨some 17, none, .op (.ld none (.tmp 16))⟩, none, []⟩,
    ⟨9, ⟨some 20, none, .op (.mv (.tmp 0))⟩, none, []⟩,
    ⟨10, ⟨some 21, none, .op (.nn (.tmp 20))⟩, none, []⟩,
    ⟨11, ⟨some 22, none, .op (.fa 7 (.tmp 21))⟩, none, []⟩,
    ⟨12, ⟨some 23, none, .op (.ld none (.tmp 22))⟩, none, []⟩,
    ⟨15, ⟨some 26, none, .op (.mv (.tmp 0))⟩, none, []⟩,
    ⟨16, ⟨some 27, none, .op (.nn (.tmp 26))⟩, none, []⟩,
    ⟨17, ⟨some 28, none, .op (.fa 8 (.tmp 27))⟩, none, []⟩,
    ⟨18, ⟨some 29, none, .op (.ld none (.tmp 28))⟩, none, []⟩,
    ⟨7, ⟨some 18, none, .op (.mkSl (reps 1 [(.int .i8 0)]) 1 [(0, 1, .const (.int .i8 0))])⟩, some 0, []⟩,
    ⟨8, ⟨some 19, none, .op (.app 1 1 (.tmp 17) (.tmp 18))⟩, none, [(none, .tmp 28, 29, none), (none, .tmp 22, 23, none)]⟩,
    ⟨13, ⟨some 24, none, .op (.mkSl (reps 1 [(.int .i64 0)]) 1 [(0, 1, .const (.int .i64 0))])⟩, some 1, []⟩,
    ⟨14, ⟨some 25, none, .op (.app 1 8 (.tmp 23) (.tmp 24))⟩, none, [(none, .tmp 28, 29, none)]⟩,
    ⟨19, ⟨some 30, none, .op (.mkSl (reps 1 [(.int .i64 0)]) 1 [(0, 1, .const (.int .i64 (-1)))])⟩, some 2, []⟩,
    ⟨20, ⟨some 31, none, .op (.app 1 8 (.tmp 29) (.tmp 30))⟩, none, []⟩,
    ⟨21, ⟨some 32, none, .op (.nn (.tmp 11))⟩, none, []⟩,
    ⟨22, ⟨some 33, none, .op (.fa 6 (.tmp 32))⟩, none, []⟩,
    ⟨23, ⟨none, none, .op (.st 1 (.tmp 33) (.tmp 19))⟩, none, []⟩,
    ⟨24, ⟨some 34, none, .op (.nn (.tmp 12))⟩, none, []⟩,
    ⟨25, ⟨some 35, none, .op (.fa 7 (.tmp 34))⟩, none, []⟩,
    ⟨26, ⟨none, none, .op (.st 1 (.tmp 35) (.tmp 25))⟩, none, []⟩,
    ⟨27, ⟨some 36, none, .op (.nn (.tmp 13))⟩, none, []⟩,
    ⟨28, ⟨some 37, none, .op (.fa 8 (.tmp 36))⟩, none, []⟩,
    ⟨29, ⟨none, none, .op (.st 1 (.tmp 37) (.tmp 31))⟩, none, []⟩]
def c59_2 : C := .regD 2 [⟨0, ⟨some 38, none, .op (.mv (.tmp 0))⟩, none, []⟩,
    ⟨1, ⟨some 39, none, .op (.mv (.tmp 0))⟩, none, []⟩,
    ⟨2, ⟨some 40, none, .op (.mv (.tmp 0))⟩, none, []⟩,
    ⟨3, ⟨some 41, none, .op (.nn (.tmp 40))⟩, none, []⟩,
    ⟨4, ⟨some 42, none, .op (.fa 9 (.tmp 41))⟩, none, []⟩,
    ⟨5, ⟨some 43, none, .op (.ld none (.tmp 42))⟩, none, []⟩,
    ⟨8, ⟨some 46, none, .op (.mv (.tmp 0))⟩, none, []⟩,
    ⟨9, ⟨some 47, none, .op (.nn (.tmp 46))⟩, none, []⟩,
    ⟨10, ⟨some 48, none, .op (.fa 10 (.tmp 47))⟩, none, []⟩,
    ⟨11, ⟨some 49, none, .op (.ld none (.tmp 48))⟩, none, []⟩,
    ⟨6, ⟨some 44, none, .op (.mkSl (reps 1 [(.bool false)]) 1 [(0, 1, .const (.bool false))])⟩, some 0, []⟩,
    ⟨7, ⟨some 45, none, .op (.app 1 1 (.tmp 43) (.tmp 44))⟩, none, [(none, .tmp 48, 49, none)]⟩,
    ⟨12, ⟨some 50, none, .op (.mkSl (reps 1 [(.bool false)]) 1 [(0, 1, .const (.bool false))])⟩, some 1, []⟩,
    ⟨13, ⟨some 51, none, .op (.app 1 1 (.tmp 49) (.tmp 50))⟩, none, []⟩,
    ⟨14, ⟨some 52, none, .op (.nn (.tmp 38))⟩, none, []⟩,
    ⟨15, ⟨some 53, none, .op (.fa 9 (.tmp 52))⟩, none, []⟩,
    ⟨16, ⟨none, none, .op (.st 1 (.tmp 53) (.tmp 45))⟩, none, []⟩,
    ⟨17, ⟨some 54, none, .op (.nn (.tmp 39))⟩, none, []⟩,
    ⟨18, ⟨some 55, none, .op (.fa 10 (.tmp 54))⟩, none, []⟩,
    ⟨19, ⟨none, none, .op (.st 1 (.tmp 55) (.tmp 51))⟩, none, []⟩]
def c59_3 : C := .reg [⟨some 56, none, .op (.mv (.tmp 0))⟩,
    ⟨some 57, none, .op (.mv (.tmp 0))⟩,
    ⟨some 58, none, .op (.nn (.tmp 57))⟩,
    ⟨some 59, none, .op (.fa 5 (.tmp 58))⟩,
    ⟨some 60, none, .op (.ld none (.tmp 59))⟩,
    ⟨some 61, none, .op (.mkSl (reps 2 [(.slice none 0 0)]) 2 [(0, 1, .const (.slice none 0 0)), (1, 1, .const (.slice none 0 0))])⟩,
    ⟨some 62, none, .op (.app 1 24 (.tmp 60) (.tmp 61))⟩,
    ⟨some 63, none, .op (.nn (.tmp 56))⟩,
    ⟨some 64, none, .op (.fa 5 (.tmp 63))⟩,
    ⟨none, none, .op (.st 1 (.tmp 64) (.tmp 62))⟩]
def c59_4 : C := .reg [⟨some 65, none, .op (.mv (.tmp 0))⟩,
    ⟨some 66, none, .op (.mv (.tmp 1))⟩,
    ⟨some 67, none, .op (.nn (.tmp 65))⟩,
    ⟨some 68, none, .op (.fa 0 (.tmp 67))⟩,
    ⟨none, none, .op (.st 1 (.tmp 68) (.tmp 66))⟩]
def c59_5 : C := .reg [⟨some 70, none, .op (.mv (.tmp 0))⟩,
    ⟨some 71, none, .op (.mv (.tmp 1))⟩,
    ⟨some 72, none, .call 111 [.tmp 71]⟩,
    ⟨some 69, none, .op (.mv (.tmp 72))⟩,
    ⟨some 73, none, .op (.ext (.tmp 69) 0)⟩,
    ⟨some 74, none, .op (.ext (.tmp 69) 1)⟩,
    ⟨some 75, none, .op (.nn (.tmp 70))⟩,
    ⟨some 76, none, .op (.fa 14 (.tmp 75))⟩,
    ⟨none, none, .op (.st 1 (.tmp 76) (.tmp 73))⟩]
def c59 : Fn' := ⟨(.seq (.block 0 (.loop (.seq (.seq c59_0 (.cond (.tmp 10) .skip (.exit 0))) (.block 1 (.seq c59_1 (.seq c59_2 c59_3)))))) (.seq c59_4 c59_5)), []⟩
theorem comp59 : compFn Tryz.prog 59 = some c59 := by kernel_rfl

def c61_0 : C := .reg [⟨some 4, none, .op (.mv (.const (.bool false)))⟩]
def c61_1 : C := .reg [⟨some 7, none, .op (.mv (.tmp 0))⟩,
    ⟨some 8, none, .op (.len (.tmp 7))⟩,
    ⟨some 9, none, .op (.mv (.const (.int .i64 0)))⟩]
def c61_2 : C := .reg [⟨some 10, none, .op (.bin .lss (.tmp 9) (.tmp 8))⟩]
def c61_3 : C := .reg [⟨some 11, none, .op (.mv (.tmp 9))⟩,
    ⟨some 12, none, .op (.ia 1 (.tmp 7) (.tmp 9))⟩,
    ⟨some 13, none, .op (.ld none (.tmp 12))⟩,
    ⟨some 5, none, .op (.mv (.tmp 11))⟩,
    ⟨some 6, none, .op (.mv (.tmp 13))⟩]
def c61_4 : C := .reg [⟨some 14, none, .op (.mv (.tmp 5))⟩,
    ⟨some 15, none, .op (.mv (.tmp 1))⟩,
    ⟨some 16, none, .op (.len (.tmp 15))⟩,
    ⟨some 17, none, .op (.bin .geq (.tmp 14) (.tmp 16))⟩,
    ⟨some 18, none, .op (.mv (.tmp 17))⟩,
    ⟨some 19, (some (18, false)), .op (.mv (.tmp 1))⟩,
    ⟨some 20, (some (18, false)), .op (.mv (.tmp 5))⟩,
    ⟨some 21, (some (18, false)), .op (.ia 1 (.tmp 19) (.tmp 20))⟩,
    ⟨some 22, (some (18, false)), .op (.ld none (.tmp 21))⟩,
    ⟨some 23, (some (18, false)), .op (.mv (.tmp 6))⟩,
    ⟨some 24, (some (18, false)), .op (.beq true (.tmp 22) (.tmp 23))⟩,
    ⟨some 25, none, .op (.pick (.tmp 18) (.const (.bool true)) (.tmp 24))⟩]
def c61_5 : C := .reg [⟨some 4, none, .op (.mv (.const (.bool false)))⟩]
def c61_6 : C := .reg [⟨some 26, none, .op (.bin .add (.tmp 9) (.const (.int .i64 1)))⟩,
    ⟨some 9, none, .op (.mv (.tmp 26))⟩]
def c61_7 : C := .reg [⟨some 27, none, .op (.mv (.tmp 0))⟩,
    ⟨some 28, none, .op (.len (.tmp 27))⟩,
    ⟨some 29, none, .op (.mv (.tmp 1))⟩,
    ⟨some 30, none, .op (.len (.tmp 29))⟩,
    ⟨some 31, none, .op (.bin .eql (.tmp 28) (.tmp 30))⟩,
    ⟨some 4, none, .op (.mv (.tmp 31))⟩]
def c61 : Fn' := ⟨(.seq c61_0 (.seq (.seq c61_1 (.block 0 (.loop (.seq c61_2 (.seq (.cond (.tmp 10) .skip (.exit 0)) (.seq (.block 1 (.seq c61_3 (.seq c61_4 (.cond (.tmp 25) (.seq c61_5 .ret) .skip)))) c61_6)))))) (.seq c61_7 .ret))), [.tmp 4]⟩
theorem comp61 : compFn Tryz.prog 61 = some c61 := by kernel_rfl

def c62_0 : C := .reg [⟨some 4, none, .op (.mv (.const (.bool false)))⟩]
def c62_1 : C := .reg [⟨some 7, none, .op (.mv (.tmp 0))⟩,
    ⟨some 8, none, .op (.len (.tmp 7))⟩,
    ⟨some 9, none, .op (.mv (.const (.int .i64 0)))⟩]
def c62_2 : C := .reg [⟨some 10, none, .op (.bin .lss (.tmp 9) (.tmp 8))⟩]
def c62_3 : C := .reg [⟨some 11, none, .op (.mv (.tmp 9))⟩,
    ⟨some 12, none, .op (.ia 1 (.tmp 7) (.tmp 9))⟩,
    ⟨some 13, none, .op (.ld none (.tmp 12))⟩,
    ⟨some 5, none, .op (.mv (.tmp 11))⟩,
    ⟨some 6, none, .op (.mv (.tmp 13))⟩]
def c62_4 : C := .reg [⟨some 14, none, .op (.mv (.tmp 5))⟩,
    ⟨some 15, none, .op (.mv (.tmp 1))⟩,
    ⟨some 16, none, .op (.len (.tmp 15))⟩,
    ⟨some 17, none, .op (.bin .geq (.tmp 14) (.tmp 16))⟩,
    ⟨some 18, none, .op (.mv (.tmp 17))⟩,
    ⟨some 19, (some (18, false)), .op (.mv (.tmp 1))⟩,
    ⟨some 20, (some (18, false)), .op (.mv (.tmp 5))⟩,
    ⟨some 21, (some (18, false)), .op (.ia 1 (.tmp 19) (.tmp 20))⟩,
    ⟨some 22, (some (18, false)), .op (.ld none (.tmp 21))⟩,
    ⟨some 23, (some (18, false)), .op (.mv (.tmp 6))⟩,
    ⟨some 24, (some (18, false)), .op (.bin .neq (.tmp 22) (.tmp 23))⟩,
    ⟨some 25, none, .op (.pick (.tmp 18) (.const (.bool true)) (.tmp 24))⟩]
def c62_5 : C := .reg [⟨some 4, none, .op (.mv (.const (.bool false)))⟩]
def c62_6 : C := .reg [⟨some 26, none, .op (.bin .add (.tmp 9) (.const (.int .i64 1)))⟩,
    ⟨some 9, none, .op (.mv (.tmp 26))⟩]
def c62_7 : C := .reg [⟨some 27, none, .op (.mv (.tmp 0))⟩,
    ⟨some 28, none, .op (.len (.tmp 27))⟩,
    ⟨some 29, none, .op (.mv (.tmp 1))⟩,
    ⟨some 30, none, .op (.len (.tmp 29))⟩,
    ⟨some 31, none, .op (.bin .eql (.tmp 28) (.tmp 30))⟩,
    ⟨some 4, none, .op (.mv (.tmp 31))⟩]
def c62 : Fn' := ⟨(.seq c62_0 (.seq (.seq c62_1 (.block 0 (.loop (.seq c62_2 (.seq (.cond (.tmp 10) .skip (.exit 0)) (.seq (.block 1 (.seq c62_3 (.seq c62_4 (.cond (.tmp 25) (.seq c62_5 .ret) .skip)))) c62_6)))))) (.seq c62_7 .ret))), [.tmp 4]⟩
theorem comp62 : compFn Tryz.prog 62 = some c62 := by kernel_rfl

def c63_0 : C := .reg [⟨some 2, none, .op (.mv (.const (.bool false)))⟩]
def c63_1 : C := .reg [⟨some 3, none, .op (.mv (.tmp 0))⟩,
    ⟨some 4, none, .op (.nil 0 false (.tmp 3) (.const (.pointer none)))⟩,
    ⟨some 5, none, .op (.mv (.tmp 4))⟩,
    ⟨some 6, (some (5, false)), .op (.mv (.tmp 0))⟩,
    ⟨some 7, (some (5, false)), .op (.nn (.tmp 6))⟩,
    ⟨some 8, (some (5, false)), .op (.fa 14 (.tmp 7))⟩,
    ⟨some 9, (some (5, false)), .op (.ld none (.tmp 8))⟩,
    ⟨some 10, (some (5, false)), .op (.nil 0 false (.tmp 9) (.const (.pointer none)))⟩,
    ⟨some 11, none, .op (.pick (.tmp 5) (.const (.bool true)) (.tmp 10))⟩,
    ⟨some 2, none, .op (.mv (.tmp 11))⟩]
def c63 : Fn' := ⟨(.seq c63_0 (.seq c63_1 .ret)), [.tmp 2]⟩
theorem comp63 : compFn Tryz.prog 63 = some c63 := by kernel_rfl

def c64_0 : C := .reg [⟨some 4, none, .op (.mv (.const (.slice none 0 0)))⟩,
    ⟨some 5, none, .op (.mv (.const (.bool false)))⟩,
    ⟨some 6, none, .op (.mv (.const (.int .i64 0)))⟩]
def c64_1 : C := .reg [⟨some 7, none, .op (.mv (.tmp 1))⟩,
    ⟨some 8, none, .call 113 [.tmp 7]⟩,
    ⟨some 9, none, .op (.un .not (.tmp 8))⟩,
    ⟨some 10, none, .op (.mv (.tmp 9))⟩,
    ⟨some 11, (some (10, false)), .op (.mv (.tmp 0))⟩,
    ⟨some 12, (some (10, false)), .op (.mv (.tmp 1))⟩,
    ⟨some 13, (some (10, false)), .call 114 [.tmp 11, .tmp 12]⟩,
    ⟨some 14, (some (10, false)), .op (.un .not (.tmp 13))⟩,
    ⟨some 15, none, .op (.pick (.tmp 10) (.const (.bool true)) (.tmp 14))⟩]
def c64_2 : C := .reg [⟨some 4, none, .op (.mv (.const (.slice none 0 0)))⟩,
    ⟨some 5, none, .op (.mv (.const (.bool false)))⟩,
    ⟨some 6, none, .op (.mv (.const (.int .i64 2)))⟩]
def c64_3 : C := .reg [⟨some 17, none, .op (.mv (.tmp 0))⟩,
    ⟨some 18, none, .call 115 [.tmp 17]⟩,
    ⟨some 16, none, .op (.mv (.tmp 18))⟩,
    ⟨some 19, none, .op (.ext (.tmp 16) 0)⟩,
    ⟨some 20, none, .op (.ext (.tmp 16) 1)⟩,
    ⟨some 4, none, .op (.mv (.tmp 19))⟩,
    ⟨some 5, none, .op (.mv (.tmp 20))⟩]
def c64_4 : C := .reg [⟨some 21, none, .op (.mv (.tmp 4))⟩,
    ⟨some 22, none, .op (.mv (.tmp 5))⟩,
    ⟨some 4, none, .op (.mv (.tmp 21))⟩,
    ⟨some 5, none, .op (.mv (.tmp 22))⟩,
    ⟨some 6, none, .op (.mv (.const (.int .i64 0)))⟩]
def c64 : Fn' := ⟨(.seq c64_0 (.seq (.seq c64_1 (.cond (.tmp 15) (.seq c64_2 .ret) .skip)) (.seq c64_3 (.seq c64_4 .ret)))), [.tmp 4, .tmp 5, .tmp 6]⟩
theorem comp64 : compFn Tryz.prog 64 = some c64 := by kernel_rfl

def c65_0 : C := .reg [⟨some 2, none, .op (.mv (.tmp 0))⟩,
    ⟨some 3, none, .call 116 [.tmp 2, .const (.int .i64 0)]⟩]
def c65_1 : C := .reg [⟨some 4, none, .op (.mv (.tmp 0))⟩,
    ⟨some 5, none, .op (.mv (.tmp 0))⟩,
    ⟨some 6, none, .op (.nn (.tmp 4))⟩,
    ⟨some 7, none, .op (.fa 15 (.tmp 6))⟩,
    ⟨none, none, .op (.st 1 (.tmp 7) (.const (.slice none 0 0)))⟩,
    ⟨some 8, none, .op (.nn (.tmp 5))⟩,
    ⟨some 9, none, .op (.fa 16 (.tmp 8))⟩,
    ⟨none, none, .op (.st 1 (.tmp 9) (.const (.slice none 0 0)))⟩]
def c65 : Fn' := ⟨(.seq c65_0 c65_1), []⟩
theorem comp65 : compFn Tryz.prog 65 = some c65 := by kernel_rfl

def c66_0 : C := .reg [⟨some 4, none, .op (.mv (.const (.bool false)))⟩]
def c66_1 : C := .reg [⟨some 5, none, .op (.mv (.tmp 0))⟩,
    ⟨some 6, none, .op (.mv (.tmp 1))⟩,
    ⟨some 7, none, .call 117 [.tmp 5, .tmp 6]⟩,
    ⟨some 8, none, .op (.bin .geq (.tmp 7) (.const (.int .i64 0)))⟩,
    ⟨some 4, none, .op (.mv (.tmp 8))⟩]
def c66 : Fn' := ⟨(.seq c66_0 (.seq c66_1 .ret)), [.tmp 4]⟩
theorem comp66 : compFn Tryz.prog 66 = some c66 := by kernel_rfl

def c67_0 : C := .reg [⟨some 3, none, .op (.mv (.const (.bool false)))⟩]
def c67_1 : C := .reg [⟨some 4, none, .op (.ld none (.tmp 1))⟩,
    ⟨some 5, none, .op (.mv (.tmp 0))⟩,
    ⟨some 6, none, .call 68 [.tmp 4, .tmp 5]⟩,
    ⟨some 7, none, .op (.bin .gtr (.tmp 6) (.const (.int .i8 0)))⟩,
    ⟨some 3, none, .op (.mv (.tmp 7))⟩]
def c67 : Fn' := ⟨(.seq c67_0 (.seq c67_1 .ret)), [.tmp 3]⟩
theorem comp67 : compFn Tryz.prog 67 = some c67 := by kernel_rfl

def c68_0 : C := .reg [⟨some 4, none, .op (.mv (.const (.int .i8 0)))⟩]
def c68_1 : C := .reg [⟨some 5, none, .op (.mv (.tmp 1))⟩,
    ⟨some 6, none, .op (.bin .lss (.tmp 5) (.const (.int .i64 0)))⟩]
def c68_2 : C := .reg [⟨some 7, none, .op (.mv (.tmp 0))⟩,
    ⟨some 8, none, .op (.nn (.tmp 7))⟩,
    ⟨some 9, none, .op (.fa 6 (.tmp 8))⟩,
    ⟨some 10, none, .op (.ld none (.tmp 9))⟩,
    ⟨some 11, none, .op (.mv (.tmp 1))⟩,
    ⟨some 12, none, .op (.un .neg (.tmp 11))⟩,
    ⟨some 13, none, .op (.ia 1 (.tmp 10) (.tmp 12))⟩,
    ⟨some 14, none, .op (.ld none (.tmp 13))⟩,
    ⟨some 15, none, .op (.un .neg (.tmp 14))⟩,
    ⟨some 4, none, .op (.mv (.tmp 15))⟩]
def c68_3 : C := .reg [⟨some 16, none, .op (.mv (.tmp 0))⟩,
    ⟨some 17, none, .op (.nn (.tmp 16))⟩,
    ⟨some 18, none, .op (.fa 6 (.tmp 17))⟩,
    ⟨some 19, none, .op (.ld none (.tmp 18))⟩,
    ⟨some 20, none, .op (.mv (.tmp 1))⟩,
    ⟨some 21, none, .op (.ia 1 (.tmp 19) (.tmp 20))⟩,
    ⟨some 22, none, .op (.ld none (.tmp 21))⟩,
    ⟨some 4, none, .op (.mv (.tmp 22))⟩]
def c68 : Fn' := ⟨(.seq c68_0 (.seq (.seq c68_1 (.cond (.tmp 6) (.seq c68_2 .ret) .skip)) (.seq c68_3 .ret))), [.tmp 4]⟩
theorem comp68 : compFn Tryz.prog 68 = some c68 := by kernel_rfl

def c69_0 : C := .reg [⟨some 4, none, .op (.mv (.const (.slice none 0 0)))⟩]
def c69_1 : C := .reg [⟨some 8, none, .op (.mv (.tmp 0))⟩,
    ⟨some 9, none, .op (.mv (.tmp 1))⟩,
    ⟨some 10, none, .call 117 [.tmp 8, .tmp 9]⟩,
    ⟨some 5, none, .op (.mv (.tmp 10))⟩]
def c69_2 : C := .reg [⟨some 11, none, .op (.mv (.tmp 5))⟩,
    ⟨some 12, none, .op (.bin .eql (.tmp 11) (.const (.int .i64 (-1))))⟩]
def c69_3 : C := .reg [⟨some 13, none, .op (.mv (.tmp 0))⟩,
    ⟨some 4, none, .op (.mv (.tmp 13))⟩]
def c69_4 : C := .reg [⟨some 14, none, .op (.mv (.tmp 5))⟩,
    ⟨some 15, none, .op (.bin .add (.tmp 14) (.const (.int .i64 1)))⟩,
    ⟨some 6, none, .op (.mv (.tmp 15))⟩]
def c69_5 : C := .reg [⟨some 16, none, .op (.mv (.tmp 6))⟩,
    ⟨some 17, none, .op (.mv (.tmp 0))⟩,
    ⟨some 18, none, .op (.len (.tmp 17))⟩,
    ⟨some 19, none, .op (.bin .lss (.tmp 16) (.tmp 18))⟩]
def c69_6 : C := .reg [⟨some 22, none, .op (.mv (.tmp 0))⟩,
    ⟨some 23, none, .op (.mv (.tmp 6))⟩,
    ⟨some 24, none, .op (.ia 1 (.tmp 22) (.tmp 23))⟩,
    ⟨some 25, none, .op (.ld none (.tmp 24))⟩,
    ⟨some 7, none, .op (.mv (.tmp 25))⟩]
def c69_7 : C := .reg [⟨some 26, none, .op (.mv (.tmp 1))⟩,
    ⟨some 27, none, .op (.mv (.tmp 7))⟩,
    ⟨some 28, none, .callv (.tmp 26) [.tmp 27]⟩,
    ⟨some 29, none, .op (.un .not (.tmp 28))⟩]
def c69_8 : C := .reg [⟨some 30, none, .op (.mv (.tmp 0))⟩,
    ⟨some 31, none, .op (.mv (.tmp 5))⟩,
    ⟨some 32, none, .op (.mv (.tmp 7))⟩,
    ⟨some 33, none, .op (.ia 1 (.tmp 30) (.tmp 31))⟩,
    ⟨none, none, .op (.st 1 (.tmp 33) (.tmp 32))⟩]
def c69_9 : C := .reg [⟨some 34, none, .op (.mv (.tmp 5))⟩,
    ⟨some 35, none, .op (.bin .add (.tmp 34) (.const (.int .i64 1)))⟩,
    ⟨some 5, none, .op (.mv (.tmp 35))⟩]
def c69_10 : C := .reg [⟨some 20, none, .op (.mv (.tmp 6))⟩,
    ⟨some 21, none, .op (.bin .add (.tmp 20) (.const (.int .i64 1)))⟩,
    ⟨some 6, none, .op (.mv (.tmp 21))⟩]
def c69_11 : C := .reg [⟨some 36, none, .op (.mv (.tmp 0))⟩,
    ⟨some 37, none, .op (.mv (.tmp 5))⟩,
    ⟨some 38, none, .op (.slc 1 (.tmp 36) (some (.tmp 37)) none none)⟩,
    ⟨none, none, .op (.clr [(.int .i64 0)] (.tmp 38))⟩]
def c69_12 : C := .reg [⟨some 39, none, .op (.mv (.tmp 0))⟩,
    ⟨some 40, none, .op (.mv (.tmp 5))⟩,
    ⟨some 41, none, .op (.slc 1 (.tmp 39) none (some (.tmp 40)) none)⟩,
    ⟨some 4, none, .op (.mv (.tmp 41))⟩]
def c69 : Fn' := ⟨(.seq c69_0 (.seq c69_1 (.seq (.seq c69_2 (.cond (.tmp 12) (.seq c69_3 .ret) .skip)) (.seq (.seq c69_4 (.block 0 (.loop (.seq (.seq c69_5 (.cond (.tmp 19) .skip (.exit 0))) (.seq (.block 1 (.seq c69_6 (.seq c69_7 (.cond (.tmp 29) (.seq c69_8 c69_9) .skip)))) c69_10))))) (.seq c69_11 (.seq c69_12 .ret)))))), [.tmp 4]⟩
theorem comp69 : compFn Tryz.prog 69 = some c69 := by kernel_rfl

def c70_0 : C := .reg [⟨some 3, none, .op (.mv (.const (.bool false)))⟩]
def c70_1 : C := .reg [⟨some 4, none, .op (.ld none (.tmp 1))⟩,
    ⟨some 5, none, .op (.mv (.tmp 0))⟩,
    ⟨some 6, none, .call 68 [.tmp 4, .tmp 5]⟩,
    ⟨some 7, none, .op (.bin .lss (.tmp 6) (.const (.int .i8 0)))⟩,
    ⟨some 3, none, .op (.mv (.tmp 7))⟩]
def c70 : Fn' := ⟨(.seq c70_0 (.seq c70_1 .ret)), [.tmp 3]⟩
theorem comp70 : compFn Tryz.prog 70 = some c70 := by kernel_rfl

def c71_0 : C := .reg [⟨some 7, none, .op (.mv (.tmp 1))⟩,
    ⟨some 8, none, .call 118 [.tmp 7]⟩,
    ⟨some 6, none, .op (.mv (.tmp 8))⟩]
def c71_1 : C := .regD 0 [⟨0, ⟨some 9, none, .op (.mv (.tmp 0))⟩, none, []⟩,
    ⟨1, ⟨some 10, none, .op (.nn (.tmp 9))⟩, none, []⟩,
    ⟨2, ⟨some 11, none, .op (.fa 6 (.tmp 10))⟩, none, []⟩,
    ⟨3, ⟨some 12, none, .op (.ld none (.tmp 11))⟩, none, []⟩,
    ⟨4, ⟨some 13, none, .op (.mv (.tmp 6))⟩, none, []⟩,
    ⟨5, ⟨some 14, none, .op (.mv (.tmp 0))⟩, none, []⟩,
    ⟨6, ⟨some 15, none, .op (.nn (.tmp 14))⟩, none, []⟩,
    ⟨7, ⟨some 16, none, .op (.fa 7 (.tmp 15))⟩, none, []⟩,
    ⟨8, ⟨some 17, none, .op (.ld none (.tmp 16))⟩, none, []⟩,
    ⟨9, ⟨some 18, none, .op (.mv (.tmp 6))⟩, none, []⟩,
    ⟨10, ⟨some 19, none, .op (.mv (.tmp 0))⟩, none, []⟩,
    ⟨11, ⟨some 20, none, .op (.nn (.tmp 19))⟩, none, []⟩,
    ⟨12, ⟨some 21, none, .op (.fa 8 (.tmp 20))⟩, none, []⟩,
    ⟨13, ⟨some 22, none, .op (.ld none (.tmp 21))⟩, none, []⟩,
    ⟨14, ⟨some 23, none, .op (.mv (.tmp 6))⟩, none, []⟩,
    ⟨15, ⟨some 24, none, .op (.mv (.tmp 0))⟩, none, []⟩,
    ⟨16, ⟨some 25, none, .op (.nn (.tmp 24))⟩, none, []⟩,
    ⟨17, ⟨some 26, none, .op (.fa 12 (.tmp 25))⟩, none, []⟩,
    ⟨18, ⟨some 27, none, .op (.ld none (.tmp 26))⟩, none, []⟩,
    ⟨19, ⟨some 28, none, .op (.len (.tmp 27))⟩, none, []⟩,
    ⟨20, ⟨some 29, none, .op (.mv (.tmp 2))⟩, none, []⟩,
    ⟨21, ⟨some 30, none, .op (.ia 1 (.tmp 12) (.tmp 13))⟩, none, []⟩,
    ⟨22, ⟨none, none, .op (.st 1 (.tmp 30) (.const (.int .i8 1)))⟩, none, []⟩,
    ⟨23, ⟨some 31, none, .op (.ia 1 (.tmp 17) (.tmp 18))⟩, none, []⟩,
    ⟨24, ⟨none, none, .op (.st 1 (.tmp 31) (.tmp 28))⟩, none, []⟩,
    ⟨25, ⟨some 32, none, .op (.ia 1 (.tmp 22) (.tmp 23))⟩, none, []⟩,
    ⟨26, ⟨none, none, .op (.st 1 (.tmp 32) (.tmp 29))⟩, none, []⟩]
def c71_2 : C := .reg [⟨some 33, none, .op (.mv (.tmp 1))⟩,
    ⟨some 34, none, .op (.bin .lss (.tmp 33) (.const (.int .i64 0)))⟩]
def c71_3 : C := .reg [⟨some 35, none, .op (.mv (.tmp 0))⟩,
    ⟨some 36, none, .op (.nn (.tmp 35))⟩,
    ⟨some 37, none, .op (.fa 6 (.tmp 36))⟩,
    ⟨some 38, none, .op (.ld none (.tmp 37))⟩,
    ⟨some 39, none, .op (.mv (.tmp 6))⟩,
    ⟨some 40, none, .op (.ia 1 (.tmp 38) (.tmp 39))⟩,
    ⟨none, none, .op (.st 1 (.tmp 40) (.const (.int .i8 (-1))))⟩]
def c71_4 : C := .reg [⟨some 41, none, .op (.mv (.tmp 0))⟩,
    ⟨some 42, none, .op (.mv (.tmp 0))⟩,
    ⟨some 43, none, .op (.nn (.tmp 42))⟩,
    ⟨some 44, none, .op (.fa 11 (.tmp 43))⟩,
    ⟨some 45, none, .op (.ld none (.tmp 44))⟩,
    ⟨some 46, none, .op (.mv (.tmp 1))⟩,
    ⟨some 47, none, .op (.mkSl (reps 1 [(.int .i64 0)]) 1 [(0, 1, .tmp 46)])⟩,
    ⟨some 48, none, .op (.app 1 8 (.tmp 45) (.tmp 47))⟩,
    ⟨some 49, none, .op (.nn (.tmp 41))⟩,
    ⟨some 50, none, .op (.fa 11 (.tmp 49))⟩,
    ⟨none, none, .op (.st 1 (.tmp 50) (.tmp 48))⟩]
def c71 : Fn' := ⟨(.seq c71_0 (.seq c71_1 (.seq (.seq c71_2 (.cond (.tmp 34) c71_3 .skip)) c71_4))), []⟩
theorem comp71 : compFn Tryz.prog 71 = some c71 := by kernel_rfl

def c72_0 : C := .reg [⟨some 6, none, .op (.mv (.const (.int .i64 0)))⟩]
def c72_1 : C := .reg [⟨some 8, none, .op (.mv (.tmp 0))⟩,
    ⟨some 9, none, .op (.nn (.tmp 8))⟩,
    ⟨some 10, none, .op (.fa 3 (.tmp 9))⟩,
    ⟨some 11, none, .op (.ld none (.tmp 10))⟩,
    ⟨some 12, none, .op (.len (.tmp 11))⟩,
    ⟨some 7, none, .op (.mv (.tmp 12))⟩]
def c72_2 : C := .regD 2 [⟨0, ⟨some 13, none, .op (.mv (.tmp 0))⟩, none, []⟩,
    ⟨1, ⟨some 14, none, .op (.mv (.tmp 0))⟩, none, []⟩,
    ⟨2, ⟨some 15, none, .op (.mv (.tmp 0))⟩, none, []⟩,
    ⟨3, ⟨some 16, none, .op (.nn (.tmp 15))⟩, none, []⟩,
    ⟨4, ⟨some 17, none, .op (.fa 3 (.tmp 16))⟩, none, []⟩,
    ⟨5, ⟨some 18, none, .op (.ld none (.tmp 17))⟩, none, []⟩,
    ⟨6, ⟨some 19, none, .op (.mv (.tmp 1))⟩, none, []⟩,
    ⟨9, ⟨some 22, none, .op (.mv (.tmp 0))⟩, none, []⟩,
    ⟨10, ⟨some 23, none, .op (.nn (.tmp 22))⟩, none, []⟩,
    ⟨11, ⟨some 24, none, .op (.fa 4 (.tmp 23))⟩, none, []⟩,
    ⟨12, ⟨some 25, none, .op (.ld none (.tmp 24))⟩, none, []⟩,
    ⟨13, ⟨some 26, none, .op (.mv (.tmp 2))⟩, none, []⟩,
    ⟨7, ⟨some 20, none, .op (.mkSl (reps 1 [(.slice none 0 0)]) 1 [(0, 1, .tmp 19)])⟩, some 0, []⟩,
    ⟨8, ⟨some 21, none, .op (.app 1 24 (.tmp 18) (.tmp 20))⟩, none, [(none, .tmp 24, 25, none)]⟩,
    ⟨14, ⟨some 27, none, .op (.mkSl (reps 1 [(.bool false)]) 1 [(0, 1, .tmp 26)])⟩, some 1, []⟩,
    ⟨15, ⟨some 28, none, .op (.app 1 1 (.tmp 25) (.tmp 27))⟩, none, []⟩,
    ⟨16, ⟨some 29, none, .op (.nn (.tmp 13))⟩, none, []⟩,
    ⟨17, ⟨some 30, none, .op (.fa 3 (.tmp 29))⟩, none, []⟩,
    ⟨18, ⟨none, none, .op (.st 1 (.tmp 30) (.tmp 21))⟩, none, []⟩,
    ⟨19, ⟨some 31, none, .op (.nn (.tmp 14))⟩, none, []⟩,
    ⟨20, ⟨some 32, none, .op (.fa 4 (.tmp 31))⟩, none, []⟩,
    ⟨21, ⟨none, none, .op (.st 1 (.tmp 32) (.tmp 28))⟩, none, []⟩]
def c72_3 : C := .regD 1 [⟨0, ⟨some 33, none, .op (.mv (.tmp 0))⟩, none, []⟩,
    ⟨1, ⟨some 34, none, .op (.nn (.tmp 33))⟩, none, []⟩,
    ⟨2, ⟨some 35, none, .op (.fa 5 (.tmp 34))⟩, none, []⟩,
    ⟨3, ⟨some 36, none, .op (.ld none (.tmp 35))⟩, none, []⟩,
    ⟨4, ⟨some 37, none, .op (.mv (.tmp 1))⟩, none, []⟩,
    ⟨5, ⟨some 38, none, .op (.ia 1 (.tmp 37) (.const (.int .i64 0)))⟩, none, []⟩,
    ⟨6, ⟨some 39, none, .op (.ld none (.tmp 38))⟩, none, []⟩,
    ⟨8, ⟨some 41, none, .op (.mv (.tmp 0))⟩, none, []⟩,
    ⟨9, ⟨some 42, none, .op (.nn (.tmp 41))⟩, none, []⟩,
    ⟨10, ⟨some 43, none, .op (.fa 5 (.tmp 42))⟩, none, []⟩,
    ⟨11, ⟨some 44, none, .op (.ld none (.tmp 43))⟩, none, []⟩,
    ⟨12, ⟨some 45, none, .op (.mv (.tmp 1))⟩, none, []⟩,
    ⟨13, ⟨some 46, none, .op (.ia 1 (.tmp 45) (.const (.int .i64 0)))⟩, none, []⟩,
    ⟨14, ⟨some 47, none, .op (.ld none (.tmp 46))⟩, none, []⟩,
    ⟨18, ⟨some 51, none, .op (.mv (.tmp 7))⟩, none, []⟩,
    ⟨7, ⟨some 40, none, .call 119 [.tmp 39]⟩, none, [(none, .tmp 46, 47, none), (none, .tmp 43, 44, none), (none, .tmp 35, 36, none)]⟩,
    ⟨15, ⟨some 48, none, .call 119 [.tmp 47]⟩, none, [(none, .tmp 43, 44, none), (none, .tmp 35, 36, none)]⟩,
    ⟨16, ⟨some 49, none, .op (.ia 1 (.tmp 44) (.tmp 48))⟩, none, []⟩,
    ⟨17, ⟨some 50, none, .op (.ld none (.tmp 49))⟩, none, []⟩,
    ⟨19, ⟨some 52, none, .op (.mkSl (reps 1 [(.int .i64 0)]) 1 [(0, 1, .tmp 51)])⟩, some 0, []⟩,
    ⟨20, ⟨some 53, none, .op (.app 1 8 (.tmp 50) (.tmp 52))⟩, none, [(none, .tmp 35, 36, none)]⟩,
    ⟨21, ⟨some 54, none, .op (.ia 1 (.tmp 36) (.tmp 40))⟩, none, []⟩,
    ⟨22, ⟨none, none, .op (.st 1 (.tmp 54) (.tmp 53))⟩, none, []⟩]
def c72_4 : C := .regD 1 [⟨0, ⟨some 55, none, .op (.mv (.tmp 0))⟩, none, []⟩,
    ⟨1, ⟨some 56, none, .op (.nn (.tmp 55))⟩, none, []⟩,
    ⟨2, ⟨some 57, none, .op (.fa 5 (.tmp 56))⟩, none, []⟩,
    ⟨3, ⟨some 58, none, .op (.ld none (.tmp 57))⟩, none, []⟩,
    ⟨4, ⟨some 59, none, .op (.mv (.tmp 1))⟩, none, []⟩,
    ⟨5, ⟨some 60, none, .op (.ia 1 (.tmp 59) (.const (.int .i64 1)))⟩, none, []⟩,
    ⟨6, ⟨some 61, none, .op (.ld none (.tmp 60))⟩, none, []⟩,
    ⟨8, ⟨some 63, none, .op (.mv (.tmp 0))⟩, none, []⟩,
    ⟨9, ⟨some 64, none, .op (.nn (.tmp 63))⟩, none, []⟩,
    ⟨10, ⟨some 65, none, .op (.fa 5 (.tmp 64))⟩, none, []⟩,
    ⟨11, ⟨some 66, none, .op (.ld none (.tmp 65))⟩, none, []⟩,
    ⟨12, ⟨some 67, none, .op (.mv (.tmp 1))⟩, none, []⟩,
    ⟨13, ⟨some 68, none, .op (.ia 1 (.tmp 67) (.const (.int .i64 1)))⟩, none, []⟩,
    ⟨14, ⟨some 69, none, .op (.ld none (.tmp 68))⟩, none, []⟩,
    ⟨18, ⟨some 73, none, .op (.mv (.tmp 7))⟩, none, []⟩,
    ⟨7, ⟨some 62, none, .call 119 [.tmp 61]⟩, none, [(none, .tmp 68, 69, none), (none, .tmp 65, 66, none), (none, .tmp 57, 58, none)]⟩,
    ⟨15, ⟨some 70, none, .call 119 [.tmp 69]⟩, none, [(none, .tmp 65, 66, none), (none, .tmp 57, 58, none)]⟩,
    ⟨16, ⟨some 71, none, .op (.ia 1 (.tmp 66) (.tmp 70))⟩, none, []⟩,
    ⟨17, ⟨some 72, none, .op (.ld none (.tmp 71))⟩, none, []⟩,
    ⟨19, ⟨some 74, none, .op (.mkSl (reps 1 [(.int .i64 0)]) 1 [(0, 1, .tmp 73)])⟩, some 0, []⟩,
    ⟨20, ⟨some 75, none, .op (.app 1 8 (.tmp 72) (.tmp 74))⟩, none, [(none, .tmp 57, 58, none)]⟩,
    ⟨21, ⟨some 76, none, .op (.ia 1 (.tmp 58) (.tmp 62))⟩, none, []⟩,
    ⟨22, ⟨none, none, .op (.st 1 (.tmp 76) (.tmp 75))⟩, none, []⟩]
def c72_5 : C := .reg [⟨some 77, none, .op (.mv (.tmp 7))⟩,
    ⟨some 6, none, .op (.mv (.tmp 77))⟩]
def c72 : Fn' := ⟨(.seq c72_0 (.seq c72_1 (.seq c72_2 (.seq c72_3 (.seq c72_4 (.seq c72_5 .ret)))))), [.tmp 6]⟩
theorem comp72 : compFn Tryz.prog 72 = some c72 := by kernel_rfl

def c73_0 : C := .reg [⟨some 3, none, .op (.box (.tmp 1))⟩,
    ⟨some 4, none, .op (.mv (.const (.bool false)))⟩]
def c73_1 : C := .reg [⟨some 5, none, .op (.ld none (.tmp 3))⟩,
    ⟨some 6, none, .call 113 [.tmp 5]⟩,
    ⟨some 7, none, .op (.mv (.tmp 6))⟩,
    ⟨some 8, (some (7, true)), .op (.mv (.tmp 0))⟩,
    ⟨some 9, (some (7, true)), .op (.len (.tmp 8))⟩,
    ⟨some 10, (some (7, true)), .op (.bin .leq (.tmp 9) (.const (.int .i64 1048576)))⟩,
    ⟨some 11, none, .op (.pick (.tmp 7) (.tmp 10) (.const (.bool false)))⟩,
    ⟨some 12, none, .op (.mv (.tmp 11))⟩,
    ⟨some 13, (some (12, true)), .op (.mv (.tmp 0))⟩,
    ⟨some 14, (some (12, true)), .op (.fn 121 [] [.tmp 3])⟩,
    ⟨some 15, (some (12, true)), .call 120 [.tmp 13, .tmp 14]⟩,
    ⟨some 16, (some (12, true)), .op (.un .not (.tmp 15))⟩,
    ⟨some 17, none, .op (.pick (.tmp 12) (.tmp 16) (.const (.bool false)))⟩,
    ⟨some 4, none, .op (.mv (.tmp 17))⟩]
def c73 : Fn' := ⟨(.seq c73_0 (.seq c73_1 .ret)), [.tmp 4]⟩
theorem comp73 : compFn Tryz.prog 73 = some c73 := by kernel_rfl

def c74_0 : C := .reg [⟨some 6, none, .op (.mv (.const (.int .u8 0)))⟩]
def c74_1 : C := .reg [⟨some 7, none, .op (.mv (.const (.int .i64 128)))⟩,
    ⟨some 8, none, .op (.mv (.const (.int .i64 16384)))⟩,
    ⟨some 9, none, .op (.mv (.const (.int .i64 0)))⟩]
def c74_2 : C := .reg [⟨some 13, none, .op (.mv (.tmp 0))⟩,
    ⟨some 14, none, .call 116 [.tmp 13, .const (.int .i64 0)]⟩]
def c74_3 : C := .reg [⟨some 15, none, .op (.mv (.tmp 0))⟩,
    ⟨some 16, none, .op (.mv (.tmp 8))⟩,
    ⟨some 17, none, .call 122 [.tmp 15, .tmp 16]⟩]
def c74_4 : C := .reg [⟨some 18, none, .op (.mv (.tmp 0))⟩,
    ⟨some 19, none, .op (.nn (.tmp 18))⟩,
    ⟨some 20, none, .op (.fa 13 (.tmp 19))⟩,
    ⟨none, none, .op (.st 1 (.tmp 20) (.const (.int .i64 0)))⟩]
def c74_5 : C := .reg [⟨some 21, none, .op (.mv (.tmp 8))⟩,
    ⟨some 22, none, .op (.mv (.tmp 8))⟩,
    ⟨some 23, none, .op (.bin .quo (.tmp 22) (.const (.int .i64 2)))⟩,
    ⟨some 24, none, .op (.bin .add (.tmp 21) (.tmp 23))⟩,
    ⟨some 8, none, .op (.mv (.tmp 24))⟩]
def c74_6 : C := .reg [⟨some 25, none, .op (.mv (.tmp 7))⟩,
    ⟨some 9, none, .op (.mv (.tmp 25))⟩]
def c74_7 : C := .reg [⟨some 26, none, .op (.mv (.tmp 0))⟩,
    ⟨some 27, none, .call 123 [.tmp 26]⟩,
    ⟨some 10, none, .op (.mv (.tmp 27))⟩]
def c74_8 : C := .reg [⟨some 28, none, .op (.mv (.tmp 10))⟩,
    ⟨some 29, none, .op (.bin .eql (.tmp 28) (.const (.int .i64 (-1))))⟩]
def c74_9 : C := .reg [⟨some 30, none, .op (.mv (.tmp 9))⟩,
    ⟨some 31, none, .op (.bin .leq (.tmp 30) (.const (.int .i64 0)))⟩]
def c74_10 : C := .reg [⟨some 32, none, .op (.mv (.tmp 7))⟩,
    ⟨some 33, none, .op (.mv (.tmp 7))⟩,
    ⟨some 34, none, .op (.bin .quo (.tmp 33) (.const (.int .i64 2)))⟩,
    ⟨some 35, none, .op (.bin .add (.tmp 32) (.tmp 34))⟩,
    ⟨some 7, none, .op (.mv (.tmp 35))⟩]
def c74_11 : C := .reg [⟨some 37, none, .op (.mv (.tmp 0))⟩,
    ⟨some 38, none, .op (.mv (.tmp 1))⟩,
    ⟨some 39, none, .call 124 [.tmp 37, .tmp 38]⟩,
    ⟨some 36, none, .op (.mv (.tmp 39))⟩,
    ⟨some 40, none, .op (.ext (.tmp 36) 0)⟩,
    ⟨some 41, none, .op (.ext (.tmp 36) 1)⟩,
    ⟨some 11, none, .op (.mv (.tmp 40))⟩,
    ⟨some 12, none, .op (.mv (.tmp 41))⟩]
def c74_12 : C := .reg [⟨some 42, none, .op (.mv (.tmp 12))⟩]
def c74_13 : C := .reg [⟨some 43, none, .op (.mv (.tmp 11))⟩,
    ⟨some 6, none, .op (.mv (.tmp 43))⟩]
def c74_14 : C := .reg [⟨some 44, none, .op (.mv (.tmp 0))⟩,
    ⟨some 45, none, .op (.nn (.tmp 44))⟩,
    ⟨some 46, none, .op (.fa 12 (.tmp 45))⟩,
    ⟨some 47, none, .op (.ld none (.tmp 46))⟩,
    ⟨some 48, none, .op (.len (.tmp 47))⟩,
    ⟨some 49, none, .op (.bin .eql (.tmp 48) (.const (.int .i64 0)))⟩]
def c74_15 : C := .reg [⟨some 50, none, .op (.mv (.tmp 0))⟩,
    ⟨some 51, none, .op (.nn (.tmp 50))⟩,
    ⟨some 52, none, .op (.fa 2 (.tmp 51))⟩,
    ⟨none, none, .op (.st 1 (.tmp 52) (.const (.bool true)))⟩]
def c74_16 : C := .reg [⟨some 6, none, .op (.mv (.const (.int .u8 2)))⟩]
def c74_17 : C := .reg [⟨some 53, none, .op (.mv (.tmp 0))⟩,
    ⟨some 54, none, .op (.nn (.tmp 53))⟩,
    ⟨some 55, none, .op (.fa 17 (.tmp 54))⟩,
    ⟨some 56, none, .op (.ld none (.tmp 55))⟩,
    ⟨some 57, none, .op (.mv (.tmp 2))⟩,
    ⟨some 58, none, .op (.bin .eql (.tmp 56) (.tmp 57))⟩,
    ⟨some 59, none, .op (.mv (.tmp 58))⟩,
    ⟨some 60, (some (59, true)), .op (.mv (.tmp 2))⟩,
    ⟨some 61, (some (59, true)), .op (.bin .lss (.tmp 60) (.const (.int .i64 1048576)))⟩,
    ⟨some 62, none, .op (.pick (.tmp 59) (.tmp 61) (.const (.bool false)))⟩]
def c74_18 : C := .reg [⟨some 6, none, .op (.mv (.const (.int .u8 0)))⟩]
def c74_19 : C := .reg [⟨some 63, none, .op (.mv (.tmp 0))⟩,
    ⟨some 64, none, .op (.nn (.tmp 63))⟩,
    ⟨some 65, none, .op (.fa 17 (.tmp 64))⟩,
    ⟨some 66, none, .op (.ld none (.tmp 65))⟩,
    ⟨some 67, none, .op (.bin .add (.tmp 66) (.const (.int .i64 1)))⟩,
    ⟨some 68, none, .op (.nn (.tmp 63))⟩,
    ⟨some 69, none, .op (.fa 17 (.tmp 68))⟩,
    ⟨none, none, .op (.st 1 (.tmp 69) (.tmp 67))⟩]
def c74_20 : C := .reg [⟨some 70, none, .op (.mv (.tmp 9))⟩,
    ⟨some 71, none, .op (.bin .sub (.tmp 70) (.const (.int .i64 1)))⟩,
    ⟨some 9, none, .op (.mv (.tmp 71))⟩]
def c74_21 : C := .reg [⟨some 72, none, .op (.mv (.tmp 0))⟩,
    ⟨some 73, none, .op (.mv (.tmp 0))⟩,
    ⟨some 74, none, .op (.mv (.tmp 10))⟩,
    ⟨some 75, none, .call 126 [.tmp 73, .tmp 74]⟩,
    ⟨some 76, none, .call 125 [.tmp 72, .tmp 75]⟩]
def c74 : Fn' := ⟨(.seq c74_0 (.scope 0 (.seq c74_1 (.seq (.label 0) (.seq c74_2 (.seq (.seq c74_3 (.cond (.tmp 17) (.seq c74_4 c74_5) .skip)) (.seq c74_6 (.block 0 (.loop (.block 1 (.seq c74_7 (.seq (.seq c74_8 (.cond (.tmp 29) (.seq (.seq c74_9 (.cond (.tmp 31) (.seq c74_10 (.goto 0)) .skip)) (.seq (.seq c74_11 (.seq c74_12 (.cond (.tmp 42) (.seq c74_13 .ret) .skip))) (.exit 1))) .skip)) (.seq (.seq c74_14 (.cond (.tmp 49) (.seq c74_15 (.seq c74_16 .ret)) .skip)) (.seq (.seq c74_17 (.cond (.tmp 62) (.seq c74_18 .ret) .skip)) (.seq c74_19 (.seq c74_20 c74_21)))))))))))))) (.seq .skip (.seq c74_2 (.seq (.seq c74_3 (.cond (.tmp 17) (.seq c74_4 c74_5) .skip)) (.seq c74_6 (.block 0 (.loop (.block 1 (.seq c74_7 (.seq (.seq c74_8 (.cond (.tmp 29) (.seq (.seq c74_9 (.cond (.tmp 31) (.seq c74_10 (.goto 0)) .skip)) (.seq (.seq c74_11 (.seq c74_12 (.cond (.tmp 42) (.seq c74_13 .ret) .skip))) (.exit 1))) .skip)) (.seq (.seq c74_14 (.cond (.tmp 49) (.seq c74_15 (.seq c74_16 .ret)) .skip)) (.seq (.seq c74_17 (.cond (.tmp 62) (.seq c74_18 .ret) .skip)) (.seq c74_19 (.seq c74_20 c74_21))))))))))))))), [.tmp 6]⟩
theorem comp74 : compFn Tryz.prog 74 = some c74 := by kernel_rfl

def c76_0 : C := .reg [⟨some 2, none, .op (.mv (.const (.slice none 0 0)))⟩]
def c76_1 : C := .reg [⟨some 3, none, .op (.mv (.tmp 0))⟩,
    ⟨some 4, none, .op (.nil 1 false (.tmp 3) (.const (.slice none 0 0)))⟩]
def c76_2 : C := .reg [⟨some 2, none, .op (.mv (.const (.slice none 0 0)))⟩]
def c76_3 : C := .reg [⟨some 5, none, .op (.mkSl (reps 0 [(.bool false)]) 0 [])⟩,
    ⟨some 6, none, .op (.mv (.tmp 0))⟩,
    ⟨some 7, none, .op (.app 1 1 (.tmp 5) (.tmp 6))⟩,
    ⟨some 2, none, .op (.mv (.tmp 7))⟩]
def c76 : Fn' := ⟨(.seq c76_0 (.seq (.seq c76_1 (.cond (.tmp 4) (.seq c76_2 .ret) .skip)) (.seq c76_3 .ret))), [.tmp 2]⟩
theorem comp76 : compFn Tryz.prog 76 = some c76 := by kernel_rfl

def c78_0 : C := .reg [⟨some 2, none, .op (.mv (.const (.slice none 0 0)))⟩]
def c78_1 : C := .reg [⟨some 3, none, .op (.mv (.tmp 0))⟩,
    ⟨some 4, none, .op (.nil 1 false (.tmp 3) (.const (.slice none 0 0)))⟩]
def c78_2 : C := .reg [⟨some 2, none, .op (.mv (.const (.slice none 0 0)))⟩]
def c78_3 : C := .reg [⟨some 5, none, .op (.mkSl (reps 0 [(.int .i64 0)]) 0 [])⟩,
    ⟨some 6, none, .op (.mv (.tmp 0))⟩,
    ⟨some 7, none, .op (.app 1 8 (.tmp 5) (.tmp 6))⟩,
    ⟨some 2, none, .op (.mv (.tmp 7))⟩]
def c78 : Fn' := ⟨(.seq c78_0 (.seq (.seq c78_1 (.cond (.tmp 4) (.seq c78_2 .ret) .skip)) (.seq c78_3 .ret))), [.tmp 2]⟩
theorem comp78 : compFn Tryz.prog 78 = some c78 := by kernel_rfl

def c111_0 : C := .reg [⟨some 2, none, .op (.mv (.const (.pointer none)))⟩,
    ⟨some 3, none, .op (.mv (.const (.int .i64 0)))⟩]
def c111_1 : C := .reg [⟨some 6, none, .op (.mv (.tmp 0))⟩,
    ⟨some 7, none, .op (.bin .lss (.tmp 6) (.const (.int .i64 0)))⟩,
    ⟨some 8, none, .op (.mv (.tmp 7))⟩,
    ⟨some 9, (some (8, false)), .op (.mv (.tmp 0))⟩,
    ⟨some 10, (some (8, false)), .op (.bin .gtr (.tmp 9) (.const (.int .i64 4194304)))⟩,
    ⟨some 11, none, .op (.pick (.tmp 8) (.const (.bool true)) (.tmp 10))⟩]
def c111_2 : C := .reg [⟨some 2, none, .op (.mv (.const (.pointer none)))⟩,
    ⟨some 3, none, .op (.mv (.const (.int .i64 2)))⟩]
def c111_3 : C := .regD 3 [⟨0, ⟨some 12, none, .op (.mv (.tmp 0))⟩, none, []⟩,
    ⟨1, ⟨some 13, none, .op (.bin .add (.tmp 12) (.const (.int .i64 1)))⟩, none, []⟩,
    ⟨3, ⟨some 15, none, .op (.mv (.tmp 0))⟩, none, []⟩,
    ⟨4, ⟨some 16, none, .op (.bin .add (.tmp 15) (.const (.int .i64 1)))⟩, none, []⟩,
    ⟨2, ⟨some 14, none, .op (.mkS [(.int .i64 0)] 8 (.tmp 13) (.tmp 13))⟩, some 0, []⟩,
    ⟨5, ⟨some 17, none, .op (.mkS [(.int .u64 0)] 8 (.tmp 16) (.tmp 16))⟩, some 1, []⟩,
    ⟨6, ⟨some 18, none, .op (.mk [(.slice none 0 0), (.slice none 0 0), (.slice none 0 0)] [(1, 1, .tmp 14), (2, 1, .tmp 17)])⟩, none, []⟩,
    ⟨7, ⟨some 19, none, .op (.mk [(.slice none 0 0), (.slice none 0 0), (.slice none 0 0), (.int .u64 0)] [(3, 1, .const (.int .u64 1)), (0, 3, .tmp 18)])⟩, none, []⟩,
    ⟨8, ⟨some 20, none, .op (.box (.tmp 19))⟩, some 2, []⟩,
    ⟨9, ⟨some 4, none, .op (.mv (.tmp 20))⟩, none, []⟩]
def c111_4 : C := .reg [⟨some 21, none, .op (.mv (.tmp 4))⟩,
    ⟨some 22, none, .op (.nn (.tmp 21))⟩,
    ⟨some 23, none, .op (.fa 0 (.tmp 22))⟩,
    ⟨some 24, none, .op (.fa 1 (.tmp 23))⟩,
    ⟨some 25, none, .op (.ld none (.tmp 24))⟩,
    ⟨some 26, none, .op (.ia 1 (.tmp 25) (.const (.int .i64 0)))⟩,
    ⟨none, none, .op (.st 1 (.tmp 26) (.const (.int .i64 (-1))))⟩]
def c111_5 : C := .reg [⟨some 27, none, .op (.mv (.tmp 0))⟩,
    ⟨some 28, none, .op (.mv (.const (.int .i64 0)))⟩]
def c111_6 : C := .reg [⟨some 29, none, .op (.bin .lss (.tmp 28) (.tmp 27))⟩]
def c111_7 : C := .reg [⟨some 30, none, .op (.mv (.tmp 28))⟩,
    ⟨some 5, none, .op (.mv (.tmp 30))⟩]
def c111_8 : C := .reg [⟨some 31, none, .op (.mv (.tmp 4))⟩,
    ⟨some 32, none, .op (.nn (.tmp 31))⟩,
    ⟨some 33, none, .op (.fa 0 (.tmp 32))⟩,
    ⟨some 34, none, .op (.mv (.tmp 5))⟩,
    ⟨some 35, none, .op (.bin .add (.tmp 34) (.const (.int .i64 1)))⟩,
    ⟨some 36, none, .op (.ifc 3 (.tmp 35))⟩,
    ⟨some 37, none, .call 153 [.tmp 33, .tmp 36]⟩]
def c111_9 : C := .reg [⟨some 38, none, .op (.bin .add (.tmp 28) (.const (.int .i64 1)))⟩,
    ⟨some 28, none, .op (.mv (.tmp 38))⟩]
def c111_10 : C := .reg [⟨some 39, none, .op (.mv (.tmp 4))⟩,
    ⟨some 2, none, .op (.mv (.tmp 39))⟩,
    ⟨some 3, none, .op (.mv (.const (.int .i64 0)))⟩]
def c111 : Fn' := ⟨(.seq c111_0 (.seq (.seq c111_1 (.cond (.tmp 11) (.seq c111_2 .ret) .skip)) (.seq c111_3 (.seq c111_4 (.seq (.seq c111_5 (.block 0 (.loop (.seq c111_6 (.seq (.cond (.tmp 29) .skip (.exit 0)) (.seq (.block 1 (.seq c111_7 c111_8)) c111_9)))))) (.seq c111_10 .ret)))))), [.tmp 2, .tmp 3]⟩
theorem comp111 : compFn Tryz.prog 111 = some c111 := by kernel_rfl

def c113_0 : C := .reg [⟨some 2, none, .op (.mv (.const (.bool false)))⟩]
def c113_1 : C := .reg [⟨some 3, none, .op (.mv (.tmp 0))⟩,
    ⟨some 4, none, .op (.bin .geq (.tmp 3) (.const (.int .i64 0)))⟩,
    ⟨some 5, none, .op (.mv (.tmp 4))⟩,
    ⟨some 6, (some (5, true)), .op (.mv (.tmp 0))⟩,
    ⟨some 7, (some (5, true)), .op (.bin .leq (.tmp 6) (.const (.int .i64 4194304)))⟩,
    ⟨some 8, none, .op (.pick (.tmp 5) (.tmp 7) (.const (.bool false)))⟩,
    ⟨some 2, none, .op (.mv (.tmp 8))⟩]
def c113 : Fn' := ⟨(.seq c113_0 (.seq c113_1 .ret)), [.tmp 2]⟩
theorem comp113 : compFn Tryz.prog 113 = some c113 := by kernel_rfl

def c114_0 : C := .reg [⟨some 3, none, .op (.box (.tmp 1))⟩,
    ⟨some 4, none, .op (.mv (.const (.bool false)))⟩]
def c114_1 : C := .reg [⟨some 5, none, .op (.mv (.tmp 0))⟩,
    ⟨some 6, none, .op (.len (.tmp 5))⟩,
    ⟨some 7, none, .op (.bin .leq (.tmp 6) (.const (.int .i64 4096)))⟩,
    ⟨some 8, none, .op (.mv (.tmp 7))⟩,
    ⟨some 9, (some (8, true)), .op (.mv (.tmp 0))⟩,
    ⟨some 10, (some (8, true)), .op (.fn 154 [] [.tmp 3])⟩,
    ⟨some 11, (some (8, true)), .call 66 [.tmp 9, .tmp 10]⟩,
    ⟨some 12, (some (8, true)), .op (.un .not (.tmp 11))⟩,
    ⟨some 13, none, .op (.pick (.tmp 8) (.tmp 12) (.const (.bool false)))⟩,
    ⟨some 4, none, .op (.mv (.tmp 13))⟩]
def c114 : Fn' := ⟨(.seq c114_0 (.seq c114_1 .ret)), [.tmp 4]⟩
theorem comp114 : compFn Tryz.prog 114 = some c114 := by kernel_rfl

def c115_0 : C := .reg [⟨some 2, none, .op (.mv (.const (.slice none 0 0)))⟩,
    ⟨some 3, none, .op (.mv (.const (.bool false)))⟩]
def c115_1 : C := .reg [⟨some 6, none, .op (.mv (.tmp 0))⟩,
    ⟨some 7, none, .call 78 [.tmp 6]⟩,
    ⟨some 4, none, .op (.mv (.tmp 7))⟩]
def c115_2 : C := .reg [⟨some 8, none, .op (.mv (.tmp 4))⟩,
    ⟨some 9, none, .call 155 [.tmp 8, .func 156]⟩]
def c115_3 : C := .reg [⟨some 10, none, .op (.mv (.tmp 4))⟩,
    ⟨some 11, none, .call 160 [.tmp 10]⟩,
    ⟨some 4, none, .op (.mv (.tmp 11))⟩]
def c115_4 : C := .reg [⟨some 5, none, .op (.mv (.const (.int .i64 1)))⟩]
def c115_5 : C := .reg [⟨some 12, none, .op (.mv (.tmp 5))⟩,
    ⟨some 13, none, .op (.mv (.tmp 4))⟩,
    ⟨some 14, none, .op (.len (.tmp 13))⟩,
    ⟨some 15, none, .op (.bin .lss (.tmp 12) (.tmp 14))⟩]
def c115_6 : C := .regD 0 [⟨0, ⟨some 18, none, .op (.mv (.tmp 4))⟩, none, []⟩,
    ⟨1, ⟨some 19, none, .op (.mv (.tmp 5))⟩, none, []⟩,
    ⟨2, ⟨some 20, none, .op (.ia 1 (.tmp 18) (.tmp 19))⟩, none, []⟩,
    ⟨3, ⟨some 21, none, .op (.ld none (.tmp 20))⟩, none, []⟩,
    ⟨4, ⟨some 22, none, .op (.mv (.tmp 4))⟩, none, []⟩,
    ⟨5, ⟨some 23, none, .op (.mv (.tmp 5))⟩, none, []⟩,
    ⟨6, ⟨some 24, none, .op (.bin .sub (.tmp 23) (.const (.int .i64 1)))⟩, none, []⟩,
    ⟨7, ⟨some 25, none, .op (.ia 1 (.tmp 22) (.tmp 24))⟩, none, []⟩,
    ⟨8, ⟨some 26, none, .op (.ld none (.tmp 25))⟩, none, []⟩,
    ⟨9, ⟨some 27, none, .op (.un .neg (.tmp 26))⟩, none, []⟩,
    ⟨10, ⟨some 28, none, .op (.bin .eql (.tmp 21) (.tmp 27))⟩, none, []⟩]
def c115_7 : C := .reg [⟨some 2, none, .op (.mv (.const (.slice none 0 0)))⟩,
    ⟨some 3, none, .op (.mv (.const (.bool true)))⟩]
def c115_8 : C := .reg [⟨some 16, none, .op (.mv (.tmp 5))⟩,
    ⟨some 17, none, .op (.bin .add (.tmp 16) (.const (.int .i64 1)))⟩,
    ⟨some 5, none, .op (.mv (.tmp 17))⟩]
def c115_9 : C := .reg [⟨some 29, none, .op (.mv (.tmp 4))⟩,
    ⟨some 2, none, .op (.mv (.tmp 29))⟩,
    ⟨some 3, none, .op (.mv (.const (.bool false)))⟩]
def c115 : Fn' := ⟨(.seq c115_0 (.seq c115_1 (.seq c115_2 (.seq c115_3 (.seq (.seq c115_4 (.block 0 (.loop (.seq (.seq c115_5 (.cond (.tmp 15) .skip (.exit 0))) (.seq (.block 1 (.seq c115_6 (.cond (.tmp 28) (.seq c115_7 .ret) .skip))) c115_8))))) (.seq c115_9 .ret)))))), [.tmp 2, .tmp 3]⟩
theorem comp115 : compFn Tryz.prog 115 = some c115 := by kernel_rfl

def c116_0 : C := .reg [⟨some 8, none, .op (.mv (.tmp 1))⟩,
    ⟨some 9, none, .op (.mv (.tmp 0))⟩,
    ⟨some 10, none, .op (.nn (.tmp 9))⟩,
    ⟨some 11, none, .op (.fa 12 (.tmp 10))⟩,
    ⟨some 12, none, .op (.ld none (.tmp 11))⟩,
    ⟨some 13, none, .op (.len (.tmp 12))⟩,
    ⟨some 14, none, .op (.bin .geq (.tmp 8) (.tmp 13))⟩]
def c116_1 : C := .reg [⟨some 15, none, .op (.mv (.tmp 0))⟩,
    ⟨some 16, none, .op (.nn (.tmp 15))⟩,
    ⟨some 17, none, .op (.fa 12 (.tmp 16))⟩,
    ⟨some 18, none, .op (.ld none (.tmp 17))⟩,
    ⟨some 19, none, .op (.mv (.tmp 1))⟩,
    ⟨some 20, none, .op (.ia 1 (.tmp 18) (.tmp 19))⟩,
    ⟨some 21, none, .op (.ld none (.tmp 20))⟩,
    ⟨some 4, none, .op (.mv (.tmp 21))⟩]
def c116_2 : C := .reg [⟨some 22, none, .op (.mv (.tmp 0))⟩,
    ⟨some 23, none, .op (.nn (.tmp 22))⟩,
    ⟨some 24, none, .op (.fa 11 (.tmp 23))⟩,
    ⟨some 25, none, .op (.ld none (.tmp 24))⟩,
    ⟨some 26, none, .op (.mv (.tmp 4))⟩,
    ⟨some 27, none, .op (.slc 1 (.tmp 25) (some (.tmp 26)) none none)⟩,
    ⟨some 28, none, .op (.len (.tmp 27))⟩,
    ⟨some 29, none, .op (.mv (.const (.int .i64 0)))⟩]
def c116_3 : C := .reg [⟨some 30, none, .op (.bin .lss (.tmp 29) (.tmp 28))⟩]
def c116_4 : C := .reg [⟨some 31, none, .op (.ia 1 (.tmp 27) (.tmp 29))⟩,
    ⟨some 32, none, .op (.ld none (.tmp 31))⟩,
    ⟨some 6, none, .op (.mv (.tmp 32))⟩]
def c116_5 : C := .reg [⟨some 33, none, .op (.mv (.tmp 6))⟩,
    ⟨some 34, none, .call 118 [.tmp 33]⟩,
    ⟨some 7, none, .op (.mv (.tmp 34))⟩]
def c116_6 : C := .regD 0 [⟨0, ⟨some 35, none, .op (.mv (.tmp 0))⟩, none, []⟩,
    ⟨1, ⟨some 36, none, .op (.nn (.tmp 35))⟩, none, []⟩,
    ⟨2, ⟨some 37, none, .op (.fa 9 (.tmp 36))⟩, none, []⟩,
    ⟨3, ⟨some 38, none, .op (.ld none (.tmp 37))⟩, none, []⟩,
    ⟨4, ⟨some 39, none, .op (.mv (.tmp 7))⟩, none, []⟩,
    ⟨5, ⟨some 40, none, .op (.mv (.tmp 0))⟩, none, []⟩,
    ⟨6, ⟨some 41, none, .op (.nn (.tmp 40))⟩, none, []⟩,
    ⟨7, ⟨some 42, none, .op (.fa 6 (.tmp 41))⟩, none, []⟩,
    ⟨8, ⟨some 43, none, .op (.ld none (.tmp 42))⟩, none, []⟩,
    ⟨9, ⟨some 44, none, .op (.mv (.tmp 7))⟩, none, []⟩,
    ⟨10, ⟨some 45, none, .op (.mv (.tmp 0))⟩, none, []⟩,
    ⟨11, ⟨some 46, none, .op (.nn (.tmp 45))⟩, none, []⟩,
    ⟨12, ⟨some 47, none, .op (.fa 8 (.tmp 46))⟩, none, []⟩,
    ⟨13, ⟨some 48, none, .op (.ld none (.tmp 47))⟩, none, []⟩,
    ⟨14, ⟨some 49, none, .op (.mv (.tmp 7))⟩, none, []⟩,
    ⟨15, ⟨some 50, none, .op (.mv (.tmp 6))⟩, none, []⟩,
    ⟨16, ⟨some 51, none, .op (.bin .gtr (.tmp 50) (.const (.int .i64 0)))⟩, none, []⟩,
    ⟨17, ⟨some 52, none, .op (.ia 1 (.tmp 38) (.tmp 39))⟩, none, []⟩,
    ⟨18, ⟨none, none, .op (.st 1 (.tmp 52) (.tmp 51))⟩, none, []⟩,
    ⟨19, ⟨some 53, none, .op (.ia 1 (.tmp 43) (.tmp 44))⟩, none, []⟩,
    ⟨20, ⟨none, none, .op (.st 1 (.tmp 53) (.const (.int .i8 0)))⟩, none, []⟩,
    ⟨21, ⟨some 54, none, .op (.ia 1 (.tmp 48) (.tmp 49))⟩, none, []⟩,
    ⟨22, ⟨none, none, .op (.st 1 (.tmp 54) (.const (.int .i64 (-1))))⟩, none, []⟩]
def c116_7 : C := .reg [⟨some 55, none, .op (.mv (.tmp 0))⟩,
    ⟨some 56, none, .op (.nn (.tmp 55))⟩,
    ⟨some 57, none, .op (.fa 14 (.tmp 56))⟩,
    ⟨some 58, none, .op (.ld none (.tmp 57))⟩,
    ⟨some 59, none, .op (.mv (.tmp 7))⟩,
    ⟨some 60, none, .call 161 [.tmp 58, .tmp 59]⟩]
def c116_8 : C := .reg [⟨some 61, none, .op (.bin .add (.tmp 29) (.const (.int .i64 1)))⟩,
    ⟨some 29, none, .op (.mv (.tmp 61))⟩]
def c116_9 : C := .regD 0 [⟨0, ⟨some 62, none, .op (.mv (.tmp 0))⟩, none, []⟩,
    ⟨1, ⟨some 63, none, .op (.mv (.tmp 0))⟩, none, []⟩,
    ⟨2, ⟨some 64, none, .op (.mv (.tmp 0))⟩, none, []⟩,
    ⟨3, ⟨some 65, none, .op (.mv (.tmp 0))⟩, none, []⟩,
    ⟨4, ⟨some 66, none, .op (.nn (.tmp 65))⟩, none, []⟩,
    ⟨5, ⟨some 67, none, .op (.fa 11 (.tmp 66))⟩, none, []⟩,
    ⟨6, ⟨some 68, none, .op (.ld none (.tmp 67))⟩, none, []⟩,
    ⟨7, ⟨some 69, none, .op (.mv (.tmp 4))⟩, none, []⟩,
    ⟨8, ⟨some 70, none, .op (.slc 1 (.tmp 68) none (some (.tmp 69)) none)⟩, none, []⟩,
    ⟨9, ⟨some 71, none, .op (.mv (.tmp 0))⟩, none, []⟩,
    ⟨10, ⟨some 72, none, .op (.nn (.tmp 71))⟩, none, []⟩,
    ⟨11, ⟨some 73, none, .op (.fa 12 (.tmp 72))⟩, none, []⟩,
    ⟨12, ⟨some 74, none, .op (.ld none (.tmp 73))⟩, none, []⟩,
    ⟨13, ⟨some 75, none, .op (.mv (.tmp 1))⟩, none, []⟩,
    ⟨14, ⟨some 76, none, .op (.slc 1 (.tmp 74) none (some (.tmp 75)) none)⟩, none, []⟩,
    ⟨15, ⟨some 77, none, .op (.mv (.tmp 4))⟩, none, []⟩,
    ⟨16, ⟨some 78, none, .op (.nn (.tmp 62))⟩, none, []⟩,
    ⟨17, ⟨some 79, none, .op (.fa 11 (.tmp 78))⟩, none, []⟩,
    ⟨18, ⟨none, none, .op (.st 1 (.tmp 79) (.tmp 70))⟩, none, []⟩,
    ⟨19, ⟨some 80, none, .op (.nn (.tmp 63))⟩, none, []⟩,
    ⟨20, ⟨some 81, none, .op (.fa 12 (.tmp 80))⟩, none, []⟩,
    ⟨21, ⟨none, none, .op (.st 1 (.tmp 81) (.tmp 76))⟩, none, []⟩,
    ⟨22, ⟨some 82, none, .op (.nn (.tmp 64))⟩, none, []⟩,
    ⟨23, ⟨some 83, none, .op (.fa 13 (.tmp 82))⟩, none, []⟩,
    ⟨24, ⟨none, none, .op (.st 1 (.tmp 83) (.tmp 77))⟩, none, []⟩]
def c116 : Fn' := ⟨(.seq (.seq c116_0 (.cond (.tmp 14) .ret .skip)) (.seq c116_1 (.seq (.seq c116_2 (.block 0 (.loop (.seq c116_3 (.seq (.cond (.tmp 30) .skip (.exit 0)) (.seq (.block 1 (.seq c116_4 (.seq c116_5 (.seq c116_6 c116_7)))) c116_8)))))) c116_9))), []⟩
theorem comp116 : compFn Tryz.prog 116 = some c116 := by kernel_rfl

def c117_0 : C := .reg [⟨some 4, none, .op (.mv (.const (.int .i64 0)))⟩]
def c117_1 : C := .reg [⟨some 6, none, .op (.mv (.tmp 0))⟩,
    ⟨some 7, none, .op (.len (.tmp 6))⟩,
    ⟨some 8, none, .op (.mv (.const (.int .i64 0)))⟩]
def c117_2 : C := .reg [⟨some 9, none, .op (.bin .lss (.tmp 8) (.tmp 7))⟩]
def c117_3 : C := .reg [⟨some 10, none, .op (.mv (.tmp 8))⟩,
    ⟨some 5, none, .op (.mv (.tmp 10))⟩]
def c117_4 : C := .reg [⟨some 11, none, .op (.mv (.tmp 1))⟩,
    ⟨some 12, none, .op (.mv (.tmp 0))⟩,
    ⟨some 13, none, .op (.mv (.tmp 5))⟩,
    ⟨some 14, none, .op (.ia 1 (.tmp 12) (.tmp 13))⟩,
    ⟨some 15, none, .op (.ld none (.tmp 14))⟩,
    ⟨some 16, none, .callv (.tmp 11) [.tmp 15]⟩]
def c117_5 : C := .reg [⟨some 17, none, .op (.mv (.tmp 5))⟩,
    ⟨some 4, none, .op (.mv (.tmp 17))⟩]
def c117_6 : C := .reg [⟨some 18, none, .op (.bin .add (.tmp 8) (.const (.int .i64 1)))⟩,
    ⟨some 8, none, .op (.mv (.tmp 18))⟩]
def c117_7 : C := .reg [⟨some 4, none, .op (.mv (.const (.int .i64 (-1))))⟩]
def c117 : Fn' := ⟨(.seq c117_0 (.seq (.seq c117_1 (.block 0 (.loop (.seq c117_2 (.seq (.cond (.tmp 9) .skip (.exit 0)) (.seq (.block 1 (.seq c117_3 (.seq c117_4 (.cond (.tmp 16) (.seq c117_5 .ret) .skip)))) c117_6)))))) (.seq c117_7 .ret))), [.tmp 4]⟩
theorem comp117 : compFn Tryz.prog 117 = some c117 := by kernel_rfl

def c118_0 : C := .reg [⟨some 2, none, .op (.mv (.const (.int .i64 0)))⟩]
def c118_1 : C := .reg [⟨some 3, none, .op (.mv (.tmp 0))⟩,
    ⟨some 4, none, .op (.mv (.tmp 0))⟩,
    ⟨some 5, none, .op (.un .neg (.tmp 4))⟩,
    ⟨some 6, none, .op (.mm true (.tmp 3) [.tmp 5])⟩,
    ⟨some 2, none, .op (.mv (.tmp 6))⟩]
def c118 : Fn' := ⟨(.seq c118_0 (.seq c118_1 .ret)), [.tmp 2]⟩
theorem comp118 : compFn Tryz.prog 118 = some c118 := by kernel_rfl

def c119_0 : C := .reg [⟨some 2, none, .op (.mv (.const (.int .i64 0)))⟩]
def c119_1 : C := .reg [⟨some 3, none, .op (.mv (.tmp 0))⟩,
    ⟨some 4, none, .op (.bin .lss (.tmp 3) (.const (.int .i64 0)))⟩]
def c119_2 : C := .reg [⟨some 5, none, .op (.mv (.tmp 0))⟩,
    ⟨some 6, none, .op (.bin .mul (.const (.int .i64 (-2))) (.tmp 5))⟩,
    ⟨some 7, none, .op (.bin .add (.tmp 6) (.const (.int .i64 1)))⟩,
    ⟨some 2, none, .op (.mv (.tmp 7))⟩]
def c119_3 : C := .reg [⟨some 8, none, .op (.mv (.tmp 0))⟩,
    ⟨some 9, none, .op (.bin .mul (.const (.int .i64 2)) (.tmp 8))⟩,
    ⟨some 2, none, .op (.mv (.tmp 9))⟩]
def c119 : Fn' := ⟨(.seq c119_0 (.seq (.seq c119_1 (.cond (.tmp 4) (.seq c119_2 .ret) .skip)) (.seq c119_3 .ret))), [.tmp 2]⟩
theorem comp119 : compFn Tryz.prog 119 = some c119 := by kernel_rfl

def c120_0 : C := .reg [⟨some 4, none, .op (.mv (.const (.bool false)))⟩]
def c120_1 : C := .reg [⟨some 5, none, .op (.mv (.tmp 0))⟩,
    ⟨some 6, none, .op (.mv (.tmp 1))⟩,
    ⟨some 7, none, .call 162 [.tmp 5, .tmp 6]⟩,
    ⟨some 8, none, .op (.bin .geq (.tmp 7) (.const (.int .i64 0)))⟩,
    ⟨some 4, none, .op (.mv (.tmp 8))⟩]
def c120 : Fn' := ⟨(.seq c120_0 (.seq c120_1 .ret)), [.tmp 4]⟩
theorem comp120 : compFn Tryz.prog 120 = some c120 := by kernel_rfl

def c121_0 : C := .reg [⟨some 3, none, .op (.mv (.const (.bool false)))⟩]
def c121_1 : C := .reg [⟨some 4, none, .op (.mv (.tmp 0))⟩,
    ⟨some 5, none, .op (.ld none (.tmp 1))⟩,
    ⟨some 6, none, .call 114 [.tmp 4, .tmp 5]⟩,
    ⟨some 7, none, .op (.un .not (.tmp 6))⟩,
    ⟨some 3, none, .op (.mv (.tmp 7))⟩]
def c121 : Fn' := ⟨(.seq c121_0 (.seq c121_1 .ret)), [.tmp 3]⟩
theorem comp121 : compFn Tryz.prog 121 = some c121 := by kernel_rfl

def c122_0 : C := .reg [⟨some 4, none, .op (.mv (.const (.bool false)))⟩]
def c122_1 : C := .reg [⟨some 5, none, .op (.mv (.const (.slice none 0 0)))⟩]
def c122_2 : C := .reg [⟨some 14, none, .op (.mv (.tmp 0))⟩,
    ⟨some 15, none, .op (.nn (.tmp 14))⟩,
    ⟨some 16, none, .op (.fa 3 (.tmp 15))⟩,
    ⟨some 17, none, .op (.ld none (.tmp 16))⟩,
    ⟨some 18, none, .op (.len (.tmp 17))⟩,
    ⟨some 19, none, .op (.mv (.const (.int .i64 0)))⟩]
def c122_3 : C := .reg [⟨some 20, none, .op (.bin .lss (.tmp 19) (.tmp 18))⟩]
def c122_4 : C := .reg [⟨some 21, none, .op (.mv (.tmp 19))⟩,
    ⟨some 22, none, .op (.ia 1 (.tmp 17) (.tmp 19))⟩,
    ⟨some 23, none, .op (.ld none (.tmp 22))⟩,
    ⟨some 6, none, .op (.mv (.tmp 21))⟩,
    ⟨some 7, none, .op (.mv (.tmp 23))⟩]
def c122_5 : C := .reg [⟨some 24, none, .op (.mv (.tmp 0))⟩,
    ⟨some 25, none, .op (.nn (.tmp 24))⟩,
    ⟨some 26, none, .op (.fa 4 (.tmp 25))⟩,
    ⟨some 27, none, .op (.ld none (.tmp 26))⟩,
    ⟨some 28, none, .op (.mv (.tmp 6))⟩,
    ⟨some 29, none, .op (.ia 1 (.tmp 27) (.tmp 28))⟩,
    ⟨some 30, none, .op (.ld none (.tmp 29))⟩]
def c122_6 : C := .reg [⟨some 31, none, .op (.mv (.tmp 5))⟩,
    ⟨some 32, none, .op (.mv (.tmp 7))⟩,
    ⟨some 33, none, .op (.len (.tmp 32))⟩,
    ⟨some 34, none, .op (.mkSl (reps 1 [(.int .i64 0)]) 1 [(0, 1, .tmp 33)])⟩,
    ⟨some 35, none, .op (.app 1 8 (.tmp 31) (.tmp 34))⟩,
    ⟨some 5, none, .op (.mv (.tmp 35))⟩]
def c122_7 : C := .reg [⟨some 36, none, .op (.bin .add (.tmp 19) (.const (.int .i64 1)))⟩,
    ⟨some 19, none, .op (.mv (.tmp 36))⟩]
def c122_8 : C := .reg [⟨some 37, none, .op (.mv (.tmp 5))⟩,
    ⟨some 38, none, .op (.len (.tmp 37))⟩,
    ⟨some 39, none, .op (.mv (.tmp 1))⟩,
    ⟨some 40, none, .op (.bin .leq (.tmp 38) (.tmp 39))⟩]
def c122_9 : C := .reg [⟨some 4, none, .op (.mv (.const (.bool false)))⟩]
def c122_10 : C := .reg [⟨some 41, none, .op (.mv (.tmp 5))⟩,
    ⟨some 42, none, .call 163 [.tmp 41]⟩]
def c122_11 : C := .reg [⟨some 43, none, .op (.mv (.tmp 5))⟩,
    ⟨some 44, none, .op (.mv (.tmp 5))⟩,
    ⟨some 45, none, .op (.len (.tmp 44))⟩,
    ⟨some 46, none, .op (.bin .quo (.tmp 45) (.const (.int .i64 2)))⟩,
    ⟨some 47, none, .op (.ia 1 (.tmp 43) (.tmp 46))⟩,
    ⟨some 48, none, .op (.ld none (.tmp 47))⟩,
    ⟨some 49, none, .op (.mm true (.tmp 48) [.const (.int .i64 2)])⟩,
    ⟨some 8, none, .op (.mv (.tmp 49))⟩]
def c122_12 : C := .regD 0 [⟨0, ⟨some 50, none, .op (.mv (.tmp 0))⟩, none, []⟩,
    ⟨1, ⟨some 51, none, .op (.nn (.tmp 50))⟩, none, []⟩,
    ⟨2, ⟨some 52, none, .op (.fa 3 (.tmp 51))⟩, none, []⟩,
    ⟨3, ⟨some 53, none, .op (.ld none (.tmp 52))⟩, none, []⟩,
    ⟨4, ⟨some 54, none, .op (.mv (.tmp 0))⟩, none, []⟩,
    ⟨5, ⟨some 55, none, .op (.nn (.tmp 54))⟩, none, []⟩,
    ⟨6, ⟨some 56, none, .op (.fa 4 (.tmp 55))⟩, none, []⟩,
    ⟨7, ⟨some 57, none, .op (.ld none (.tmp 56))⟩, none, []⟩,
    ⟨8, ⟨some 9, none, .op (.mv (.tmp 53))⟩, none, []⟩,
    ⟨9, ⟨some 10, none, .op (.mv (.tmp 57))⟩, none, []⟩]
def c122_13 : C := .reg [⟨some 58, none, .op (.mv (.tmp 0))⟩,
    ⟨some 59, none, .op (.mv (.tmp 0))⟩,
    ⟨some 60, none, .op (.nn (.tmp 58))⟩,
    ⟨some 61, none, .op (.fa 3 (.tmp 60))⟩,
    ⟨none, none, .op (.st 1 (.tmp 61) (.const (.slice none 0 0)))⟩,
    ⟨some 62, none, .op (.nn (.tmp 59))⟩,
    ⟨some 63, none, .op (.fa 4 (.tmp 62))⟩,
    ⟨none, none, .op (.st 1 (.tmp 63) (.const (.slice none 0 0)))⟩]
def c122_14 : C := .reg [⟨some 64, none, .op (.mv (.tmp 0))⟩,
    ⟨some 65, none, .op (.nn (.tmp 64))⟩,
    ⟨some 66, none, .op (.fa 5 (.tmp 65))⟩,
    ⟨some 67, none, .op (.ld none (.tmp 66))⟩,
    ⟨some 68, none, .op (.len (.tmp 67))⟩,
    ⟨some 69, none, .op (.mv (.const (.int .i64 0)))⟩]
def c122_15 : C := .reg [⟨some 70, none, .op (.bin .lss (.tmp 69) (.tmp 68))⟩]
def c122_16 : C := .reg [⟨some 71, none, .op (.mv (.tmp 69))⟩,
    ⟨some 11, none, .op (.mv (.tmp 71))⟩]
def c122_17 : C := .reg [⟨some 72, none, .op (.mv (.tmp 0))⟩,
    ⟨some 73, none, .op (.nn (.tmp 72))⟩,
    ⟨some 74, none, .op (.fa 5 (.tmp 73))⟩,
    ⟨some 75, none, .op (.ld none (.tmp 74))⟩,
    ⟨some 76, none, .op (.mv (.tmp 11))⟩,
    ⟨some 77, none, .op (.ia 1 (.tmp 75) (.tmp 76))⟩,
    ⟨none, none, .op (.st 1 (.tmp 77) (.const (.slice none 0 0)))⟩]
def c122_18 : C := .reg [⟨some 78, none, .op (.bin .add (.tmp 69) (.const (.int .i64 1)))⟩,
    ⟨some 69, none, .op (.mv (.tmp 78))⟩]
def c122_19 : C := .reg [⟨some 79, none, .op (.mv (.tmp 9))⟩,
    ⟨some 80, none, .op (.len (.tmp 79))⟩,
    ⟨some 81, none, .op (.mv (.const (.int .i64 0)))⟩]
def c122_20 : C := .reg [⟨some 82, none, .op (.bin .lss (.tmp 81) (.tmp 80))⟩]
def c122_21 : C := .reg [⟨some 83, none, .op (.mv (.tmp 81))⟩,
    ⟨some 84, none, .op (.ia 1 (.tmp 79) (.tmp 81))⟩,
    ⟨some 85, none, .op (.ld none (.tmp 84))⟩,
    ⟨some 12, none, .op (.mv (.tmp 83))⟩,
    ⟨some 13, none, .op (.mv (.tmp 85))⟩]
def c122_22 : C := .reg [⟨some 86, none, .op (.mv (.tmp 10))⟩,
    ⟨some 87, none, .op (.mv (.tmp 12))⟩,
    ⟨some 88, none, .op (.ia 1 (.tmp 86) (.tmp 87))⟩,
    ⟨some 89, none, .op (.ld none (.tmp 88))⟩,
    ⟨some 90, none, .op (.un .not (.tmp 89))⟩,
    ⟨some 91, none, .op (.mv (.tmp 90))⟩,
    ⟨some 92, (some (91, false)), .op (.mv (.tmp 13))⟩,
    ⟨some 93, (some (91, false)), .op (.len (.tmp 92))⟩,
    ⟨some 94, (some (91, false)), .op (.mv (.tmp 8))⟩,
    ⟨some 95, (some (91, false)), .op (.bin .leq (.tmp 93) (.tmp 94))⟩,
    ⟨some 96, none, .op (.pick (.tmp 91) (.const (.bool true)) (.tmp 95))⟩]
def c122_23 : C := .reg [⟨some 97, none, .op (.mv (.tmp 0))⟩,
    ⟨some 98, none, .op (.mv (.tmp 13))⟩,
    ⟨some 99, none, .op (.mv (.tmp 10))⟩,
    ⟨some 100, none, .op (.mv (.tmp 12))⟩,
    ⟨some 101, none, .op (.ia 1 (.tmp 99) (.tmp 100))⟩,
    ⟨some 102, none, .op (.ld none (.tmp 101))⟩,
    ⟨some 103, none, .call 72 [.tmp 97, .tmp 98, .tmp 102]⟩]
def c122_24 : C := .reg [⟨some 104, none, .op (.bin .add (.tmp 81) (.const (.int .i64 1)))⟩,
    ⟨some 81, none, .op (.mv (.tmp 104))⟩]
def c122_25 : C := .reg [⟨some 4, none, .op (.mv (.const (.bool true)))⟩]
def c122 : Fn' := ⟨(.seq c122_0 (.seq c122_1 (.seq (.seq c122_2 (.block 0 (.loop (.seq c122_3 (.seq (.cond (.tmp 20) .skip (.exit 0)) (.seq (.block 1 (.seq c122_4 (.seq c122_5 (.cond (.tmp 30) c122_6 .skip)))) c122_7)))))) (.seq (.seq c122_8 (.cond (.tmp 40) (.seq c122_9 .ret) .skip)) (.seq c122_10 (.seq c122_11 (.seq c122_12 (.seq c122_13 (.seq (.seq c122_14 (.block 2 (.loop (.seq c122_15 (.seq (.cond (.tmp 70) .skip (.exit 2)) (.seq (.block 3 (.seq c122_16 c122_17)) c122_18)))))) (.seq (.seq c122_19 (.block 4 (.loop (.seq c122_20 (.seq (.cond (.tmp 82) .skip (.exit 4)) (.seq (.block 5 (.seq c122_21 (.seq c122_22 (.cond (.tmp 96) c122_23 .skip)))) c122_24)))))) (.seq c122_25 .ret))))))))))), [.tmp 4]⟩
theorem comp122 : compFn Tryz.prog 122 = some c122 := by kernel_rfl

def c123_0 : C := .reg [⟨some 2, none, .op (.mv (.const (.int .i64 0)))⟩]
def c123_1 : C := .regD 0 [⟨0, ⟨some 9, none, .op (.mv (.tmp 0))⟩, none, []⟩,
    ⟨1, ⟨some 10, none, .op (.nn (.tmp 9))⟩, none, []⟩,
    ⟨2, ⟨some 11, none, .op (.fa 13 (.tmp 10))⟩, none, []⟩,
    ⟨3, ⟨some 12, none, .op (.ld none (.tmp 11))⟩, none, []⟩,
    ⟨4, ⟨some 13, none, .op (.mv (.tmp 0))⟩, none, []⟩,
    ⟨5, ⟨some 14, none, .op (.nn (.tmp 13))⟩, none, []⟩,
    ⟨6, ⟨some 15, none, .op (.fa 11 (.tmp 14))⟩, none, []⟩,
    ⟨7, ⟨some 16, none, .op (.ld none (.tmp 15))⟩, none, []⟩,
    ⟨8, ⟨some 17, none, .op (.len (.tmp 16))⟩, none, []⟩,
    ⟨9, ⟨some 18, none, .op (.bin .lss (.tmp 12) (.tmp 17))⟩, none, []⟩]
def c123_2 : C := .regD 0 [⟨0, ⟨some 19, none, .op (.mv (.tmp 0))⟩, none, []⟩,
    ⟨1, ⟨some 20, none, .op (.nn (.tmp 19))⟩, none, []⟩,
    ⟨2, ⟨some 21, none, .op (.fa 11 (.tmp 20))⟩, none, []⟩,
    ⟨3, ⟨some 22, none, .op (.ld none (.tmp 21))⟩, none, []⟩,
    ⟨4, ⟨some 23, none, .op (.mv (.tmp 0))⟩, none, []⟩,
    ⟨5, ⟨some 24, none, .op (.nn (.tmp 23))⟩, none, []⟩,
    ⟨6, ⟨some 25, none, .op (.fa 13 (.tmp 24))⟩, none, []⟩,
    ⟨7, ⟨some 26, none, .op (.ld none (.tmp 25))⟩, none, []⟩,
    ⟨8, ⟨some 27, none, .op (.ia 1 (.tmp 22) (.tmp 26))⟩, none, []⟩,
    ⟨9, ⟨some 28, none, .op (.ld none (.tmp 27))⟩, none, []⟩,
    ⟨10, ⟨some 29, none, .op (.un .neg (.tmp 28))⟩, none, []⟩,
    ⟨11, ⟨some 3, none, .op (.mv (.tmp 29))⟩, none, []⟩]
def c123_3 : C := .reg [⟨some 30, none, .op (.mv (.tmp 0))⟩,
    ⟨some 31, none, .op (.nn (.tmp 30))⟩,
    ⟨some 32, none, .op (.fa 13 (.tmp 31))⟩,
    ⟨some 33, none, .op (.ld none (.tmp 32))⟩,
    ⟨some 34, none, .op (.bin .add (.tmp 33) (.const (.int .i64 1)))⟩,
    ⟨some 35, none, .op (.nn (.tmp 30))⟩,
    ⟨some 36, none, .op (.fa 13 (.tmp 35))⟩,
    ⟨none, none, .op (.st 1 (.tmp 36) (.tmp 34))⟩]
def c123_4 : C := .regD 0 [⟨0, ⟨some 37, none, .op (.mv (.tmp 0))⟩, none, []⟩,
    ⟨1, ⟨some 38, none, .op (.nn (.tmp 37))⟩, none, []⟩,
    ⟨2, ⟨some 39, none, .op (.fa 5 (.tmp 38))⟩, none, []⟩,
    ⟨3, ⟨some 40, none, .op (.ld none (.tmp 39))⟩, none, []⟩,
    ⟨4, ⟨some 41, none, .op (.mv (.tmp 3))⟩, none, []⟩,
    ⟨5, ⟨some 42, none, .call 119 [.tmp 41]⟩, none, [(none, .tmp 39, 40, none)]⟩,
    ⟨6, ⟨some 43, none, .op (.ia 1 (.tmp 40) (.tmp 42))⟩, none, []⟩,
    ⟨7, ⟨some 44, none, .op (.ld none (.tmp 43))⟩, none, []⟩,
    ⟨8, ⟨some 4, none, .op (.mv (.tmp 44))⟩, none, []⟩]
def c123_5 : C := .reg [⟨some 45, none, .op (.mv (.tmp 4))⟩,
    ⟨some 46, none, .op (.slc 1 (.tmp 45) none (some (.const (.int .i64 0))) none)⟩,
    ⟨some 5, none, .op (.mv (.tmp 46))⟩]
def c123_6 : C := .reg [⟨some 47, none, .op (.mv (.tmp 4))⟩,
    ⟨some 48, none, .op (.len (.tmp 47))⟩,
    ⟨some 49, none, .op (.mv (.const (.int .i64 0)))⟩]
def c123_7 : C := .reg [⟨some 50, none, .op (.bin .lss (.tmp 49) (.tmp 48))⟩]
def c123_8 : C := .reg [⟨some 51, none, .op (.mv (.tmp 49))⟩,
    ⟨some 52, none, .op (.ia 1 (.tmp 47) (.tmp 49))⟩,
    ⟨some 53, none, .op (.ld none (.tmp 52))⟩,
    ⟨some 6, none, .op (.mv (.tmp 51))⟩,
    ⟨some 7, none, .op (.mv (.tmp 53))⟩]
def c123_9 : C := .reg [⟨some 54, none, .op (.mv (.tmp 0))⟩,
    ⟨some 55, none, .op (.nn (.tmp 54))⟩,
    ⟨some 56, none, .op (.fa 3 (.tmp 55))⟩,
    ⟨some 57, none, .op (.ld none (.tmp 56))⟩,
    ⟨some 58, none, .op (.mv (.tmp 7))⟩,
    ⟨some 59, none, .op (.ia 1 (.tmp 57) (.tmp 58))⟩,
    ⟨some 60, none, .op (.ld none (.tmp 59))⟩,
    ⟨some 8, none, .op (.mv (.tmp 60))⟩]
def c123_10 : C := .reg [⟨some 61, none, .op (.mv (.tmp 8))⟩,
    ⟨some 62, none, .op (.ia 1 (.tmp 61) (.const (.int .i64 0)))⟩,
    ⟨some 63, none, .op (.ld none (.tmp 62))⟩,
    ⟨some 64, none, .op (.mv (.tmp 3))⟩,
    ⟨some 65, none, .op (.bin .eql (.tmp 63) (.tmp 64))⟩]
def c123_11 : C := .regD 0 [⟨0, ⟨some 66, none, .op (.mv (.tmp 8))⟩, none, []⟩,
    ⟨1, ⟨some 67, none, .op (.mv (.tmp 8))⟩, none, []⟩,
    ⟨2, ⟨some 68, none, .op (.mv (.tmp 8))⟩, none, []⟩,
    ⟨3, ⟨some 69, none, .op (.ia 1 (.tmp 68) (.const (.int .i64 1)))⟩, none, []⟩,
    ⟨4, ⟨some 70, none, .op (.ld none (.tmp 69))⟩, none, []⟩,
    ⟨5, ⟨some 71, none, .op (.mv (.tmp 8))⟩, none, []⟩,
    ⟨6, ⟨some 72, none, .op (.ia 1 (.tmp 71) (.const (.int .i64 0)))⟩, none, []⟩,
    ⟨7, ⟨some 73, none, .op (.ld none (.tmp 72))⟩, none, []⟩,
    ⟨8, ⟨some 74, none, .op (.ia 1 (.tmp 66) (.const (.int .i64 0)))⟩, none, []⟩,
    ⟨9, ⟨none, none, .op (.st 1 (.tmp 74) (.tmp 70))⟩, none, []⟩,
    ⟨10, ⟨some 75, none, .op (.ia 1 (.tmp 67) (.const (.int .i64 1)))⟩, none, []⟩,
    ⟨11, ⟨none, none, .op (.st 1 (.tmp 75) (.tmp 73))⟩, none, []⟩]
def c123_12 : C := .reg [⟨some 76, none, .op (.mv (.tmp 0))⟩,
    ⟨some 77, none, .op (.mv (.tmp 8))⟩,
    ⟨some 78, none, .op (.ia 1 (.tmp 77) (.const (.int .i64 0)))⟩,
    ⟨some 79, none, .op (.ld none (.tmp 78))⟩,
    ⟨some 80, none, .call 68 [.tmp 76, .tmp 79]⟩,
    ⟨some 81, none, .op (.bin .leq (.tmp 80) (.const (.int .i8 0)))⟩,
    ⟨some 82, none, .op (.mv (.tmp 81))⟩,
    ⟨some 83, (some (82, true)), .op (.mv (.tmp 0))⟩,
    ⟨some 84, (some (82, true)), .op (.mv (.tmp 7))⟩,
    ⟨some 85, (some (82, true)), .call 164 [.tmp 83, .tmp 84]⟩,
    ⟨some 86, none, .op (.pick (.tmp 82) (.tmp 85) (.const (.bool false)))⟩]
def c123_13 : C := .reg [⟨some 87, none, .op (.mv (.tmp 5))⟩,
    ⟨some 88, none, .op (.mv (.tmp 7))⟩,
    ⟨some 89, none, .op (.mkSl (reps 1 [(.int .i64 0)]) 1 [(0, 1, .tmp 88)])⟩,
    ⟨some 90, none, .op (.app 1 8 (.tmp 87) (.tmp 89))⟩,
    ⟨some 5, none, .op (.mv (.tmp 90))⟩]
def c123_14 : C := .reg [⟨some 92, none, .op (.mv (.tmp 0))⟩,
    ⟨some 93, none, .op (.mv (.tmp 8))⟩,
    ⟨some 94, none, .op (.ia 1 (.tmp 93) (.const (.int .i64 0)))⟩,
    ⟨some 95, none, .op (.ld none (.tmp 94))⟩,
    ⟨some 96, none, .call 68 [.tmp 92, .tmp 95]⟩,
    ⟨some 97, none, .op (.bin .lss (.tmp 96) (.const (.int .i8 0)))⟩,
    ⟨some 91, none, .op (.mv (.tmp 97))⟩]
def c123_15 : C := .regD 0 [⟨0, ⟨some 98, none, .op (.mv (.tmp 0))⟩, none, []⟩,
    ⟨1, ⟨some 99, none, .op (.nn (.tmp 98))⟩, none, []⟩,
    ⟨2, ⟨some 100, none, .op (.fa 5 (.tmp 99))⟩, none, []⟩,
    ⟨3, ⟨some 101, none, .op (.ld none (.tmp 100))⟩, none, []⟩,
    ⟨4, ⟨some 102, none, .op (.mv (.tmp 3))⟩, none, []⟩,
    ⟨6, ⟨some 104, none, .op (.mv (.tmp 5))⟩, none, []⟩,
    ⟨7, ⟨some 105, none, .op (.mv (.tmp 4))⟩, none, []⟩,
    ⟨8, ⟨some 106, none, .op (.mv (.tmp 6))⟩, none, []⟩,
    ⟨9, ⟨some 107, none, .op (.bin .add (.tmp 106) (.const (.int .i64 1)))⟩, none, []⟩,
    ⟨10, ⟨some 108, none, .op (.slc 1 (.tmp 105) (some (.tmp 107)) none none)⟩, none, []⟩,
    ⟨5, ⟨some 103, none, .call 119 [.tmp 102]⟩, none, [(none, .tmp 100, 101, none)]⟩,
    ⟨11, ⟨some 109, none, .op (.app 1 8 (.tmp 104) (.tmp 108))⟩, none, [(none, .tmp 100, 101, none)]⟩,
    ⟨12, ⟨some 110, none, .op (.ia 1 (.tmp 101) (.tmp 103))⟩, none, []⟩,
    ⟨13, ⟨none, none, .op (.st 1 (.tmp 110) (.tmp 109))⟩, none, []⟩]
def c123_16 : C := .reg [⟨some 111, none, .op (.mv (.tmp 7))⟩,
    ⟨some 2, none, .op (.mv (.tmp 111))⟩]
def c123_17 : C := .reg [⟨some 113, none, .op (.mv (.tmp 0))⟩,
    ⟨some 114, none, .op (.mv (.tmp 8))⟩,
    ⟨some 115, none, .op (.ia 1 (.tmp 114) (.const (.int .i64 0)))⟩,
    ⟨some 116, none, .op (.ld none (.tmp 115))⟩,
    ⟨some 117, none, .call 68 [.tmp 113, .tmp 116]⟩,
    ⟨some 118, none, .op (.bin .eql (.tmp 117) (.const (.int .i8 0)))⟩,
    ⟨some 112, none, .op (.mv (.tmp 118))⟩]
def c123_18 : C := .reg [⟨some 119, none, .op (.mv (.tmp 0))⟩,
    ⟨some 120, none, .op (.mv (.tmp 8))⟩,
    ⟨some 121, none, .op (.ia 1 (.tmp 120) (.const (.int .i64 0)))⟩,
    ⟨some 122, none, .op (.ld none (.tmp 121))⟩,
    ⟨some 123, none, .op (.mv (.tmp 7))⟩,
    ⟨some 124, none, .call 71 [.tmp 119, .tmp 122, .tmp 123]⟩]
def c123_19 : C := .reg [⟨some 125, none, .op (.bin .add (.tmp 49) (.const (.int .i64 1)))⟩,
    ⟨some 49, none, .op (.mv (.tmp 125))⟩]
def c123_20 : C := .regD 0 [⟨0, ⟨some 126, none, .op (.mv (.tmp 0))⟩, none, []⟩,
    ⟨1, ⟨some 127, none, .op (.nn (.tmp 126))⟩, none, []⟩,
    ⟨2, ⟨some 128, none, .op (.fa 5 (.tmp 127))⟩, none, []⟩,
    ⟨3, ⟨some 129, none, .op (.ld none (.tmp 128))⟩, none, []⟩,
    ⟨4, ⟨some 130, none, .op (.mv (.tmp 3))⟩, none, []⟩,
    ⟨6, ⟨some 132, none, .op (.mv (.tmp 5))⟩, none, []⟩,
    ⟨5, ⟨some 131, none, .call 119 [.tmp 130]⟩, none, [(none, .tmp 128, 129, none)]⟩,
    ⟨7, ⟨some 133, none, .op (.ia 1 (.tmp 129) (.tmp 131))⟩, none, []⟩,
    ⟨8, ⟨none, none, .op (.st 1 (.tmp 133) (.tmp 132))⟩, none, []⟩]
def c123_21 : C := .reg [⟨some 2, none, .op (.mv (.const (.int .i64 (-1))))⟩]
def c123 : Fn' := ⟨(.seq c123_0 (.scope 0 (.seq (.label 0) (.seq (.block 0 (.loop (.seq (.seq c123_1 (.cond (.tmp 18) .skip (.exit 0))) (.block 1 (.seq c123_2 (.seq c123_3 (.seq c123_4 (.seq c123_5 (.seq (.seq c123_6 (.block 2 (.loop (.seq c123_7 (.seq (.cond (.tmp 50) .skip (.exit 2)) (.seq (.block 3 (.seq c123_8 (.seq c123_9 (.seq (.seq c123_10 (.cond (.tmp 65) c123_11 .skip)) (.seq (.seq c123_12 (.cond (.tmp 86) (.exit 3) .skip)) (.seq c123_13 (.block 4 (.seq c123_14 (.cond (.tmp 91) (.seq c123_15 (.seq c123_16 .ret)) (.seq c123_17 (.cond (.tmp 112) c123_18 .skip))))))))))) c123_19)))))) (.seq c123_20 (.exit 1))))))))))) (.seq c123_21 .ret))) (.seq .skip (.seq (.block 0 (.loop (.seq (.seq c123_1 (.cond (.tmp 18) .skip (.exit 0))) (.block 1 (.seq c123_2 (.seq c123_3 (.seq c123_4 (.seq c123_5 (.seq (.seq c123_6 (.block 2 (.loop (.seq c123_7 (.seq (.cond (.tmp 50) .skip (.exit 2)) (.seq (.block 3 (.seq c123_8 (.seq c123_9 (.seq (.seq c123_10 (.cond (.tmp 65) c123_11 .skip)) (.seq (.seq c123_12 (.cond (.tmp 86) (.exit 3) .skip)) (.seq c123_13 (.block 4 (.seq c123_14 (.cond (.tmp 91) (.seq c123_15 (.seq c123_16 .ret)) (.seq c123_17 (.cond (.tmp 112) c123_18 .skip))))))))))) c123_19)))))) (.seq c123_20 (.exit 1))))))))))) (.seq c123_21 .ret))))), [.tmp 2]⟩
theorem comp123 : compFn Tryz.prog 123 = some c123 := by kernel_rfl

def c124_0 : C := .reg [⟨some 4, none, .op (.mv (.const (.int .u8 0)))⟩,
    ⟨some 5, none, .op (.mv (.const (.bool false)))⟩]
def c124_1 : C := .reg [⟨some 15, none, .op (.mv (.tmp 0))⟩,
    ⟨some 16, none, .op (.nn (.tmp 15))⟩,
    ⟨some 17, none, .op (.fa 12 (.tmp 16))⟩,
    ⟨some 18, none, .op (.ld none (.tmp 17))⟩,
    ⟨some 19, none, .op (.len (.tmp 18))⟩,
    ⟨some 6, none, .op (.mv (.tmp 19))⟩]
def c124_2 : C := .reg [⟨some 20, none, .op (.mv (.tmp 6))⟩,
    ⟨some 21, none, .op (.mv (.tmp 1))⟩,
    ⟨some 22, none, .op (.len (.tmp 21))⟩,
    ⟨some 23, none, .op (.bin .lss (.tmp 20) (.tmp 22))⟩]
def c124_3 : C := .reg [⟨some 24, none, .op (.mv (.tmp 1))⟩,
    ⟨some 25, none, .op (.mv (.tmp 6))⟩,
    ⟨some 26, none, .op (.ia 1 (.tmp 24) (.tmp 25))⟩,
    ⟨some 27, none, .op (.ld none (.tmp 26))⟩,
    ⟨some 7, none, .op (.mv (.tmp 27))⟩]
def c124_4 : C := .reg [⟨some 28, none, .op (.mv (.tmp 0))⟩,
    ⟨some 29, none, .op (.mv (.tmp 7))⟩,
    ⟨some 30, none, .call 68 [.tmp 28, .tmp 29]⟩,
    ⟨some 31, none, .op (.bin .lss (.tmp 30) (.const (.int .i8 0)))⟩]
def c124_5 : C := .reg [⟨some 32, none, .op (.mv (.tmp 0))⟩,
    ⟨some 33, none, .op (.mv (.tmp 7))⟩,
    ⟨some 34, none, .call 165 [.tmp 32, .tmp 33]⟩,
    ⟨some 8, none, .op (.mv (.tmp 34))⟩]
def c124_6 : C := .reg [⟨some 35, none, .op (.mv (.tmp 1))⟩,
    ⟨some 36, none, .op (.len (.tmp 35))⟩,
    ⟨some 37, none, .op (.mv (.const (.int .i64 0)))⟩]
def c124_7 : C := .reg [⟨some 38, none, .op (.bin .lss (.tmp 37) (.tmp 36))⟩]
def c124_8 : C := .reg [⟨some 39, none, .op (.ia 1 (.tmp 35) (.tmp 37))⟩,
    ⟨some 40, none, .op (.ld none (.tmp 39))⟩,
    ⟨some 10, none, .op (.mv (.tmp 40))⟩]
def c124_9 : C := .reg [⟨some 41, none, .op (.mv (.tmp 8))⟩,
    ⟨some 42, none, .op (.mv (.tmp 10))⟩,
    ⟨some 43, none, .op (.mpl .i64 (.int .i64 0) false (.tmp 41) (.tmp 42))⟩,
    ⟨some 44, none, .op (.bin .gtr (.tmp 43) (.const (.int .i64 0)))⟩]
def c124_10 : C := .reg [⟨some 45, none, .op (.mv (.tmp 0))⟩,
    ⟨some 46, none, .op (.mv (.tmp 8))⟩,
    ⟨some 47, none, .op (.mv (.tmp 10))⟩,
    ⟨some 48, none, .op (.mv (.tmp 0))⟩,
    ⟨some 49, none, .op (.nn (.tmp 48))⟩,
    ⟨some 50, none, .op (.fa 16 (.tmp 49))⟩,
    ⟨some 51, none, .op (.ld none (.tmp 50))⟩,
    ⟨some 52, none, .op (.mv (.tmp 10))⟩,
    ⟨some 53, none, .op (.mkSl (reps 1 [(.int .i64 0)]) 1 [(0, 1, .tmp 52)])⟩,
    ⟨some 54, none, .op (.app 1 8 (.tmp 51) (.tmp 53))⟩,
    ⟨some 55, none, .op (.nn (.tmp 45))⟩,
    ⟨some 56, none, .op (.fa 16 (.tmp 55))⟩,
    ⟨none, none, .op (.st 1 (.tmp 56) (.tmp 54))⟩,
    ⟨none, none, .op (.mpu .i64 (.tmp 46) (.tmp 47) (.const (.int .i64 0)))⟩]
def c124_11 : C := .reg [⟨some 57, none, .op (.bin .add (.tmp 37) (.const (.int .i64 1)))⟩,
    ⟨some 37, none, .op (.mv (.tmp 57))⟩]
def c124_12 : C := .reg [⟨some 4, none, .op (.mv (.const (.int .u8 2)))⟩,
    ⟨some 5, none, .op (.mv (.const (.bool true)))⟩]
def c124_13 : C := .regD 1 [⟨0, ⟨some 58, none, .op (.mv (.tmp 0))⟩, none, []⟩,
    ⟨1, ⟨some 59, none, .op (.mv (.tmp 0))⟩, none, []⟩,
    ⟨2, ⟨some 60, none, .op (.nn (.tmp 59))⟩, none, []⟩,
    ⟨3, ⟨some 61, none, .op (.fa 12 (.tmp 60))⟩, none, []⟩,
    ⟨4, ⟨some 62, none, .op (.ld none (.tmp 61))⟩, none, []⟩,
    ⟨5, ⟨some 63, none, .op (.mv (.tmp 0))⟩, none, []⟩,
    ⟨6, ⟨some 64, none, .op (.nn (.tmp 63))⟩, none, []⟩,
    ⟨7, ⟨some 65, none, .op (.fa 11 (.tmp 64))⟩, none, []⟩,
    ⟨8, ⟨some 66, none, .op (.ld none (.tmp 65))⟩, none, []⟩,
    ⟨9, ⟨some 67, none, .op (.len (.tmp 66))⟩, none, []⟩,
    ⟨10, ⟨some 68, none, .op (.mkSl (reps 1 [(.int .i64 0)]) 1 [(0, 1, .tmp 67)])⟩, some 0, []⟩,
    ⟨11, ⟨some 69, none, .op (.app 1 8 (.tmp 62) (.tmp 68))⟩, none, []⟩,
    ⟨12, ⟨some 70, none, .op (.nn (.tmp 58))⟩, none, []⟩,
    ⟨13, ⟨some 71, none, .op (.fa 12 (.tmp 70))⟩, none, []⟩,
    ⟨14, ⟨none, none, .op (.st 1 (.tmp 71) (.tmp 69))⟩, none, []⟩]
def c124_14 : C := .reg [⟨some 72, none, .op (.mv (.tmp 0))⟩,
    ⟨some 73, none, .op (.mv (.tmp 7))⟩,
    ⟨some 74, none, .call 68 [.tmp 72, .tmp 73]⟩,
    ⟨some 75, none, .op (.bin .eql (.tmp 74) (.const (.int .i8 0)))⟩]
def c124_15 : C := .reg [⟨some 76, none, .op (.mv (.tmp 0))⟩,
    ⟨some 77, none, .op (.mv (.tmp 7))⟩,
    ⟨some 78, none, .call 71 [.tmp 76, .tmp 77, .const (.int .i64 (-1))]⟩]
def c124_16 : C := .reg [⟨some 4, none, .op (.mv (.const (.int .u8 0)))⟩,
    ⟨some 5, none, .op (.mv (.const (.bool false)))⟩]
def c124_17 : C := .reg [⟨some 80, none, .op (.mv (.tmp 0))⟩,
    ⟨some 81, none, .op (.nn (.tmp 80))⟩,
    ⟨some 82, none, .op (.fa 14 (.tmp 81))⟩,
    ⟨some 83, none, .op (.ld none (.tmp 82))⟩,
    ⟨some 84, none, .call 166 [.tmp 83]⟩,
    ⟨some 79, none, .op (.mv (.tmp 84))⟩,
    ⟨some 85, none, .op (.ext (.tmp 79) 0)⟩,
    ⟨some 86, none, .op (.ext (.tmp 79) 1)⟩,
    ⟨some 11, none, .op (.mv (.tmp 85))⟩,
    ⟨some 12, none, .op (.mv (.tmp 86))⟩]
def c124_18 : C := .reg [⟨some 87, none, .op (.mv (.tmp 12))⟩,
    ⟨some 88, none, .op (.un .not (.tmp 87))⟩]
def c124_19 : C := .reg [⟨some 89, none, .op (.mv (.tmp 0))⟩,
    ⟨some 90, none, .op (.mv (.tmp 0))⟩,
    ⟨some 91, none, .op (.nn (.tmp 90))⟩,
    ⟨some 92, none, .op (.fa 0 (.tmp 91))⟩,
    ⟨some 93, none, .op (.ld none (.tmp 92))⟩,
    ⟨some 94, none, .op (.bin .add (.tmp 93) (.const (.int .i64 1)))⟩,
    ⟨some 95, none, .op (.mkS [(.bool false)] 1 (.tmp 94) (.tmp 94))⟩,
    ⟨some 96, none, .op (.nn (.tmp 89))⟩,
    ⟨some 97, none, .op (.fa 15 (.tmp 96))⟩,
    ⟨none, none, .op (.st 1 (.tmp 97) (.tmp 95))⟩]
def c124_20 : C := .reg [⟨some 98, none, .op (.mv (.tmp 0))⟩,
    ⟨some 99, none, .op (.nn (.tmp 98))⟩,
    ⟨some 100, none, .op (.fa 15 (.tmp 99))⟩,
    ⟨some 101, none, .op (.ld none (.tmp 100))⟩,
    ⟨some 102, none, .op (.len (.tmp 101))⟩,
    ⟨some 103, none, .op (.mv (.const (.int .i64 0)))⟩]
def c124_21 : C := .reg [⟨some 104, none, .op (.bin .lss (.tmp 103) (.tmp 102))⟩]
def c124_22 : C := .reg [⟨some 105, none, .op (.mv (.tmp 103))⟩,
    ⟨some 13, none, .op (.mv (.tmp 105))⟩]
def c124_23 : C := .regD 0 [⟨0, ⟨some 106, none, .op (.mv (.tmp 0))⟩, none, []⟩,
    ⟨1, ⟨some 107, none, .op (.nn (.tmp 106))⟩, none, []⟩,
    ⟨2, ⟨some 108, none, .op (.fa 15 (.tmp 107))⟩, none, []⟩,
    ⟨3, ⟨some 109, none, .op (.ld none (.tmp 108))⟩, none, []⟩,
    ⟨4, ⟨some 110, none, .op (.mv (.tmp 13))⟩, none, []⟩,
    ⟨5, ⟨some 111, none, .op (.mv (.tmp 0))⟩, none, []⟩,
    ⟨6, ⟨some 112, none, .op (.nn (.tmp 111))⟩, none, []⟩,
    ⟨7, ⟨some 113, none, .op (.fa 6 (.tmp 112))⟩, none, []⟩,
    ⟨8, ⟨some 114, none, .op (.ld none (.tmp 113))⟩, none, []⟩,
    ⟨9, ⟨some 115, none, .op (.mv (.tmp 13))⟩, none, []⟩,
    ⟨10, ⟨some 116, none, .op (.ia 1 (.tmp 114) (.tmp 115))⟩, none, []⟩,
    ⟨11, ⟨some 117, none, .op (.ld none (.tmp 116))⟩, none, []⟩,
    ⟨12, ⟨some 118, none, .op (.bin .gtr (.tmp 117) (.const (.int .i8 0)))⟩, none, []⟩,
    ⟨13, ⟨some 119, none, .op (.ia 1 (.tmp 109) (.tmp 110))⟩, none, []⟩,
    ⟨14, ⟨none, none, .op (.st 1 (.tmp 119) (.tmp 118))⟩, none, []⟩]
def c124_24 : C := .reg [⟨some 120, none, .op (.bin .add (.tmp 103) (.const (.int .i64 1)))⟩,
    ⟨some 103, none, .op (.mv (.tmp 120))⟩]
def c124_25 : C := .reg [⟨some 4, none, .op (.mv (.const (.int .u8 1)))⟩,
    ⟨some 5, none, .op (.mv (.const (.bool true)))⟩]
def c124_26 : C := .reg [⟨some 121, none, .op (.mv (.tmp 0))⟩,
    ⟨some 122, none, .op (.nn (.tmp 121))⟩,
    ⟨some 123, none, .op (.fa 6 (.tmp 122))⟩,
    ⟨some 124, none, .op (.ld none (.tmp 123))⟩,
    ⟨some 125, none, .op (.mv (.tmp 11))⟩,
    ⟨some 126, none, .op (.ia 1 (.tmp 124) (.tmp 125))⟩,
    ⟨some 127, none, .op (.ld none (.tmp 126))⟩,
    ⟨some 128, none, .op (.bin .neq (.tmp 127) (.const (.int .i8 0)))⟩]
def c124_27 : C := .regD 1 [⟨0, ⟨some 129, none, .op (.mv (.tmp 0))⟩, none, []⟩,
    ⟨1, ⟨some 130, none, .op (.mv (.tmp 0))⟩, none, []⟩,
    ⟨2, ⟨some 131, none, .op (.nn (.tmp 130))⟩, none, []⟩,
    ⟨3, ⟨some 132, none, .op (.fa 12 (.tmp 131))⟩, none, []⟩,
    ⟨4, ⟨some 133, none, .op (.ld none (.tmp 132))⟩, none, []⟩,
    ⟨5, ⟨some 134, none, .op (.mv (.tmp 0))⟩, none, []⟩,
    ⟨6, ⟨some 135, none, .op (.nn (.tmp 134))⟩, none, []⟩,
    ⟨7, ⟨some 136, none, .op (.fa 11 (.tmp 135))⟩, none, []⟩,
    ⟨8, ⟨some 137, none, .op (.ld none (.tmp 136))⟩, none, []⟩,
    ⟨9, ⟨some 138, none, .op (.len (.tmp 137))⟩, none, []⟩,
    ⟨10, ⟨some 139, none, .op (.mkSl (reps 1 [(.int .i64 0)]) 1 [(0, 1, .tmp 138)])⟩, some 0, []⟩,
    ⟨11, ⟨some 140, none, .op (.app 1 8 (.tmp 133) (.tmp 139))⟩, none, []⟩,
    ⟨12, ⟨some 141, none, .op (.nn (.tmp 129))⟩, none, []⟩,
    ⟨13, ⟨some 142, none, .op (.fa 12 (.tmp 141))⟩, none, []⟩,
    ⟨14, ⟨none, none, .op (.st 1 (.tmp 142) (.tmp 140))⟩, none, []⟩]
def c124_28 : C := .reg [⟨some 143, none, .op (.mv (.tmp 11))⟩,
    ⟨some 144, none, .op (.un .neg (.tmp 143))⟩,
    ⟨some 14, none, .op (.mv (.tmp 144))⟩]
def c124_29 : C := .reg [⟨some 145, none, .op (.mv (.tmp 0))⟩,
    ⟨some 146, none, .op (.nn (.tmp 145))⟩,
    ⟨some 147, none, .op (.fa 9 (.tmp 146))⟩,
    ⟨some 148, none, .op (.ld none (.tmp 147))⟩,
    ⟨some 149, none, .op (.mv (.tmp 11))⟩,
    ⟨some 150, none, .op (.ia 1 (.tmp 148) (.tmp 149))⟩,
    ⟨some 151, none, .op (.ld none (.tmp 150))⟩]
def c124_30 : C := .reg [⟨some 152, none, .op (.mv (.tmp 11))⟩,
    ⟨some 14, none, .op (.mv (.tmp 152))⟩]
def c124_31 : C := .reg [⟨some 153, none, .op (.mv (.tmp 0))⟩,
    ⟨some 154, none, .op (.mv (.tmp 14))⟩,
    ⟨some 155, none, .call 71 [.tmp 153, .tmp 154, .const (.int .i64 (-1))]⟩]
def c124_32 : C := .reg [⟨some 4, none, .op (.mv (.const (.int .u8 0)))⟩,
    ⟨some 5, none, .op (.mv (.const (.bool false)))⟩]
def c124 : Fn' := ⟨(.seq c124_0 (.seq c124_1 (.seq (.seq c124_2 (.cond (.tmp 23) (.seq c124_3 (.seq (.seq c124_4 (.cond (.tmp 31) (.seq c124_5 (.seq (.seq c124_6 (.block 0 (.loop (.seq c124_7 (.seq (.cond (.tmp 38) .skip (.exit 0)) (.seq (.block 1 (.seq c124_8 (.seq c124_9 (.cond (.tmp 44) c124_10 .skip)))) c124_11)))))) (.seq c124_12 .ret))) .skip)) (.seq c124_13 (.seq (.seq c124_14 (.cond (.tmp 75) c124_15 .skip)) (.seq c124_16 .ret))))) .skip)) (.block 2 (.loop (.block 3 (.seq c124_17 (.seq (.seq c124_18 (.cond (.tmp 88) (.seq c124_19 (.seq (.seq c124_20 (.block 4 (.loop (.seq c124_21 (.seq (.cond (.tmp 104) .skip (.exit 4)) (.seq (.block 5 (.seq c124_22 c124_23)) c124_24)))))) (.seq c124_25 .ret))) .skip)) (.seq (.seq c124_26 (.cond (.tmp 128) (.exit 3) .skip)) (.seq c124_27 (.seq c124_28 (.seq (.seq c124_29 (.cond (.tmp 151) c124_30 .skip)) (.seq c124_31 (.seq c124_32 .ret)))))))))))))), [.tmp 4, .tmp 5]⟩
theorem comp124 : compFn Tryz.prog 124 = some c124 := by kernel_rfl

def c125_0 : C := .reg [⟨some 6, none, .op (.mv (.tmp 0))⟩,
    ⟨some 7, none, .op (.nn (.tmp 6))⟩,
    ⟨some 8, none, .op (.fa 14 (.tmp 7))⟩,
    ⟨some 9, none, .op (.ld none (.tmp 8))⟩,
    ⟨some 10, none, .call 167 [.tmp 9]⟩]
def c125_1 : C := .reg [⟨some 11, none, .op (.mv (.tmp 1))⟩,
    ⟨some 12, none, .op (.len (.tmp 11))⟩,
    ⟨some 13, none, .op (.bin .eql (.tmp 12) (.const (.int .i64 1)))⟩]
def c125_2 : C := .reg [⟨some 14, none, .op (.mv (.tmp 0))⟩,
    ⟨some 15, none, .call 116 [.tmp 14, .const (.int .i64 0)]⟩]
def c125_3 : C := .reg [⟨some 16, none, .op (.mv (.tmp 0))⟩,
    ⟨some 17, none, .op (.mv (.tmp 1))⟩,
    ⟨some 18, none, .op (.ia 1 (.tmp 17) (.const (.int .i64 0)))⟩,
    ⟨some 19, none, .op (.ld none (.tmp 18))⟩,
    ⟨some 20, none, .call 71 [.tmp 16, .tmp 19, .const (.int .i64 (-1))]⟩]
def c125_4 : C := .reg [⟨some 4, none, .op (.mv (.const (.int .i64 1)))⟩]
def c125_5 : C := .reg [⟨some 5, none, .op (.mv (.const (.int .i64 2)))⟩]
def c125_6 : C := .reg [⟨some 21, none, .op (.mv (.tmp 5))⟩,
    ⟨some 22, none, .op (.mv (.tmp 1))⟩,
    ⟨some 23, none, .op (.len (.tmp 22))⟩,
    ⟨some 24, none, .op (.bin .lss (.tmp 21) (.tmp 23))⟩]
def c125_7 : C := .regD 0 [⟨0, ⟨some 27, none, .op (.mv (.tmp 0))⟩, none, []⟩,
    ⟨1, ⟨some 28, none, .op (.nn (.tmp 27))⟩, none, []⟩,
    ⟨2, ⟨some 29, none, .op (.fa 7 (.tmp 28))⟩, none, []⟩,
    ⟨3, ⟨some 30, none, .op (.ld none (.tmp 29))⟩, none, []⟩,
    ⟨4, ⟨some 31, none, .op (.mv (.tmp 1))⟩, none, []⟩,
    ⟨5, ⟨some 32, none, .op (.mv (.tmp 5))⟩, none, []⟩,
    ⟨6, ⟨some 33, none, .op (.ia 1 (.tmp 31) (.tmp 32))⟩, none, []⟩,
    ⟨7, ⟨some 34, none, .op (.ld none (.tmp 33))⟩, none, []⟩,
    ⟨11, ⟨some 38, none, .op (.mv (.tmp 0))⟩, none, []⟩,
    ⟨12, ⟨some 39, none, .op (.nn (.tmp 38))⟩, none, []⟩,
    ⟨13, ⟨some 40, none, .op (.fa 7 (.tmp 39))⟩, none, []⟩,
    ⟨14, ⟨some 41, none, .op (.ld none (.tmp 40))⟩, none, []⟩,
    ⟨15, ⟨some 42, none, .op (.mv (.tmp 1))⟩, none, []⟩,
    ⟨16, ⟨some 43, none, .op (.mv (.tmp 4))⟩, none, []⟩,
    ⟨17, ⟨some 44, none, .op (.ia 1 (.tmp 42) (.tmp 43))⟩, none, []⟩,
    ⟨18, ⟨some 45, none, .op (.ld none (.tmp 44))⟩, none, []⟩,
    ⟨8, ⟨some 35, none, .call 118 [.tmp 34]⟩, none, [(none, .tmp 44, 45, none), (none, .tmp 40, 41, none), (none, .tmp 29, 30, none)]⟩,
    ⟨9, ⟨some 36, none, .op (.ia 1 (.tmp 30) (.tmp 35))⟩, none, []⟩,
    ⟨10, ⟨some 37, none, .op (.ld none (.tmp 36))⟩, none, []⟩,
    ⟨19, ⟨some 46, none, .call 118 [.tmp 45]⟩, none, [(none, .tmp 36, 37, none), (none, .tmp 40, 41, none), (none, .tmp 29, 30, none)]⟩,
    ⟨20, ⟨some 47, none, .op (.ia 1 (.tmp 41) (.tmp 46))⟩, none, []⟩,
    ⟨21, ⟨some 48, none, .op (.ld none (.tmp 47))⟩, none, []⟩,
    ⟨22, ⟨some 49, none, .op (.bin .gtr (.tmp 37) (.tmp 48))⟩, none, []⟩]
def c125_8 : C := .reg [⟨some 50, none, .op (.mv (.tmp 5))⟩,
    ⟨some 4, none, .op (.mv (.tmp 50))⟩]
def c125_9 : C := .reg [⟨some 25, none, .op (.mv (.tmp 5))⟩,
    ⟨some 26, none, .op (.bin .add (.tmp 25) (.const (.int .i64 1)))⟩,
    ⟨some 5, none, .op (.mv (.tmp 26))⟩]
def c125_10 : C := .regD 0 [⟨0, ⟨some 51, none, .op (.mv (.tmp 1))⟩, none, []⟩,
    ⟨1, ⟨some 52, none, .op (.mv (.tmp 1))⟩, none, []⟩,
    ⟨2, ⟨some 53, none, .op (.mv (.tmp 4))⟩, none, []⟩,
    ⟨3, ⟨some 54, none, .op (.mv (.tmp 1))⟩, none, []⟩,
    ⟨4, ⟨some 55, none, .op (.mv (.tmp 4))⟩, none, []⟩,
    ⟨5, ⟨some 56, none, .op (.ia 1 (.tmp 54) (.tmp 55))⟩, none, []⟩,
    ⟨6, ⟨some 57, none, .op (.ld none (.tmp 56))⟩, none, []⟩,
    ⟨7, ⟨some 58, none, .op (.mv (.tmp 1))⟩, none, []⟩,
    ⟨8, ⟨some 59, none, .op (.ia 1 (.tmp 58) (.const (.int .i64 1)))⟩, none, []⟩,
    ⟨9, ⟨some 60, none, .op (.ld none (.tmp 59))⟩, none, []⟩,
    ⟨10, ⟨some 61, none, .op (.ia 1 (.tmp 51) (.const (.int .i64 1)))⟩, none, []⟩,
    ⟨11, ⟨none, none, .op (.st 1 (.tmp 61) (.tmp 57))⟩, none, []⟩,
    ⟨12, ⟨some 62, none, .op (.ia 1 (.tmp 52) (.tmp 53))⟩, none, []⟩,
    ⟨13, ⟨none, none, .op (.st 1 (.tmp 62) (.tmp 60))⟩, none, []⟩]
def c125_11 : C := .regD 0 [⟨0, ⟨some 63, none, .op (.mv (.tmp 0))⟩, none, []⟩,
    ⟨1, ⟨some 64, none, .op (.mv (.tmp 0))⟩, none, []⟩,
    ⟨2, ⟨some 65, none, .op (.nn (.tmp 64))⟩, none, []⟩,
    ⟨3, ⟨some 66, none, .op (.fa 7 (.tmp 65))⟩, none, []⟩,
    ⟨4, ⟨some 67, none, .op (.ld none (.tmp 66))⟩, none, []⟩,
    ⟨5, ⟨some 68, none, .op (.mv (.tmp 1))⟩, none, []⟩,
    ⟨6, ⟨some 69, none, .op (.ia 1 (.tmp 68) (.const (.int .i64 1)))⟩, none, []⟩,
    ⟨7, ⟨some 70, none, .op (.ld none (.tmp 69))⟩, none, []⟩,
    ⟨8, ⟨some 71, none, .call 118 [.tmp 70]⟩, none, [(none, .tmp 66, 67, none)]⟩,
    ⟨9, ⟨some 72, none, .op (.ia 1 (.tmp 67) (.tmp 71))⟩, none, []⟩,
    ⟨10, ⟨some 73, none, .op (.ld none (.tmp 72))⟩, none, []⟩,
    ⟨11, ⟨some 74, none, .call 116 [.tmp 63, .tmp 73]⟩, none, []⟩]
def c125_12 : C := .regD 0 [⟨0, ⟨some 75, none, .op (.mv (.tmp 0))⟩, none, []⟩,
    ⟨1, ⟨some 76, none, .op (.mv (.tmp 1))⟩, none, []⟩,
    ⟨2, ⟨some 77, none, .op (.ia 1 (.tmp 76) (.const (.int .i64 0)))⟩, none, []⟩,
    ⟨3, ⟨some 78, none, .op (.ld none (.tmp 77))⟩, none, []⟩,
    ⟨4, ⟨some 79, none, .op (.mv (.tmp 0))⟩, none, []⟩,
    ⟨5, ⟨some 80, none, .op (.mv (.tmp 1))⟩, none, []⟩,
    ⟨6, ⟨some 81, none, .call 72 [.tmp 79, .tmp 80, .const (.bool true)]⟩, none, [(none, .tmp 77, 78, none)]⟩,
    ⟨7, ⟨some 82, none, .call 71 [.tmp 75, .tmp 78, .tmp 81]⟩, none, []⟩]
def c125 : Fn' := ⟨(.seq c125_0 (.seq (.seq c125_1 (.cond (.tmp 13) (.seq c125_2 (.seq c125_3 .ret)) .skip)) (.seq c125_4 (.seq (.seq c125_5 (.block 0 (.loop (.seq (.seq c125_6 (.cond (.tmp 24) .skip (.exit 0))) (.seq (.block 1 (.seq c125_7 (.cond (.tmp 49) c125_8 .skip))) c125_9))))) (.seq c125_10 (.seq c125_11 c125_12)))))), []⟩
theorem comp125 : compFn Tryz.prog 125 = some c125 := by kernel_rfl

def c126_0 : C := .reg [⟨some 4, none, .op (.mv (.const (.slice none 0 0)))⟩]
def c126_1 : C := .regD 1 [⟨1, ⟨some 15, none, .op (.mv (.tmp 0))⟩, none, []⟩,
    ⟨2, ⟨some 16, none, .op (.nn (.tmp 15))⟩, none, []⟩,
    ⟨3, ⟨some 17, none, .op (.fa 11 (.tmp 16))⟩, none, []⟩,
    ⟨4, ⟨some 18, none, .op (.ld none (.tmp 17))⟩, none, []⟩,
    ⟨5, ⟨some 19, none, .op (.len (.tmp 18))⟩, none, []⟩,
    ⟨6, ⟨some 20, none, .op (.bin .sub (.tmp 19) (.const (.int .i64 1)))⟩, none, []⟩,
    ⟨0, ⟨some 14, none, .op (.mkSl (reps 1 [(.int .i64 0)]) 1 [(0, 1, .const (.int .i64 0))])⟩, some 0, []⟩,
    ⟨7, ⟨some 5, none, .op (.mv (.tmp 14))⟩, none, []⟩,
    ⟨8, ⟨some 6, none, .op (.mv (.const (.int .i64 0)))⟩, none, []⟩,
    ⟨9, ⟨some 7, none, .op (.mv (.const (.int .i64 0)))⟩, none, []⟩,
    ⟨10, ⟨some 8, none, .op (.mv (.tmp 20))⟩, none, []⟩]
def c126_2 : C := .reg [⟨some 21, none, .op (.mv (.tmp 0))⟩,
    ⟨some 22, none, .op (.nn (.tmp 21))⟩,
    ⟨some 23, none, .op (.fa 3 (.tmp 22))⟩,
    ⟨some 24, none, .op (.ld none (.tmp 23))⟩,
    ⟨some 25, none, .op (.mv (.tmp 1))⟩,
    ⟨some 26, none, .op (.ia 1 (.tmp 24) (.tmp 25))⟩,
    ⟨some 27, none, .op (.ld none (.tmp 26))⟩,
    ⟨some 28, none, .op (.len (.tmp 27))⟩,
    ⟨some 29, none, .op (.mv (.const (.int .i64 0)))⟩]
def c126_3 : C := .reg [⟨some 30, none, .op (.bin .lss (.tmp 29) (.tmp 28))⟩]
def c126_4 : C := .reg [⟨some 31, none, .op (.ia 1 (.tmp 27) (.tmp 29))⟩,
    ⟨some 32, none, .op (.ld none (.tmp 31))⟩,
    ⟨some 10, none, .op (.mv (.tmp 32))⟩]
def c126_5 : C := .reg [⟨some 33, none, .op (.mv (.tmp 10))⟩,
    ⟨some 34, none, .call 118 [.tmp 33]⟩,
    ⟨some 11, none, .op (.mv (.tmp 34))⟩]
def c126_6 : C := .reg [⟨some 35, none, .op (.mv (.tmp 10))⟩,
    ⟨some 36, none, .op (.mv (.tmp 7))⟩,
    ⟨some 37, none, .op (.bin .eql (.tmp 35) (.tmp 36))⟩,
    ⟨some 38, none, .op (.mv (.tmp 37))⟩,
    ⟨some 39, (some (38, false)), .op (.mv (.tmp 0))⟩,
    ⟨some 40, (some (38, false)), .op (.nn (.tmp 39))⟩,
    ⟨some 41, (some (38, false)), .op (.fa 10 (.tmp 40))⟩,
    ⟨some 42, (some (38, false)), .op (.ld none (.tmp 41))⟩,
    ⟨some 43, (some (38, false)), .op (.mv (.tmp 11))⟩,
    ⟨some 44, (some (38, false)), .op (.ia 1 (.tmp 42) (.tmp 43))⟩,
    ⟨some 45, (some (38, false)), .op (.ld none (.tmp 44))⟩,
    ⟨some 46, none, .op (.pick (.tmp 38) (.const (.bool true)) (.tmp 45))⟩,
    ⟨some 47, none, .op (.mv (.tmp 46))⟩,
    ⟨some 48, (some (47, false)), .op (.mv (.tmp 0))⟩,
    ⟨some 49, (some (47, false)), .op (.nn (.tmp 48))⟩,
    ⟨some 50, (some (47, false)), .op (.fa 7 (.tmp 49))⟩,
    ⟨some 51, (some (47, false)), .op (.ld none (.tmp 50))⟩,
    ⟨some 52, (some (47, false)), .op (.mv (.tmp 11))⟩,
    ⟨some 53, (some (47, false)), .op (.ia 1 (.tmp 51) (.tmp 52))⟩,
    ⟨some 54, (some (47, false)), .op (.ld none (.tmp 53))⟩,
    ⟨some 55, (some (47, false)), .op (.bin .eql (.tmp 54) (.const (.int .i64 0)))⟩,
    ⟨some 56, none, .op (.pick (.tmp 47) (.const (.bool true)) (.tmp 55))⟩]
def c126_7 : C := .reg [⟨some 57, none, .op (.mv (.tmp 0))⟩,
    ⟨some 58, none, .op (.nn (.tmp 57))⟩,
    ⟨some 59, none, .op (.fa 14 (.tmp 58))⟩,
    ⟨some 60, none, .op (.ld none (.tmp 59))⟩,
    ⟨some 61, none, .op (.mv (.tmp 11))⟩,
    ⟨some 62, none, .call 168 [.tmp 60, .tmp 61]⟩]
def c126_8 : C := .reg [⟨some 63, none, .op (.mv (.tmp 0))⟩,
    ⟨some 64, none, .op (.nn (.tmp 63))⟩,
    ⟨some 65, none, .op (.fa 10 (.tmp 64))⟩,
    ⟨some 66, none, .op (.ld none (.tmp 65))⟩,
    ⟨some 67, none, .op (.mv (.tmp 11))⟩,
    ⟨some 68, none, .op (.ia 1 (.tmp 66) (.tmp 67))⟩,
    ⟨none, none, .op (.st 1 (.tmp 68) (.const (.bool true)))⟩]
def c126_9 : C := .regD 0 [⟨0, ⟨some 69, none, .op (.mv (.tmp 0))⟩, none, []⟩,
    ⟨1, ⟨some 70, none, .op (.nn (.tmp 69))⟩, none, []⟩,
    ⟨2, ⟨some 71, none, .op (.fa 7 (.tmp 70))⟩, none, []⟩,
    ⟨3, ⟨some 72, none, .op (.ld none (.tmp 71))⟩, none, []⟩,
    ⟨4, ⟨some 73, none, .op (.mv (.tmp 11))⟩, none, []⟩,
    ⟨5, ⟨some 74, none, .op (.ia 1 (.tmp 72) (.tmp 73))⟩, none, []⟩,
    ⟨6, ⟨some 75, none, .op (.ld none (.tmp 74))⟩, none, []⟩,
    ⟨7, ⟨some 76, none, .op (.mv (.tmp 0))⟩, none, []⟩,
    ⟨8, ⟨some 77, none, .op (.nn (.tmp 76))⟩, none, []⟩,
    ⟨9, ⟨some 78, none, .op (.fa 12 (.tmp 77))⟩, none, []⟩,
    ⟨10, ⟨some 79, none, .op (.ld none (.tmp 78))⟩, none, []⟩,
    ⟨11, ⟨some 80, none, .op (.len (.tmp 79))⟩, none, []⟩,
    ⟨12, ⟨some 81, none, .op (.bin .eql (.tmp 75) (.tmp 80))⟩, none, []⟩]
def c126_10 : C := .reg [⟨some 82, none, .op (.mv (.tmp 6))⟩,
    ⟨some 83, none, .op (.bin .add (.tmp 82) (.const (.int .i64 1)))⟩,
    ⟨some 6, none, .op (.mv (.tmp 83))⟩]
def c126_11 : C := .reg [⟨some 84, none, .op (.mv (.tmp 5))⟩,
    ⟨some 85, none, .op (.mv (.tmp 10))⟩,
    ⟨some 86, none, .op (.mkSl (reps 1 [(.int .i64 0)]) 1 [(0, 1, .tmp 85)])⟩,
    ⟨some 87, none, .op (.app 1 8 (.tmp 84) (.tmp 86))⟩,
    ⟨some 5, none, .op (.mv (.tmp 87))⟩]
def c126_12 : C := .reg [⟨some 88, none, .op (.bin .add (.tmp 29) (.const (.int .i64 1)))⟩,
    ⟨some 29, none, .op (.mv (.tmp 88))⟩]
def c126_13 : C := .regD 0 [⟨0, ⟨some 89, none, .op (.mv (.tmp 0))⟩, none, []⟩,
    ⟨1, ⟨some 90, none, .op (.nn (.tmp 89))⟩, none, []⟩,
    ⟨2, ⟨some 91, none, .op (.fa 10 (.tmp 90))⟩, none, []⟩,
    ⟨3, ⟨some 92, none, .op (.ld none (.tmp 91))⟩, none, []⟩,
    ⟨4, ⟨some 93, none, .op (.mv (.tmp 0))⟩, none, []⟩,
    ⟨5, ⟨some 94, none, .op (.nn (.tmp 93))⟩, none, []⟩,
    ⟨6, ⟨some 95, none, .op (.fa 11 (.tmp 94))⟩, none, []⟩,
    ⟨7, ⟨some 96, none, .op (.ld none (.tmp 95))⟩, none, []⟩,
    ⟨8, ⟨some 97, none, .op (.mv (.tmp 8))⟩, none, []⟩,
    ⟨9, ⟨some 98, none, .op (.ia 1 (.tmp 96) (.tmp 97))⟩, none, []⟩,
    ⟨10, ⟨some 99, none, .op (.ld none (.tmp 98))⟩, none, []⟩,
    ⟨11, ⟨some 100, none, .call 118 [.tmp 99]⟩, none, [(none, .tmp 91, 92, none)]⟩,
    ⟨12, ⟨some 101, none, .op (.ia 1 (.tmp 92) (.tmp 100))⟩, none, []⟩,
    ⟨13, ⟨some 102, none, .op (.ld none (.tmp 101))⟩, none, []⟩,
    ⟨14, ⟨some 103, none, .op (.un .not (.tmp 102))⟩, none, []⟩]
def c126_14 : C := .reg [⟨some 104, none, .op (.mv (.tmp 8))⟩,
    ⟨some 105, none, .op (.bin .sub (.tmp 104) (.const (.int .i64 1)))⟩,
    ⟨some 8, none, .op (.mv (.tmp 105))⟩]
def c126_15 : C := .reg [⟨some 106, none, .op (.mv (.tmp 0))⟩,
    ⟨some 107, none, .op (.nn (.tmp 106))⟩,
    ⟨some 108, none, .op (.fa 11 (.tmp 107))⟩,
    ⟨some 109, none, .op (.ld none (.tmp 108))⟩,
    ⟨some 110, none, .op (.mv (.tmp 8))⟩,
    ⟨some 111, none, .op (.ia 1 (.tmp 109) (.tmp 110))⟩,
    ⟨some 112, none, .op (.ld none (.tmp 111))⟩,
    ⟨some 7, none, .op (.mv (.tmp 112))⟩]
def c126_16 : C := .regD 0 [⟨0, ⟨some 113, none, .op (.mv (.tmp 0))⟩, none, []⟩,
    ⟨1, ⟨some 114, none, .op (.nn (.tmp 113))⟩, none, []⟩,
    ⟨2, ⟨some 115, none, .op (.fa 10 (.tmp 114))⟩, none, []⟩,
    ⟨3, ⟨some 116, none, .op (.ld none (.tmp 115))⟩, none, []⟩,
    ⟨4, ⟨some 117, none, .op (.mv (.tmp 7))⟩, none, []⟩,
    ⟨5, ⟨some 118, none, .call 118 [.tmp 117]⟩, none, [(none, .tmp 115, 116, none)]⟩,
    ⟨6, ⟨some 119, none, .op (.ia 1 (.tmp 116) (.tmp 118))⟩, none, []⟩,
    ⟨7, ⟨none, none, .op (.st 1 (.tmp 119) (.const (.bool false)))⟩, none, []⟩]
def c126_17 : C := .reg [⟨some 120, none, .op (.mv (.tmp 6))⟩,
    ⟨some 121, none, .op (.bin .sub (.tmp 120) (.const (.int .i64 1)))⟩,
    ⟨some 6, none, .op (.mv (.tmp 121))⟩]
def c126_18 : C := .reg [⟨some 122, none, .op (.mv (.tmp 6))⟩,
    ⟨some 123, none, .op (.bin .eql (.tmp 122) (.const (.int .i64 0)))⟩]
def c126_19 : C := .regD 0 [⟨0, ⟨some 124, none, .op (.mv (.tmp 0))⟩, none, []⟩,
    ⟨1, ⟨some 125, none, .op (.nn (.tmp 124))⟩, none, []⟩,
    ⟨2, ⟨some 126, none, .op (.fa 8 (.tmp 125))⟩, none, []⟩,
    ⟨3, ⟨some 127, none, .op (.ld none (.tmp 126))⟩, none, []⟩,
    ⟨4, ⟨some 128, none, .op (.mv (.tmp 7))⟩, none, []⟩,
    ⟨5, ⟨some 129, none, .call 118 [.tmp 128]⟩, none, [(none, .tmp 126, 127, none)]⟩,
    ⟨6, ⟨some 130, none, .op (.ia 1 (.tmp 127) (.tmp 129))⟩, none, []⟩,
    ⟨7, ⟨some 131, none, .op (.ld none (.tmp 130))⟩, none, []⟩,
    ⟨8, ⟨some 1, none, .op (.mv (.tmp 131))⟩, none, []⟩]
def c126_20 : C := .reg [⟨some 132, none, .op (.mv (.tmp 5))⟩,
    ⟨some 133, none, .op (.mv (.tmp 7))⟩,
    ⟨some 134, none, .op (.un .neg (.tmp 133))⟩,
    ⟨some 135, none, .op (.ia 1 (.tmp 132) (.const (.int .i64 0)))⟩,
    ⟨none, none, .op (.st 1 (.tmp 135) (.tmp 134))⟩]
def c126_21 : C := .reg [⟨some 136, none, .op (.mv (.tmp 5))⟩,
    ⟨some 137, none, .op (.slc 1 (.tmp 136) (some (.const (.int .i64 1))) none none)⟩,
    ⟨some 138, none, .op (.len (.tmp 137))⟩,
    ⟨some 139, none, .op (.mv (.const (.int .i64 0)))⟩]
def c126_22 : C := .reg [⟨some 140, none, .op (.bin .lss (.tmp 139) (.tmp 138))⟩]
def c126_23 : C := .reg [⟨some 141, none, .op (.ia 1 (.tmp 137) (.tmp 139))⟩,
    ⟨some 142, none, .op (.ld none (.tmp 141))⟩,
    ⟨some 13, none, .op (.mv (.tmp 142))⟩]
def c126_24 : C := .regD 0 [⟨0, ⟨some 143, none, .op (.mv (.tmp 0))⟩, none, []⟩,
    ⟨1, ⟨some 144, none, .op (.nn (.tmp 143))⟩, none, []⟩,
    ⟨2, ⟨some 145, none, .op (.fa 10 (.tmp 144))⟩, none, []⟩,
    ⟨3, ⟨some 146, none, .op (.ld none (.tmp 145))⟩, none, []⟩,
    ⟨4, ⟨some 147, none, .op (.mv (.tmp 13))⟩, none, []⟩,
    ⟨5, ⟨some 148, none, .call 118 [.tmp 147]⟩, none, [(none, .tmp 145, 146, none)]⟩,
    ⟨6, ⟨some 149, none, .op (.ia 1 (.tmp 146) (.tmp 148))⟩, none, []⟩,
    ⟨7, ⟨none, none, .op (.st 1 (.tmp 149) (.const (.bool false)))⟩, none, []⟩]
def c126_25 : C := .reg [⟨some 150, none, .op (.bin .add (.tmp 139) (.const (.int .i64 1)))⟩,
    ⟨some 139, none, .op (.mv (.tmp 150))⟩]
def c126_26 : C := .reg [⟨some 151, none, .op (.mv (.tmp 5))⟩,
    ⟨some 4, none, .op (.mv (.tmp 151))⟩]
def c126 : Fn' := ⟨(.seq c126_0 (.seq c126_1 (.seq (.block 0 (.loop (.block 1 (.seq (.seq c126_2 (.block 2 (.loop (.seq c126_3 (.seq (.cond (.tmp 30) .skip (.exit 2)) (.seq (.block 3 (.seq c126_4 (.seq c126_5 (.seq (.seq c126_6 (.cond (.tmp 56) (.exit 3) .skip)) (.seq c126_7 (.seq c126_8 (.seq c126_9 (.cond (.tmp 81) c126_10 c126_11)))))))) c126_12)))))) (.seq (.block 4 (.loop (.seq (.seq c126_13 (.cond (.tmp 103) .skip (.exit 4))) (.block 5 c126_14)))) (.seq c126_15 (.seq c126_16 (.seq (.seq c126_17 (.seq c126_18 (.cond (.tmp 123) (.exit 0) .skip))) c126_19)))))))) (.seq c126_20 (.seq (.seq c126_21 (.block 6 (.loop (.seq c126_22 (.seq (.cond (.tmp 140) .skip (.exit 6)) (.seq (.block 7 (.seq c126_23 c126_24)) c126_25)))))) (.seq c126_26 .ret)))))), [.tmp 4]⟩
theorem comp126 : compFn Tryz.prog 126 = some c126 := by kernel_rfl

def c153_0 : C := .reg [⟨some 5, none, .op (.mv (.tmp 1))⟩,
    ⟨some 6, none, .op (.ta 3 (.tmp 5))⟩,
    ⟨some 4, none, .op (.mv (.tmp 6))⟩]
def c153_1 : C := .regD 0 [⟨0, ⟨some 7, none, .op (.mv (.tmp 0))⟩, none, []⟩,
    ⟨1, ⟨some 8, none, .op (.nn (.tmp 7))⟩, none, []⟩,
    ⟨2, ⟨some 9, none, .op (.fa 1 (.tmp 8))⟩, none, []⟩,
    ⟨3, ⟨some 10, none, .op (.ld none (.tmp 9))⟩, none, []⟩,
    ⟨4, ⟨some 11, none, .op (.mv (.tmp 4))⟩, none, []⟩,
    ⟨5, ⟨some 12, none, .op (.mv (.tmp 0))⟩, none, []⟩,
    ⟨6, ⟨some 13, none, .op (.nn (.tmp 12))⟩, none, []⟩,
    ⟨7, ⟨some 14, none, .op (.fa 0 (.tmp 13))⟩, none, []⟩,
    ⟨8, ⟨some 15, none, .op (.ld none (.tmp 14))⟩, none, []⟩,
    ⟨9, ⟨some 16, none, .op (.len (.tmp 15))⟩, none, []⟩,
    ⟨10, ⟨some 17, none, .op (.ia 1 (.tmp 10) (.tmp 11))⟩, none, []⟩,
    ⟨11, ⟨none, none, .op (.st 1 (.tmp 17) (.tmp 16))⟩, none, []⟩]
def c153_2 : C := .reg [⟨some 18, none, .op (.mv (.tmp 0))⟩,
    ⟨some 19, none, .op (.mv (.tmp 0))⟩,
    ⟨some 20, none, .op (.nn (.tmp 19))⟩,
    ⟨some 21, none, .op (.fa 0 (.tmp 20))⟩,
    ⟨some 22, none, .op (.ld none (.tmp 21))⟩,
    ⟨some 23, none, .op (.mv (.tmp 4))⟩,
    ⟨some 24, none, .op (.mkSl (reps 1 [(.int .i64 0)]) 1 [(0, 1, .tmp 23)])⟩,
    ⟨some 25, none, .op (.app 1 8 (.tmp 22) (.tmp 24))⟩,
    ⟨some 26, none, .op (.nn (.tmp 18))⟩,
    ⟨some 27, none, .op (.fa 0 (.tmp 26))⟩,
    ⟨none, none, .op (.st 1 (.tmp 27) (.tmp 25))⟩]
def c153 : Fn' := ⟨(.seq c153_0 (.seq c153_1 c153_2)), []⟩
theorem comp153 : compFn Tryz.prog 153 = some c153 := by kernel_rfl

def c154_0 : C := .reg [⟨some 3, none, .op (.mv (.const (.bool false)))⟩]
def c154_1 : C := .reg [⟨some 4, none, .op (.mv (.tmp 0))⟩,
    ⟨some 5, none, .op (.bin .eql (.tmp 4) (.const (.int .i64 0)))⟩,
    ⟨some 6, none, .op (.mv (.tmp 5))⟩,
    ⟨some 7, (some (6, false)), .op (.mv (.tmp 0))⟩,
    ⟨some 8, (some (6, false)), .op (.ld none (.tmp 1))⟩,
    ⟨some 9, (some (6, false)), .op (.un .neg (.tmp 8))⟩,
    ⟨some 10, (some (6, false)), .op (.bin .lss (.tmp 7) (.tmp 9))⟩,
    ⟨some 11, none, .op (.pick (.tmp 6) (.const (.bool true)) (.tmp 10))⟩,
    ⟨some 12, none, .op (.mv (.tmp 11))⟩,
    ⟨some 13, (some (12, false)), .op (.mv (.tmp 0))⟩,
    ⟨some 14, (some (12, false)), .op (.ld none (.tmp 1))⟩,
    ⟨some 15, (some (12, false)), .op (.bin .gtr (.tmp 13) (.tmp 14))⟩,
    ⟨some 16, none, .op (.pick (.tmp 12) (.const (.bool true)) (.tmp 15))⟩,
    ⟨some 3, none, .op (.mv (.tmp 16))⟩]
def c154 : Fn' := ⟨(.seq c154_0 (.seq c154_1 .ret)), [.tmp 3]⟩
theorem comp154 : compFn Tryz.prog 154 = some c154 := by kernel_rfl

def c155_0 : C := .reg [⟨some 5, none, .op (.mv (.tmp 0))⟩,
    ⟨some 6, none, .op (.len (.tmp 5))⟩,
    ⟨some 4, none, .op (.mv (.tmp 6))⟩]
def c155_1 : C := .reg [⟨some 7, none, .op (.mv (.tmp 0))⟩,
    ⟨some 8, none, .op (.mv (.tmp 4))⟩,
    ⟨some 9, none, .op (.mv (.tmp 4))⟩,
    ⟨some 10, none, .op (.conv .u64 (.tmp 9))⟩,
    ⟨some 11, none, .call 188 [.tmp 10]⟩,
    ⟨some 12, none, .op (.mv (.tmp 1))⟩,
    ⟨some 13, none, .call 187 [.tmp 7, .const (.int .i64 0), .tmp 8, .tmp 11, .tmp 12]⟩]
def c155 : Fn' := ⟨(.seq c155_0 c155_1), []⟩
theorem comp155 : compFn Tryz.prog 155 = some c155 := by kernel_rfl

def c156_0 : C := .reg [⟨some 4, none, .op (.mv (.const (.int .i64 0)))⟩]
def c156_1 : C := .reg [⟨some 5, none, .op (.mv (.tmp 0))⟩,
    ⟨some 6, none, .call 159 [.tmp 5]⟩,
    ⟨some 7, none, .op (.mv (.tmp 1))⟩,
    ⟨some 8, none, .call 159 [.tmp 7]⟩,
    ⟨some 9, none, .call 158 [.tmp 6, .tmp 8]⟩,
    ⟨some 10, none, .op (.mv (.tmp 0))⟩,
    ⟨some 11, none, .op (.mv (.tmp 1))⟩,
    ⟨some 12, none, .call 158 [.tmp 10, .tmp 11]⟩,
    ⟨some 13, none, .op (.mkSl (reps 2 [(.int .i64 0)]) 2 [(0, 1, .tmp 9), (1, 1, .tmp 12)])⟩,
    ⟨some 14, none, .call 157 [.tmp 13]⟩,
    ⟨some 4, none, .op (.mv (.tmp 14))⟩]
def c156 : Fn' := ⟨(.seq c156_0 (.seq c156_1 .ret)), [.tmp 4]⟩
theorem comp156 : compFn Tryz.prog 156 = some c156 := by kernel_rfl

def c157_0 : C := .reg [⟨some 2, none, .op (.mv (.const (.int .i64 0)))⟩]
def c157_1 : C := .reg [⟨some 3, none, .op (.mv (.const (.int .i64 0)))⟩]
def c157_2 : C := .reg [⟨some 6, none, .op (.mv (.tmp 0))⟩,
    ⟨some 7, none, .op (.len (.tmp 6))⟩,
    ⟨some 8, none, .op (.mv (.const (.int .i64 0)))⟩]
def c157_3 : C := .reg [⟨some 9, none, .op (.bin .lss (.tmp 8) (.tmp 7))⟩]
def c157_4 : C := .reg [⟨some 10, none, .op (.ia 1 (.tmp 6) (.tmp 8))⟩,
    ⟨some 11, none, .op (.ld none (.tmp 10))⟩,
    ⟨some 5, none, .op (.mv (.tmp 11))⟩]
def c157_5 : C := .reg [⟨some 12, none, .op (.mv (.tmp 5))⟩,
    ⟨some 13, none, .op (.mv (.tmp 3))⟩,
    ⟨some 14, none, .op (.bin .neq (.tmp 12) (.tmp 13))⟩]
def c157_6 : C := .reg [⟨some 15, none, .op (.mv (.tmp 5))⟩,
    ⟨some 2, none, .op (.mv (.tmp 15))⟩]
def c157_7 : C := .reg [⟨some 16, none, .op (.bin .add (.tmp 8) (.const (.int .i64 1)))⟩,
    ⟨some 8, none, .op (.mv (.tmp 16))⟩]
def c157_8 : C := .reg [⟨some 17, none, .op (.mv (.tmp 3))⟩,
    ⟨some 2, none, .op (.mv (.tmp 17))⟩]
def c157 : Fn' := ⟨(.seq c157_0 (.seq c157_1 (.seq (.seq c157_2 (.block 0 (.loop (.seq c157_3 (.seq (.cond (.tmp 9) .skip (.exit 0)) (.seq (.block 1 (.seq c157_4 (.seq c157_5 (.cond (.tmp 14) (.seq c157_6 .ret) .skip)))) c157_7)))))) (.seq c157_8 .ret)))), [.tmp 2]⟩
theorem comp157 : compFn Tryz.prog 157 = some c157 := by kernel_rfl

def c158_0 : C := .reg [⟨some 4, none, .op (.mv (.const (.int .i64 0)))⟩]
def c158_1 : C := .reg [⟨some 7, none, .op (.mv (.tmp 0))⟩,
    ⟨some 8, none, .call 189 [.tmp 7]⟩,
    ⟨some 5, none, .op (.mv (.tmp 8))⟩]
def c158_2 : C := .reg [⟨some 9, none, .op (.mv (.tmp 1))⟩,
    ⟨some 10, none, .call 189 [.tmp 9]⟩,
    ⟨some 6, none, .op (.mv (.tmp 10))⟩]
def c158_3 : C := .reg [⟨some 11, none, .op (.mv (.tmp 5))⟩]
def c158_4 : C := .reg [⟨some 12, none, .op (.mv (.tmp 6))⟩]
def c158_5 : C := .reg [⟨some 4, none, .op (.mv (.const (.int .i64 0)))⟩]
def c158_6 : C := .reg [⟨some 4, none, .op (.mv (.const (.int .i64 (-1))))⟩]
def c158_7 : C := .reg [⟨some 13, none, .op (.mv (.tmp 6))⟩]
def c158_8 : C := .reg [⟨some 4, none, .op (.mv (.const (.int .i64 1)))⟩]
def c158_9 : C := .reg [⟨some 14, none, .op (.mv (.tmp 0))⟩,
    ⟨some 15, none, .op (.mv (.tmp 1))⟩,
    ⟨some 16, none, .op (.bin .lss (.tmp 14) (.tmp 15))⟩]
def c158_10 : C := .reg [⟨some 4, none, .op (.mv (.const (.int .i64 (-1))))⟩]
def c158_11 : C := .reg [⟨some 17, none, .op (.mv (.tmp 0))⟩,
    ⟨some 18, none, .op (.mv (.tmp 1))⟩,
    ⟨some 19, none, .op (.bin .gtr (.tmp 17) (.tmp 18))⟩]
def c158_12 : C := .reg [⟨some 4, none, .op (.mv (.const (.int .i64 1)))⟩]
def c158_13 : C := .reg [⟨some 4, none, .op (.mv (.const (.int .i64 0)))⟩]
def c158 : Fn' := ⟨(.seq c158_0 (.seq c158_1 (.seq c158_2 (.seq (.seq c158_3 (.cond (.tmp 11) (.seq (.seq c158_4 (.cond (.tmp 12) (.seq c158_5 .ret) .skip)) (.seq c158_6 .ret)) .skip)) (.seq (.seq c158_7 (.cond (.tmp 13) (.seq c158_8 .ret) .skip)) (.seq (.seq c158_9 (.cond (.tmp 16) (.seq c158_10 .ret) .skip)) (.seq (.seq c158_11 (.cond (.tmp 19) (.seq c158_12 .ret) .skip)) (.seq c158_13 .ret)))))))), [.tmp 4]⟩
theorem comp158 : compFn Tryz.prog 158 = some c158 := by kernel_rfl

def c159_0 : C := .reg [⟨some 2, none, .op (.mv (.const (.int .i64 0)))⟩]
def c159_1 : C := .reg [⟨some 3, none, .op (.mv (.tmp 0))⟩,
    ⟨some 4, none, .op (.mv (.tmp 0))⟩,
    ⟨some 5, none, .op (.un .neg (.tmp 4))⟩,
    ⟨some 6, none, .op (.mm true (.tmp 3) [.tmp 5])⟩,
    ⟨some 2, none, .op (.mv (.tmp 6))⟩]
def c159 : Fn' := ⟨(.seq c159_0 (.seq c159_1 .ret)), [.tmp 2]⟩
theorem comp159 : compFn Tryz.prog 159 = some c159 := by kernel_rfl

def c160_0 : C := .reg [⟨some 2, none, .op (.mv (.const (.slice none 0 0)))⟩]
def c160_1 : C := .reg [⟨some 6, none, .op (.mv (.tmp 0))⟩,
    ⟨some 7, none, .op (.len (.tmp 6))⟩,
    ⟨some 8, none, .op (.bin .lss (.tmp 7) (.const (.int .i64 2)))⟩]
def c160_2 : C := .reg [⟨some 9, none, .op (.mv (.tmp 0))⟩,
    ⟨some 2, none, .op (.mv (.tmp 9))⟩]
def c160_3 : C := .reg [⟨some 3, none, .op (.mv (.const (.int .i64 1)))⟩]
def c160_4 : C := .reg [⟨some 10, none, .op (.mv (.tmp 3))⟩,
    ⟨some 11, none, .op (.mv (.tmp 0))⟩,
    ⟨some 12, none, .op (.len (.tmp 11))⟩,
    ⟨some 13, none, .op (.bin .lss (.tmp 10) (.tmp 12))⟩]
def c160_5 : C := .regD 0 [⟨0, ⟨some 16, none, .op (.mv (.tmp 0))⟩, none, []⟩,
    ⟨1, ⟨some 17, none, .op (.mv (.tmp 3))⟩, none, []⟩,
    ⟨2, ⟨some 18, none, .op (.ia 1 (.tmp 16) (.tmp 17))⟩, none, []⟩,
    ⟨3, ⟨some 19, none, .op (.ld none (.tmp 18))⟩, none, []⟩,
    ⟨4, ⟨some 20, none, .op (.mv (.tmp 0))⟩, none, []⟩,
    ⟨5, ⟨some 21, none, .op (.mv (.tmp 3))⟩, none, []⟩,
    ⟨6, ⟨some 22, none, .op (.bin .sub (.tmp 21) (.const (.int .i64 1)))⟩, none, []⟩,
    ⟨7, ⟨some 23, none, .op (.ia 1 (.tmp 20) (.tmp 22))⟩, none, []⟩,
    ⟨8, ⟨some 24, none, .op (.ld none (.tmp 23))⟩, none, []⟩,
    ⟨9, ⟨some 25, none, .op (.bin .eql (.tmp 19) (.tmp 24))⟩, none, []⟩]
def c160_6 : C := .reg [⟨some 26, none, .op (.mv (.tmp 0))⟩,
    ⟨some 27, none, .op (.mv (.tmp 3))⟩,
    ⟨some 28, none, .op (.slc 1 (.tmp 26) (some (.tmp 27)) none none)⟩,
    ⟨some 4, none, .op (.mv (.tmp 28))⟩]
def c160_7 : C := .reg [⟨some 5, none, .op (.mv (.const (.int .i64 1)))⟩]
def c160_8 : C := .reg [⟨some 29, none, .op (.mv (.tmp 5))⟩,
    ⟨some 30, none, .op (.mv (.tmp 4))⟩,
    ⟨some 31, none, .op (.len (.tmp 30))⟩,
    ⟨some 32, none, .op (.bin .lss (.tmp 29) (.tmp 31))⟩]
def c160_9 : C := .regD 0 [⟨0, ⟨some 35, none, .op (.mv (.tmp 4))⟩, none, []⟩,
    ⟨1, ⟨some 36, none, .op (.mv (.tmp 5))⟩, none, []⟩,
    ⟨2, ⟨some 37, none, .op (.ia 1 (.tmp 35) (.tmp 36))⟩, none, []⟩,
    ⟨3, ⟨some 38, none, .op (.ld none (.tmp 37))⟩, none, []⟩,
    ⟨4, ⟨some 39, none, .op (.mv (.tmp 4))⟩, none, []⟩,
    ⟨5, ⟨some 40, none, .op (.mv (.tmp 5))⟩, none, []⟩,
    ⟨6, ⟨some 41, none, .op (.bin .sub (.tmp 40) (.const (.int .i64 1)))⟩, none, []⟩,
    ⟨7, ⟨some 42, none, .op (.ia 1 (.tmp 39) (.tmp 41))⟩, none, []⟩,
    ⟨8, ⟨some 43, none, .op (.ld none (.tmp 42))⟩, none, []⟩,
    ⟨9, ⟨some 44, none, .op (.bin .neq (.tmp 38) (.tmp 43))⟩, none, []⟩]
def c160_10 : C := .reg [⟨some 45, none, .op (.mv (.tmp 0))⟩,
    ⟨some 46, none, .op (.mv (.tmp 3))⟩,
    ⟨some 47, none, .op (.mv (.tmp 4))⟩,
    ⟨some 48, none, .op (.mv (.tmp 5))⟩,
    ⟨some 49, none, .op (.ia 1 (.tmp 47) (.tmp 48))⟩,
    ⟨some 50, none, .op (.ld none (.tmp 49))⟩,
    ⟨some 51, none, .op (.ia 1 (.tmp 45) (.tmp 46))⟩,
    ⟨none, none, .op (.st 1 (.tmp 51) (.tmp 50))⟩]
def c160_11 : C := .reg [⟨some 52, none, .op (.mv (.tmp 3))⟩,
    ⟨some 53, none, .op (.bin .add (.tmp 52) (.const (.int .i64 1)))⟩,
    ⟨some 3, none, .op (.mv (.tmp 53))⟩]
def c160_12 : C := .reg [⟨some 33, none, .op (.mv (.tmp 5))⟩,
    ⟨some 34, none, .op (.bin .add (.tmp 33) (.const (.int .i64 1)))⟩,
    ⟨some 5, none, .op (.mv (.tmp 34))⟩]
def c160_13 : C := .reg [⟨some 54, none, .op (.mv (.tmp 0))⟩,
    ⟨some 55, none, .op (.mv (.tmp 3))⟩,
    ⟨some 56, none, .op (.slc 1 (.tmp 54) (some (.tmp 55)) none none)⟩,
    ⟨none, none, .op (.clr [(.int .i64 0)] (.tmp 56))⟩]
def c160_14 : C := .reg [⟨some 57, none, .op (.mv (.tmp 0))⟩,
    ⟨some 58, none, .op (.mv (.tmp 3))⟩,
    ⟨some 59, none, .op (.slc 1 (.tmp 57) none (some (.tmp 58)) none)⟩,
    ⟨some 2, none, .op (.mv (.tmp 59))⟩]
def c160_15 : C := .reg [⟨some 14, none, .op (.mv (.tmp 3))⟩,
    ⟨some 15, none, .op (.bin .add (.tmp 14) (.const (.int .i64 1)))⟩,
    ⟨some 3, none, .op (.mv (.tmp 15))⟩]
def c160_16 : C := .reg [⟨some 60, none, .op (.mv (.tmp 0))⟩,
    ⟨some 2, none, .op (.mv (.tmp 60))⟩]
def c160 : Fn' := ⟨(.seq c160_0 (.seq (.seq c160_1 (.cond (.tmp 8) (.seq c160_2 .ret) .skip)) (.seq (.seq c160_3 (.block 0 (.loop (.seq (.seq c160_4 (.cond (.tmp 13) .skip (.exit 0))) (.seq (.block 1 (.seq c160_5 (.cond (.tmp 25) (.seq c160_6 (.seq (.seq c160_7 (.block 2 (.loop (.seq (.seq c160_8 (.cond (.tmp 32) .skip (.exit 2))) (.seq (.block 3 (.seq c160_9 (.cond (.tmp 44) (.seq c160_10 c160_11) .skip))) c160_12))))) (.seq c160_13 (.seq c160_14 .ret)))) .skip))) c160_15))))) (.seq c160_16 .ret)))), [.tmp 2]⟩
theorem comp160 : compFn Tryz.prog 160 = some c160 := by kernel_rfl

def c161_0 : C := .reg [⟨some 4, none, .op (.mv (.const (.int .i64 0)))⟩]
def c161_1 : C := .reg [⟨some 6, none, .op (.mv (.tmp 0))⟩,
    ⟨some 7, none, .op (.mv (.tmp 1))⟩,
    ⟨some 8, none, .call 190 [.tmp 6, .tmp 7]⟩,
    ⟨some 5, none, .op (.mv (.tmp 8))⟩]
def c161_2 : C := .reg [⟨some 9, none, .op (.mv (.tmp 5))⟩,
    ⟨some 10, none, .op (.bin .eql (.tmp 9) (.const (.int .i64 0)))⟩,
    ⟨some 11, none, .op (.mv (.tmp 10))⟩,
    ⟨some 12, (some (11, true)), .op (.mv (.tmp 0))⟩,
    ⟨some 13, (some (11, true)), .op (.nn (.tmp 12))⟩,
    ⟨some 14, (some (11, true)), .op (.fa 0 (.tmp 13))⟩,
    ⟨some 15, (some (11, true)), .op (.fa 1 (.tmp 14))⟩,
    ⟨some 16, (some (11, true)), .op (.ld none (.tmp 15))⟩,
    ⟨some 17, (some (11, true)), .op (.mv (.tmp 1))⟩,
    ⟨some 18, (some (11, true)), .op (.ia 1 (.tmp 16) (.tmp 17))⟩,
    ⟨some 19, (some (11, true)), .op (.ld none (.tmp 18))⟩,
    ⟨some 20, (some (11, true)), .op (.bin .lss (.tmp 19) (.const (.int .i64 0)))⟩,
    ⟨some 21, none, .op (.pick (.tmp 11) (.tmp 20) (.const (.bool false)))⟩]
def c161_3 : C := .reg [⟨some 22, none, .op (.mv (.tmp 0))⟩,
    ⟨some 23, none, .op (.nn (.tmp 22))⟩,
    ⟨some 24, none, .op (.fa 0 (.tmp 23))⟩,
    ⟨some 25, none, .op (.ifc 224 (.tmp 24))⟩,
    ⟨some 26, none, .op (.mv (.tmp 1))⟩,
    ⟨some 27, none, .op (.ifc 3 (.tmp 26))⟩,
    ⟨some 28, none, .call 191 [.tmp 25, .tmp 27]⟩]
def c161_4 : C := .reg [⟨some 29, none, .op (.mv (.tmp 5))⟩,
    ⟨some 4, none, .op (.mv (.tmp 29))⟩]
def c161 : Fn' := ⟨(.seq c161_0 (.seq c161_1 (.seq (.seq c161_2 (.cond (.tmp 21) c161_3 .skip)) (.seq c161_4 .ret)))), [.tmp 4]⟩
theorem comp161 : compFn Tryz.prog 161 = some c161 := by kernel_rfl

def c162_0 : C := .reg [⟨some 4, none, .op (.mv (.const (.int .i64 0)))⟩]
def c162_1 : C := .reg [⟨some 6, none, .op (.mv (.tmp 0))⟩,
    ⟨some 7, none, .op (.len (.tmp 6))⟩,
    ⟨some 8, none, .op (.mv (.const (.int .i64 0)))⟩]
def c162_2 : C := .reg [⟨some 9, none, .op (.bin .lss (.tmp 8) (.tmp 7))⟩]
def c162_3 : C := .reg [⟨some 10, none, .op (.mv (.tmp 8))⟩,
    ⟨some 5, none, .op (.mv (.tmp 10))⟩]
def c162_4 : C := .reg [⟨some 11, none, .op (.mv (.tmp 1))⟩,
    ⟨some 12, none, .op (.mv (.tmp 0))⟩,
    ⟨some 13, none, .op (.mv (.tmp 5))⟩,
    ⟨some 14, none, .op (.ia 1 (.tmp 12) (.tmp 13))⟩,
    ⟨some 15, none, .op (.ld none (.tmp 14))⟩,
    ⟨some 16, none, .callv (.tmp 11) [.tmp 15]⟩]
def c162_5 : C := .reg [⟨some 17, none, .op (.mv (.tmp 5))⟩,
    ⟨some 4, none, .op (.mv (.tmp 17))⟩]
def c162_6 : C := .reg [⟨some 18, none, .op (.bin .add (.tmp 8) (.const (.int .i64 1)))⟩,
    ⟨some 8, none, .op (.mv (.tmp 18))⟩]
def c162_7 : C := .reg [⟨some 4, none, .op (.mv (.const (.int .i64 (-1))))⟩]
def c162 : Fn' := ⟨(.seq c162_0 (.seq (.seq c162_1 (.block 0 (.loop (.seq c162_2 (.seq (.cond (.tmp 9) .skip (.exit 0)) (.seq (.block 1 (.seq c162_3 (.seq c162_4 (.cond (.tmp 16) (.seq c162_5 .ret) .skip)))) c162_6)))))) (.seq c162_7 .ret))), [.tmp 4]⟩
theorem comp162 : compFn Tryz.prog 162 = some c162 := by kernel_rfl

def c163_0 : C := .reg [⟨some 3, none, .op (.mv (.tmp 0))⟩,
    ⟨some 4, none, .op (.len (.tmp 3))⟩,
    ⟨some 2, none, .op (.mv (.tmp 4))⟩]
def c163_1 : C := .reg [⟨some 5, none, .op (.mv (.tmp 0))⟩,
    ⟨some 6, none, .op (.mv (.tmp 2))⟩,
    ⟨some 7, none, .op (.mv (.tmp 2))⟩,
    ⟨some 8, none, .op (.conv .u64 (.tmp 7))⟩,
    ⟨some 9, none, .call 188 [.tmp 8]⟩,
    ⟨some 10, none, .call 192 [.tmp 5, .const (.int .i64 0), .tmp 6, .tmp 9]⟩]
def c163 : Fn' := ⟨(.seq c163_0 c163_1), []⟩
theorem comp163 : compFn Tryz.prog 163 = some c163 := by kernel_rfl

def c164_0 : C := .reg [⟨some 4, none, .op (.mv (.const (.bool false)))⟩]
def c164_1 : C := .reg [⟨some 7, none, .op (.mv (.tmp 0))⟩,
    ⟨some 8, none, .op (.nn (.tmp 7))⟩,
    ⟨some 9, none, .op (.fa 3 (.tmp 8))⟩,
    ⟨some 10, none, .op (.ld none (.tmp 9))⟩,
    ⟨some 11, none, .op (.mv (.tmp 1))⟩,
    ⟨some 12, none, .op (.ia 1 (.tmp 10) (.tmp 11))⟩,
    ⟨some 13, none, .op (.ld none (.tmp 12))⟩,
    ⟨some 5, none, .op (.mv (.tmp 13))⟩]
def c164_2 : C := .reg [⟨some 6, none, .op (.mv (.const (.int .i64 2)))⟩]
def c164_3 : C := .reg [⟨some 14, none, .op (.mv (.tmp 6))⟩,
    ⟨some 15, none, .op (.mv (.tmp 5))⟩,
    ⟨some 16, none, .op (.len (.tmp 15))⟩,
    ⟨some 17, none, .op (.bin .lss (.tmp 14) (.tmp 16))⟩]
def c164_4 : C := .reg [⟨some 20, none, .op (.mv (.tmp 0))⟩,
    ⟨some 21, none, .op (.mv (.tmp 5))⟩,
    ⟨some 22, none, .op (.mv (.tmp 6))⟩,
    ⟨some 23, none, .op (.ia 1 (.tmp 21) (.tmp 22))⟩,
    ⟨some 24, none, .op (.ld none (.tmp 23))⟩,
    ⟨some 25, none, .call 68 [.tmp 20, .tmp 24]⟩,
    ⟨some 26, none, .op (.bin .geq (.tmp 25) (.const (.int .i8 0)))⟩]
def c164_5 : C := .regD 0 [⟨0, ⟨some 27, none, .op (.mv (.tmp 5))⟩, none, []⟩,
    ⟨1, ⟨some 28, none, .op (.mv (.tmp 5))⟩, none, []⟩,
    ⟨2, ⟨some 29, none, .op (.mv (.tmp 6))⟩, none, []⟩,
    ⟨3, ⟨some 30, none, .op (.mv (.tmp 5))⟩, none, []⟩,
    ⟨4, ⟨some 31, none, .op (.mv (.tmp 6))⟩, none, []⟩,
    ⟨5, ⟨some 32, none, .op (.ia 1 (.tmp 30) (.tmp 31))⟩, none, []⟩,
    ⟨6, ⟨some 33, none, .op (.ld none (.tmp 32))⟩, none, []⟩,
    ⟨7, ⟨some 34, none, .op (.mv (.tmp 5))⟩, none, []⟩,
    ⟨8, ⟨some 35, none, .op (.ia 1 (.tmp 34) (.const (.int .i64 1)))⟩, none, []⟩,
    ⟨9, ⟨some 36, none, .op (.ld none (.tmp 35))⟩, none, []⟩,
    ⟨10, ⟨some 37, none, .op (.ia 1 (.tmp 27) (.const (.int .i64 1)))⟩, none, []⟩,
    ⟨11, ⟨none, none, .op (.st 1 (.tmp 37) (.tmp 33))⟩, none, []⟩,
    ⟨12, ⟨some 38, none, .op (.ia 1 (.tmp 28) (.tmp 29))⟩, none, []⟩,
    ⟨13, ⟨none, none, .op (.st 1 (.tmp 38) (.tmp 36))⟩, none, []⟩]
def c164_6 : C := .regD 1 [⟨0, ⟨some 39, none, .op (.mv (.tmp 0))⟩, none, []⟩,
    ⟨1, ⟨some 40, none, .op (.nn (.tmp 39))⟩, none, []⟩,
    ⟨2, ⟨some 41, none, .op (.fa 5 (.tmp 40))⟩, none, []⟩,
    ⟨3, ⟨some 42, none, .op (.ld none (.tmp 41))⟩, none, []⟩,
    ⟨4, ⟨some 43, none, .op (.mv (.tmp 5))⟩, none, []⟩,
    ⟨5, ⟨some 44, none, .op (.ia 1 (.tmp 43) (.const (.int .i64 1)))⟩, none, []⟩,
    ⟨6, ⟨some 45, none, .op (.ld none (.tmp 44))⟩, none, []⟩,
    ⟨8, ⟨some 47, none, .op (.mv (.tmp 0))⟩, none, []⟩,
    ⟨9, ⟨some 48, none, .op (.nn (.tmp 47))⟩, none, []⟩,
    ⟨10, ⟨some 49, none, .op (.fa 5 (.tmp 48))⟩, none, []⟩,
    ⟨11, ⟨some 50, none, .op (.ld none (.tmp 49))⟩, none, []⟩,
    ⟨12, ⟨some 51, none, .op (.mv (.tmp 5))⟩, none, []⟩,
    ⟨13, ⟨some 52, none, .op (.ia 1 (.tmp 51) (.const (.int .i64 1)))⟩, none, []⟩,
    ⟨14, ⟨some 53, none, .op (.ld none (.tmp 52))⟩, none, []⟩,
    ⟨18, ⟨some 57, none, .op (.mv (.tmp 1))⟩, none, []⟩,
    ⟨7, ⟨some 46, none, .call 119 [.tmp 45]⟩, none, [(none, .tmp 52, 53, none), (none, .tmp 49, 50, none), (none, .tmp 41, 42, none)]⟩,
    ⟨15, ⟨some 54, none, .call 119 [.tmp 53]⟩, none, [(none, .tmp 49, 50, none), (none, .tmp 41, 42, none)]⟩,
    ⟨16, ⟨some 55, none, .op (.ia 1 (.tmp 50) (.tmp 54))⟩, none, []⟩,
    ⟨17, ⟨some 56, none, .op (.ld none (.tmp 55))⟩, none, []⟩,
    ⟨19, ⟨some 58, none, .op (.mkSl (reps 1 [(.int .i64 0)]) 1 [(0, 1, .tmp 57)])⟩, some 0, []⟩,
    ⟨20, ⟨some 59, none, .op (.app 1 8 (.tmp 56) (.tmp 58))⟩, none, [(none, .tmp 41, 42, none)]⟩,
    ⟨21, ⟨some 60, none, .op (.ia 1 (.tmp 42) (.tmp 46))⟩, none, []⟩,
    ⟨22, ⟨none, none, .op (.st 1 (.tmp 60) (.tmp 59))⟩, none, []⟩]
def c164_7 : C := .reg [⟨some 4, none, .op (.mv (.const (.bool true)))⟩]
def c164_8 : C := .reg [⟨some 18, none, .op (.mv (.tmp 6))⟩,
    ⟨some 19, none, .op (.bin .add (.tmp 18) (.const (.int .i64 1)))⟩,
    ⟨some 6, none, .op (.mv (.tmp 19))⟩]
def c164_9 : C := .reg [⟨some 4, none, .op (.mv (.const (.bool false)))⟩]
def c164 : Fn' := ⟨(.seq c164_0 (.seq c164_1 (.seq (.seq c164_2 (.block 0 (.loop (.seq (.seq c164_3 (.cond (.tmp 17) .skip (.exit 0))) (.seq (.block 1 (.seq c164_4 (.cond (.tmp 26) (.seq c164_5 (.seq c164_6 (.seq c164_7 .ret))) .skip))) c164_8))))) (.seq c164_9 .ret)))), [.tmp 4]⟩
theorem comp164 : compFn Tryz.prog 164 = some c164 := by kernel_rfl

def c165_0 : C := .reg [⟨some 4, none, .op (.mv (.const (.map none)))⟩]
def c165_1 : C := .reg [⟨some 12, none, .op (.mpn)⟩,
    ⟨some 13, none, .op (.mv (.tmp 1))⟩,
    ⟨none, none, .op (.mpu .i64 (.tmp 12) (.tmp 13) (.const (.int .i64 1)))⟩,
    ⟨some 14, none, .op (.mv (.tmp 12))⟩,
    ⟨some 5, none, .op (.mv (.tmp 14))⟩]
def c165_2 : C := .regD 0 [⟨0, ⟨some 15, none, .op (.mv (.tmp 0))⟩, none, []⟩,
    ⟨1, ⟨some 16, none, .op (.nn (.tmp 15))⟩, none, []⟩,
    ⟨2, ⟨some 17, none, .op (.fa 7 (.tmp 16))⟩, none, []⟩,
    ⟨3, ⟨some 18, none, .op (.ld none (.tmp 17))⟩, none, []⟩,
    ⟨4, ⟨some 19, none, .op (.mv (.tmp 1))⟩, none, []⟩,
    ⟨5, ⟨some 20, none, .call 118 [.tmp 19]⟩, none, [(none, .tmp 17, 18, none)]⟩,
    ⟨6, ⟨some 21, none, .op (.ia 1 (.tmp 18) (.tmp 20))⟩, none, []⟩,
    ⟨7, ⟨some 22, none, .op (.ld none (.tmp 21))⟩, none, []⟩,
    ⟨8, ⟨some 23, none, .op (.bin .eql (.tmp 22) (.const (.int .i64 0)))⟩, none, []⟩]
def c165_3 : C := .reg [⟨some 24, none, .op (.mv (.tmp 5))⟩,
    ⟨some 4, none, .op (.mv (.tmp 24))⟩]
def c165_4 : C := .reg [⟨some 25, none, .op (.mv (.tmp 1))⟩,
    ⟨some 26, none, .call 118 [.tmp 25]⟩,
    ⟨some 27, none, .op (.mkSl (reps 1 [(.int .i64 0)]) 1 [(0, 1, .tmp 26)])⟩,
    ⟨some 28, none, .op (.mpn)⟩,
    ⟨some 29, none, .op (.mv (.tmp 1))⟩,
    ⟨some 30, none, .call 118 [.tmp 29]⟩,
    ⟨none, none, .op (.mpu .i64 (.tmp 28) (.tmp 30) (.const (.int .i64 1)))⟩,
    ⟨some 31, none, .op (.mv (.tmp 28))⟩,
    ⟨some 6, none, .op (.mv (.tmp 27))⟩,
    ⟨some 7, none, .op (.mv (.tmp 31))⟩]
def c165_5 : C := .reg [⟨some 32, none, .op (.mv (.tmp 6))⟩,
    ⟨some 33, none, .op (.len (.tmp 32))⟩,
    ⟨some 34, none, .op (.bin .gtr (.tmp 33) (.const (.int .i64 0)))⟩]
def c165_6 : C := .reg [⟨some 35, none, .op (.mv (.tmp 6))⟩,
    ⟨some 36, none, .op (.mv (.tmp 6))⟩,
    ⟨some 37, none, .op (.len (.tmp 36))⟩,
    ⟨some 38, none, .op (.bin .sub (.tmp 37) (.const (.int .i64 1)))⟩,
    ⟨some 39, none, .op (.ia 1 (.tmp 35) (.tmp 38))⟩,
    ⟨some 40, none, .op (.ld none (.tmp 39))⟩,
    ⟨some 8, none, .op (.mv (.tmp 40))⟩]
def c165_7 : C := .reg [⟨some 41, none, .op (.mv (.tmp 6))⟩,
    ⟨some 42, none, .op (.mv (.tmp 6))⟩,
    ⟨some 43, none, .op (.len (.tmp 42))⟩,
    ⟨some 44, none, .op (.bin .sub (.tmp 43) (.const (.int .i64 1)))⟩,
    ⟨some 45, none, .op (.slc 1 (.tmp 41) none (some (.tmp 44)) none)⟩,
    ⟨some 6, none, .op (.mv (.tmp 45))⟩]
def c165_8 : C := .reg [⟨some 46, none, .op (.mv (.tmp 0))⟩,
    ⟨some 47, none, .op (.nn (.tmp 46))⟩,
    ⟨some 48, none, .op (.fa 8 (.tmp 47))⟩,
    ⟨some 49, none, .op (.ld none (.tmp 48))⟩,
    ⟨some 50, none, .op (.mv (.tmp 8))⟩,
    ⟨some 51, none, .op (.ia 1 (.tmp 49) (.tmp 50))⟩,
    ⟨some 52, none, .op (.ld none (.tmp 51))⟩,
    ⟨some 53, none, .op (.bin .eql (.tmp 52) (.const (.int .i64 (-1))))⟩]
def c165_9 : C := .reg [⟨some 54, none, .op (.mv (.tmp 5))⟩,
    ⟨some 55, none, .op (.mv (.tmp 8))⟩,
    ⟨some 56, none, .op (.mv (.tmp 0))⟩,
    ⟨some 57, none, .op (.nn (.tmp 56))⟩,
    ⟨some 58, none, .op (.fa 6 (.tmp 57))⟩,
    ⟨some 59, none, .op (.ld none (.tmp 58))⟩,
    ⟨some 60, none, .op (.mv (.tmp 8))⟩,
    ⟨some 61, none, .op (.ia 1 (.tmp 59) (.tmp 60))⟩,
    ⟨some 62, none, .op (.ld none (.tmp 61))⟩,
    ⟨some 63, none, .op (.conv .i64 (.tmp 62))⟩,
    ⟨some 64, none, .op (.bin .mul (.tmp 55) (.tmp 63))⟩,
    ⟨some 65, none, .op (.mpl .i64 (.int .i64 0) false (.tmp 54) (.tmp 64))⟩,
    ⟨some 66, none, .op (.bin .add (.tmp 65) (.const (.int .i64 1)))⟩,
    ⟨none, none, .op (.mpu .i64 (.tmp 54) (.tmp 64) (.tmp 66))⟩]
def c165_10 : C := .regD 0 [⟨0, ⟨some 67, none, .op (.mv (.tmp 0))⟩, none, []⟩,
    ⟨1, ⟨some 68, none, .op (.nn (.tmp 67))⟩, none, []⟩,
    ⟨2, ⟨some 69, none, .op (.fa 3 (.tmp 68))⟩, none, []⟩,
    ⟨3, ⟨some 70, none, .op (.ld none (.tmp 69))⟩, none, []⟩,
    ⟨4, ⟨some 71, none, .op (.mv (.tmp 0))⟩, none, []⟩,
    ⟨5, ⟨some 72, none, .op (.nn (.tmp 71))⟩, none, []⟩,
    ⟨6, ⟨some 73, none, .op (.fa 8 (.tmp 72))⟩, none, []⟩,
    ⟨7, ⟨some 74, none, .op (.ld none (.tmp 73))⟩, none, []⟩,
    ⟨8, ⟨some 75, none, .op (.mv (.tmp 8))⟩, none, []⟩,
    ⟨9, ⟨some 76, none, .op (.ia 1 (.tmp 74) (.tmp 75))⟩, none, []⟩,
    ⟨10, ⟨some 77, none, .op (.ld none (.tmp 76))⟩, none, []⟩,
    ⟨11, ⟨some 78, none, .op (.ia 1 (.tmp 70) (.tmp 77))⟩, none, []⟩,
    ⟨12, ⟨some 79, none, .op (.ld none (.tmp 78))⟩, none, []⟩,
    ⟨13, ⟨some 80, none, .op (.len (.tmp 79))⟩, none, []⟩,
    ⟨14, ⟨some 81, none, .op (.mv (.const (.int .i64 0)))⟩, none, []⟩]
def c165_11 : C := .reg [⟨some 82, none, .op (.bin .lss (.tmp 81) (.tmp 80))⟩]
def c165_12 : C := .reg [⟨some 83, none, .op (.ia 1 (.tmp 79) (.tmp 81))⟩,
    ⟨some 84, none, .op (.ld none (.tmp 83))⟩,
    ⟨some 10, none, .op (.mv (.tmp 84))⟩]
def c165_13 : C := .reg [⟨some 85, none, .op (.mv (.tmp 10))⟩,
    ⟨some 86, none, .call 118 [.tmp 85]⟩,
    ⟨some 11, none, .op (.mv (.tmp 86))⟩]
def c165_14 : C := .reg [⟨some 87, none, .op (.mv (.tmp 7))⟩,
    ⟨some 88, none, .op (.mv (.tmp 11))⟩,
    ⟨some 89, none, .op (.mpl .i64 (.int .i64 0) false (.tmp 87) (.tmp 88))⟩,
    ⟨some 90, none, .op (.bin .eql (.tmp 89) (.const (.int .i64 0)))⟩,
    ⟨some 91, none, .op (.mv (.tmp 90))⟩,
    ⟨some 92, (some (91, true)), .op (.mv (.tmp 0))⟩,
    ⟨some 93, (some (91, true)), .op (.nn (.tmp 92))⟩,
    ⟨some 94, (some (91, true)), .op (.fa 7 (.tmp 93))⟩,
    ⟨some 95, (some (91, true)), .op (.ld none (.tmp 94))⟩,
    ⟨some 96, (some (91, true)), .op (.mv (.tmp 11))⟩,
    ⟨some 97, (some (91, true)), .op (.ia 1 (.tmp 95) (.tmp 96))⟩,
    ⟨some 98, (some (91, true)), .op (.ld none (.tmp 97))⟩,
    ⟨some 99, (some (91, true)), .op (.bin .gtr (.tmp 98) (.const (.int .i64 0)))⟩,
    ⟨some 100, none, .op (.pick (.tmp 91) (.tmp 99) (.const (.bool false)))⟩]
def c165_15 : C := .reg [⟨some 101, none, .op (.mv (.tmp 7))⟩,
    ⟨some 102, none, .op (.mv (.tmp 11))⟩,
    ⟨some 103, none, .op (.mpl .i64 (.int .i64 0) false (.tmp 101) (.tmp 102))⟩,
    ⟨some 104, none, .op (.bin .add (.tmp 103) (.const (.int .i64 1)))⟩,
    ⟨none, none, .op (.mpu .i64 (.tmp 101) (.tmp 102) (.tmp 104))⟩]
def c165_16 : C := .reg [⟨some 105, none, .op (.mv (.tmp 6))⟩,
    ⟨some 106, none, .op (.mv (.tmp 11))⟩,
    ⟨some 107, none, .op (.mkSl (reps 1 [(.int .i64 0)]) 1 [(0, 1, .tmp 106)])⟩,
    ⟨some 108, none, .op (.app 1 8 (.tmp 105) (.tmp 107))⟩,
    ⟨some 6, none, .op (.mv (.tmp 108))⟩]
def c165_17 : C := .reg [⟨some 109, none, .op (.bin .add (.tmp 81) (.const (.int .i64 1)))⟩,
    ⟨some 81, none, .op (.mv (.tmp 109))⟩]
def c165_18 : C := .reg [⟨some 110, none, .op (.mv (.tmp 5))⟩,
    ⟨some 4, none, .op (.mv (.tmp 110))⟩]
def c165 : Fn' := ⟨(.seq c165_0 (.seq c165_1 (.seq (.seq c165_2 (.cond (.tmp 23) (.seq c165_3 .ret) .skip)) (.seq c165_4 (.seq (.block 0 (.loop (.seq (.seq c165_5 (.cond (.tmp 34) .skip (.exit 0))) (.block 1 (.seq c165_6 (.seq c165_7 (.seq (.seq c165_8 (.cond (.tmp 53) (.seq c165_9 (.exit 1)) .skip)) (.seq c165_10 (.block 2 (.loop (.seq c165_11 (.seq (.cond (.tmp 82) .skip (.exit 2)) (.seq (.block 3 (.seq c165_12 (.seq c165_13 (.seq c165_14 (.cond (.tmp 100) (.seq c165_15 c165_16) .skip))))) c165_17))))))))))))) (.seq c165_18 .ret)))))), [.tmp 4]⟩
theorem comp165 : compFn Tryz.prog 165 = some c165 := by kernel_rfl

def c166_0 : C := .reg [⟨some 2, none, .op (.mv (.const (.int .i64 0)))⟩,
    ⟨some 3, none, .op (.mv (.const (.bool false)))⟩]
def c166_1 : C := .reg [⟨some 4, none, .op (.mv (.tmp 0))⟩,
    ⟨some 5, none, .call 193 [.tmp 4]⟩,
    ⟨some 6, none, .op (.mv (.tmp 5))⟩,
    ⟨some 7, (some (6, false)), .op (.mv (.tmp 0))⟩,
    ⟨some 8, (some (6, false)), .op (.nn (.tmp 7))⟩,
    ⟨some 9, (some (6, false)), .op (.fa 0 (.tmp 8))⟩,
    ⟨some 10, (some (6, false)), .call 194 [.tmp 9]⟩,
    ⟨some 11, (some (6, false)), .op (.bin .eql (.tmp 10) (.const (.int .i64 0)))⟩,
    ⟨some 12, none, .op (.pick (.tmp 6) (.const (.bool true)) (.tmp 11))⟩]
def c166_2 : C := .reg [⟨some 2, none, .op (.mv (.const (.int .i64 0)))⟩,
    ⟨some 3, none, .op (.mv (.const (.bool false)))⟩]
def c166_3 : C := .reg [⟨some 13, none, .op (.mv (.tmp 0))⟩,
    ⟨some 14, none, .op (.nn (.tmp 13))⟩,
    ⟨some 15, none, .op (.fa 0 (.tmp 14))⟩,
    ⟨some 16, none, .op (.ifc 224 (.tmp 15))⟩,
    ⟨some 17, none, .call 195 [.tmp 16]⟩,
    ⟨some 18, none, .op (.ta 3 (.tmp 17))⟩,
    ⟨some 2, none, .op (.mv (.tmp 18))⟩,
    ⟨some 3, none, .op (.mv (.const (.bool true)))⟩]
def c166 : Fn' := ⟨(.seq c166_0 (.seq (.seq c166_1 (.cond (.tmp 12) (.seq c166_2 .ret) .skip)) (.seq c166_3 .ret))), [.tmp 2, .tmp 3]⟩
theorem comp166 : compFn Tryz.prog 166 = some c166 := by kernel_rfl

def c167_0 : C := .reg [⟨some 2, none, .op (.mv (.tmp 0))⟩,
    ⟨some 3, none, .call 193 [.tmp 2]⟩]
def c167_1 : C := .regD 0 [⟨0, ⟨some 4, none, .op (.mv (.tmp 0))⟩, none, []⟩,
    ⟨1, ⟨some 5, none, .op (.nn (.tmp 4))⟩, none, []⟩,
    ⟨2, ⟨some 6, none, .op (.fa 3 (.tmp 5))⟩, none, []⟩,
    ⟨3, ⟨some 7, none, .op (.ld none (.tmp 6))⟩, none, []⟩,
    ⟨4, ⟨some 8, none, .op (.mv (.tmp 0))⟩, none, []⟩,
    ⟨5, ⟨some 9, none, .op (.nn (.tmp 8))⟩, none, []⟩,
    ⟨6, ⟨some 10, none, .op (.fa 3 (.tmp 9))⟩, none, []⟩,
    ⟨7, ⟨some 11, none, .op (.ld none (.tmp 10))⟩, none, []⟩,
    ⟨8, ⟨some 12, none, .op (.bin .quo (.tmp 11) (.const (.int .u64 8)))⟩, none, []⟩,
    ⟨9, ⟨some 13, none, .op (.bin .add (.tmp 12) (.const (.int .u64 1)))⟩, none, []⟩,
    ⟨10, ⟨some 14, none, .op (.bin .add (.tmp 7) (.tmp 13))⟩, none, []⟩,
    ⟨11, ⟨some 15, none, .op (.nn (.tmp 4))⟩, none, []⟩,
    ⟨12, ⟨some 16, none, .op (.fa 3 (.tmp 15))⟩, none, []⟩,
    ⟨13, ⟨none, none, .op (.st 1 (.tmp 16) (.tmp 14))⟩, none, []⟩]
def c167_2 : C := .reg [⟨some 17, none, .op (.mv (.tmp 0))⟩,
    ⟨some 18, none, .op (.nn (.tmp 17))⟩,
    ⟨some 19, none, .op (.fa 3 (.tmp 18))⟩,
    ⟨some 20, none, .op (.ld none (.tmp 19))⟩,
    ⟨some 21, none, .op (.bin .gtr (.tmp 20) (.const (.int .u64 281474976710656)))⟩]
def c167_3 : C := .reg [⟨some 22, none, .op (.mv (.tmp 0))⟩,
    ⟨some 23, none, .call 196 [.tmp 22]⟩]
def c167 : Fn' := ⟨(.seq (.seq c167_0 (.cond (.tmp 3) .ret .skip)) (.seq c167_1 (.seq c167_2 (.cond (.tmp 21) c167_3 .skip)))), []⟩
theorem comp167 : compFn Tryz.prog 167 = some c167 := by kernel_rfl

def c168_0 : C := .reg [⟨some 4, none, .op (.mv (.const (.int .i64 0)))⟩]
def c168_1 : C := .reg [⟨some 6, none, .op (.mv (.tmp 0))⟩,
    ⟨some 7, none, .op (.mv (.tmp 1))⟩,
    ⟨some 8, none, .call 190 [.tmp 6, .tmp 7]⟩,
    ⟨some 5, none, .op (.mv (.tmp 8))⟩]
def c168_2 : C := .reg [⟨some 9, none, .op (.mv (.tmp 5))⟩,
    ⟨some 10, none, .op (.bin .neq (.tmp 9) (.const (.int .i64 0)))⟩]
def c168_3 : C := .reg [⟨some 11, none, .op (.mv (.tmp 5))⟩,
    ⟨some 4, none, .op (.mv (.tmp 11))⟩]
def c168_4 : C := .regD 0 [⟨0, ⟨some 12, none, .op (.mv (.tmp 0))⟩, none, []⟩,
    ⟨1, ⟨some 13, none, .op (.nn (.tmp 12))⟩, none, []⟩,
    ⟨2, ⟨some 14, none, .op (.fa 0 (.tmp 13))⟩, none, []⟩,
    ⟨3, ⟨some 15, none, .op (.fa 2 (.tmp 14))⟩, none, []⟩,
    ⟨4, ⟨some 16, none, .op (.ld none (.tmp 15))⟩, none, []⟩,
    ⟨5, ⟨some 17, none, .op (.mv (.tmp 1))⟩, none, []⟩,
    ⟨6, ⟨some 18, none, .op (.ia 1 (.tmp 16) (.tmp 17))⟩, none, []⟩,
    ⟨7, ⟨some 19, none, .op (.ld none (.tmp 18))⟩, none, []⟩,
    ⟨8, ⟨some 20, none, .op (.mv (.tmp 0))⟩, none, []⟩,
    ⟨9, ⟨some 21, none, .op (.nn (.tmp 20))⟩, none, []⟩,
    ⟨10, ⟨some 22, none, .op (.fa 3 (.tmp 21))⟩, none, []⟩,
    ⟨11, ⟨some 23, none, .op (.ld none (.tmp 22))⟩, none, []⟩,
    ⟨12, ⟨some 24, none, .op (.bin .add (.tmp 19) (.tmp 23))⟩, none, []⟩,
    ⟨13, ⟨some 25, none, .op (.ia 1 (.tmp 16) (.tmp 17))⟩, none, []⟩,
    ⟨14, ⟨none, none, .op (.st 1 (.tmp 25) (.tmp 24))⟩, none, []⟩]
def c168_5 : C := .reg [⟨some 26, none, .op (.mv (.tmp 0))⟩,
    ⟨some 27, none, .op (.nn (.tmp 26))⟩,
    ⟨some 28, none, .op (.fa 0 (.tmp 27))⟩,
    ⟨some 29, none, .op (.fa 1 (.tmp 28))⟩,
    ⟨some 30, none, .op (.ld none (.tmp 29))⟩,
    ⟨some 31, none, .op (.mv (.tmp 1))⟩,
    ⟨some 32, none, .op (.ia 1 (.tmp 30) (.tmp 31))⟩,
    ⟨some 33, none, .op (.ld none (.tmp 32))⟩,
    ⟨some 34, none, .op (.bin .geq (.tmp 33) (.const (.int .i64 0)))⟩]
def c168_6 : C := .regD 0 [⟨0, ⟨some 35, none, .op (.mv (.tmp 0))⟩, none, []⟩,
    ⟨1, ⟨some 36, none, .op (.nn (.tmp 35))⟩, none, []⟩,
    ⟨2, ⟨some 37, none, .op (.fa 0 (.tmp 36))⟩, none, []⟩,
    ⟨3, ⟨some 38, none, .op (.ifc 224 (.tmp 37))⟩, none, []⟩,
    ⟨4, ⟨some 39, none, .op (.mv (.tmp 0))⟩, none, []⟩,
    ⟨5, ⟨some 40, none, .op (.nn (.tmp 39))⟩, none, []⟩,
    ⟨6, ⟨some 41, none, .op (.fa 0 (.tmp 40))⟩, none, []⟩,
    ⟨7, ⟨some 42, none, .op (.fa 1 (.tmp 41))⟩, none, []⟩,
    ⟨8, ⟨some 43, none, .op (.ld none (.tmp 42))⟩, none, []⟩,
    ⟨9, ⟨some 44, none, .op (.mv (.tmp 1))⟩, none, []⟩,
    ⟨10, ⟨some 45, none, .op (.ia 1 (.tmp 43) (.tmp 44))⟩, none, []⟩,
    ⟨11, ⟨some 46, none, .op (.ld none (.tmp 45))⟩, none, []⟩,
    ⟨12, ⟨some 47, none, .call 197 [.tmp 38, .tmp 46]⟩, none, []⟩]
def c168_7 : C := .reg [⟨some 48, none, .op (.mv (.tmp 0))⟩,
    ⟨some 49, none, .op (.nn (.tmp 48))⟩,
    ⟨some 50, none, .op (.fa 0 (.tmp 49))⟩,
    ⟨some 51, none, .op (.fa 2 (.tmp 50))⟩,
    ⟨some 52, none, .op (.ld none (.tmp 51))⟩,
    ⟨some 53, none, .op (.mv (.tmp 1))⟩,
    ⟨some 54, none, .op (.ia 1 (.tmp 52) (.tmp 53))⟩,
    ⟨some 55, none, .op (.ld none (.tmp 54))⟩,
    ⟨some 56, none, .op (.bin .gtr (.tmp 55) (.const (.int .u64 281474976710656)))⟩]
def c168_8 : C := .reg [⟨some 57, none, .op (.mv (.tmp 0))⟩,
    ⟨some 58, none, .call 196 [.tmp 57]⟩]
def c168_9 : C := .reg [⟨some 4, none, .op (.mv (.const (.int .i64 0)))⟩]
def c168 : Fn' := ⟨(.seq c168_0 (.seq (.seq c168_1 (.seq c168_2 (.cond (.tmp 10) (.seq c168_3 .ret) .skip))) (.seq c168_4 (.seq (.seq c168_5 (.cond (.tmp 34) c168_6 .skip)) (.seq (.seq c168_7 (.cond (.tmp 56) c168_8 .skip)) (.seq c168_9 .ret)))))), [.tmp 4]⟩
theorem comp168 : compFn Tryz.prog 168 = some c168 := by kernel_rfl

def c187_0 : C := .reg [⟨some 10, none, .op (.mv (.const (.bool true)))⟩]
def c187_1 : C := .reg [⟨some 11, none, .op (.mv (.const (.bool true)))⟩]
def c187_2 : C := .reg [⟨some 21, none, .op (.mv (.tmp 2))⟩,
    ⟨some 22, none, .op (.mv (.tmp 1))⟩,
    ⟨some 23, none, .op (.bin .sub (.tmp 21) (.tmp 22))⟩,
    ⟨some 12, none, .op (.mv (.tmp 23))⟩]
def c187_3 : C := .reg [⟨some 24, none, .op (.mv (.tmp 12))⟩,
    ⟨some 25, none, .op (.bin .leq (.tmp 24) (.const (.int .i64 12)))⟩]
def c187_4 : C := .reg [⟨some 26, none, .op (.mv (.tmp 0))⟩,
    ⟨some 27, none, .op (.mv (.tmp 1))⟩,
    ⟨some 28, none, .op (.mv (.tmp 2))⟩,
    ⟨some 29, none, .op (.mv (.tmp 4))⟩,
    ⟨some 30, none, .call 219 [.tmp 26, .tmp 27, .tmp 28, .tmp 29]⟩]
def c187_5 : C := .reg [⟨some 31, none, .op (.mv (.tmp 3))⟩,
    ⟨some 32, none, .op (.bin .eql (.tmp 31) (.const (.int .i64 0)))⟩]
def c187_6 : C := .reg [⟨some 33, none, .op (.mv (.tmp 0))⟩,
    ⟨some 34, none, .op (.mv (.tmp 1))⟩,
    ⟨some 35, none, .op (.mv (.tmp 2))⟩,
    ⟨some 36, none, .op (.mv (.tmp 4))⟩,
    ⟨some 37, none, .call 220 [.tmp 33, .tmp 34, .tmp 35, .tmp 36]⟩]
def c187_7 : C := .reg [⟨some 38, none, .op (.mv (.tmp 10))⟩,
    ⟨some 39, none, .op (.un .not (.tmp 38))⟩]
def c187_8 : C := .reg [⟨some 40, none, .op (.mv (.tmp 0))⟩,
    ⟨some 41, none, .op (.mv (.tmp 1))⟩,
    ⟨some 42, none, .op (.mv (.tmp 2))⟩,
    ⟨some 43, none, .op (.mv (.tmp 4))⟩,
    ⟨some 44, none, .call 221 [.tmp 40, .tmp 41, .tmp 42, .tmp 43]⟩]
def c187_9 : C := .reg [⟨some 45, none, .op (.mv (.tmp 3))⟩,
    ⟨some 46, none, .op (.bin .sub (.tmp 45) (.const (.int .i64 1)))⟩,
    ⟨some 3, none, .op (.mv (.tmp 46))⟩]
def c187_10 : C := .reg [⟨some 48, none, .op (.mv (.tmp 0))⟩,
    ⟨some 49, none, .op (.mv (.tmp 1))⟩,
    ⟨some 50, none, .op (.mv (.tmp 2))⟩,
    ⟨some 51, none, .op (.mv (.tmp 4))⟩,
    ⟨some 52, none, .call 222 [.tmp 48, .tmp 49, .tmp 50, .tmp 51]⟩,
    ⟨some 47, none, .op (.mv (.tmp 52))⟩,
    ⟨some 53, none, .op (.ext (.tmp 47) 0)⟩,
    ⟨some 54, none, .op (.ext (.tmp 47) 1)⟩,
    ⟨some 13, none, .op (.mv (.tmp 53))⟩,
    ⟨some 14, none, .op (.mv (.tmp 54))⟩]
def c187_11 : C := .reg [⟨some 55, none, .op (.mv (.tmp 14))⟩,
    ⟨some 56, none, .op (.bin .eql (.tmp 55) (.const (.int .i64 2)))⟩]
def c187_12 : C := .reg [⟨some 57, none, .op (.mv (.tmp 0))⟩,
    ⟨some 58, none, .op (.mv (.tmp 1))⟩,
    ⟨some 59, none, .op (.mv (.tmp 2))⟩,
    ⟨some 60, none, .op (.mv (.tmp 4))⟩,
    ⟨some 61, none, .call 223 [.tmp 57, .tmp 58, .tmp 59, .tmp 60]⟩]
def c187_13 : C := .reg [⟨some 62, none, .op (.mv (.tmp 2))⟩,
    ⟨some 63, none, .op (.bin .sub (.tmp 62) (.const (.int .i64 1)))⟩,
    ⟨some 64, none, .op (.mv (.tmp 13))⟩,
    ⟨some 65, none, .op (.mv (.tmp 1))⟩,
    ⟨some 66, none, .op (.bin .sub (.tmp 64) (.tmp 65))⟩,
    ⟨some 67, none, .op (.bin .sub (.tmp 63) (.tmp 66))⟩,
    ⟨some 13, none, .op (.mv (.tmp 67))⟩]
def c187_14 : C := .reg [⟨some 14, none, .op (.mv (.const (.int .i64 1)))⟩]
def c187_15 : C := .reg [⟨some 68, none, .op (.mv (.tmp 10))⟩,
    ⟨some 69, none, .op (.mv (.tmp 68))⟩,
    ⟨some 70, (some (69, true)), .op (.mv (.tmp 11))⟩,
    ⟨some 71, none, .op (.pick (.tmp 69) (.tmp 70) (.const (.bool false)))⟩,
    ⟨some 72, none, .op (.mv (.tmp 71))⟩,
    ⟨some 73, (some (72, true)), .op (.mv (.tmp 14))⟩,
    ⟨some 74, (some (72, true)), .op (.bin .eql (.tmp 73) (.const (.int .i64 1)))⟩,
    ⟨some 75, none, .op (.pick (.tmp 72) (.tmp 74) (.const (.bool false)))⟩]
def c187_16 : C := .reg [⟨some 76, none, .op (.mv (.tmp 0))⟩,
    ⟨some 77, none, .op (.mv (.tmp 1))⟩,
    ⟨some 78, none, .op (.mv (.tmp 2))⟩,
    ⟨some 79, none, .op (.mv (.tmp 4))⟩,
    ⟨some 80, none, .call 224 [.tmp 76, .tmp 77, .tmp 78, .tmp 79]⟩]
def c187_17 : C := .regD 0 [⟨0, ⟨some 81, none, .op (.mv (.tmp 1))⟩, none, []⟩,
    ⟨1, ⟨some 82, none, .op (.bin .gtr (.tmp 81) (.const (.int .i64 0)))⟩, none, []⟩,
    ⟨2, ⟨some 83, none, .op (.mv (.tmp 82))⟩, none, []⟩,
    ⟨3, ⟨some 84, (some (83, true)), .op (.mv (.tmp 4))⟩, none, []⟩,
    ⟨4, ⟨some 85, (some (83, true)), .op (.mv (.tmp 0))⟩, none, []⟩,
    ⟨5, ⟨some 86, (some (83, true)), .op (.mv (.tmp 1))⟩, none, []⟩,
    ⟨6, ⟨some 87, (some (83, true)), .op (.bin .sub (.tmp 86) (.const (.int .i64 1)))⟩, none, []⟩,
    ⟨7, ⟨some 88, (some (83, true)), .op (.ia 1 (.tmp 85) (.tmp 87))⟩, none, []⟩,
    ⟨8, ⟨some 89, (some (83, true)), .op (.ld none (.tmp 88))⟩, none, []⟩,
    ⟨9, ⟨some 90, (some (83, true)), .op (.mv (.tmp 0))⟩, none, []⟩,
    ⟨10, ⟨some 91, (some (83, true)), .op (.mv (.tmp 13))⟩, none, []⟩,
    ⟨11, ⟨some 92, (some (83, true)), .op (.ia 1 (.tmp 90) (.tmp 91))⟩, none, []⟩,
    ⟨12, ⟨some 93, (some (83, true)), .op (.ld none (.tmp 92))⟩, none, []⟩,
    ⟨13, ⟨some 94, (some (83, true)), .callv (.tmp 84) [.tmp 89, .tmp 93]⟩, none, []⟩,
    ⟨14, ⟨some 95, (some (83, true)), .op (.bin .lss (.tmp 94) (.const (.int .i64 0)))⟩, none, []⟩,
    ⟨15, ⟨some 96, (some (83, true)), .op (.un .not (.tmp 95))⟩, none, []⟩,
    ⟨16, ⟨some 97, none, .op (.pick (.tmp 83) (.tmp 96) (.const (.bool false)))⟩, none, []⟩]
def c187_18 : C := .reg [⟨some 98, none, .op (.mv (.tmp 0))⟩,
    ⟨some 99, none, .op (.mv (.tmp 1))⟩,
    ⟨some 100, none, .op (.mv (.tmp 2))⟩,
    ⟨some 101, none, .op (.mv (.tmp 13))⟩,
    ⟨some 102, none, .op (.mv (.tmp 4))⟩,
    ⟨some 103, none, .call 225 [.tmp 98, .tmp 99, .tmp 100, .tmp 101, .tmp 102]⟩,
    ⟨some 15, none, .op (.mv (.tmp 103))⟩]
def c187_19 : C := .reg [⟨some 104, none, .op (.mv (.tmp 15))⟩,
    ⟨some 1, none, .op (.mv (.tmp 104))⟩]
def c187_20 : C := .reg [⟨some 106, none, .op (.mv (.tmp 0))⟩,
    ⟨some 107, none, .op (.mv (.tmp 1))⟩,
    ⟨some 108, none, .op (.mv (.tmp 2))⟩,
    ⟨some 109, none, .op (.mv (.tmp 13))⟩,
    ⟨some 110, none, .op (.mv (.tmp 4))⟩,
    ⟨some 111, none, .call 226 [.tmp 106, .tmp 107, .tmp 108, .tmp 109, .tmp 110]⟩,
    ⟨some 105, none, .op (.mv (.tmp 111))⟩,
    ⟨some 112, none, .op (.ext (.tmp 105) 0)⟩,
    ⟨some 113, none, .op (.ext (.tmp 105) 1)⟩,
    ⟨some 16, none, .op (.mv (.tmp 112))⟩,
    ⟨some 17, none, .op (.mv (.tmp 113))⟩]
def c187_21 : C := .reg [⟨some 114, none, .op (.mv (.tmp 17))⟩,
    ⟨some 11, none, .op (.mv (.tmp 114))⟩]
def c187_22 : C := .reg [⟨some 115, none, .op (.mv (.tmp 16))⟩,
    ⟨some 116, none, .op (.mv (.tmp 1))⟩,
    ⟨some 117, none, .op (.bin .sub (.tmp 115) (.tmp 116))⟩,
    ⟨some 118, none, .op (.mv (.tmp 2))⟩,
    ⟨some 119, none, .op (.mv (.tmp 16))⟩,
    ⟨some 120, none, .op (.bin .sub (.tmp 118) (.tmp 119))⟩,
    ⟨some 18, none, .op (.mv (.tmp 117))⟩,
    ⟨some 19, none, .op (.mv (.tmp 120))⟩]
def c187_23 : C := .reg [⟨some 121, none, .op (.mv (.tmp 12))⟩,
    ⟨some 122, none, .op (.bin .quo (.tmp 121) (.const (.int .i64 8)))⟩,
    ⟨some 20, none, .op (.mv (.tmp 122))⟩]
def c187_24 : C := .reg [⟨some 123, none, .op (.mv (.tmp 18))⟩,
    ⟨some 124, none, .op (.mv (.tmp 19))⟩,
    ⟨some 125, none, .op (.bin .lss (.tmp 123) (.tmp 124))⟩]
def c187_25 : C := .reg [⟨some 126, none, .op (.mv (.tmp 18))⟩,
    ⟨some 127, none, .op (.mv (.tmp 20))⟩,
    ⟨some 128, none, .op (.bin .geq (.tmp 126) (.tmp 127))⟩,
    ⟨some 10, none, .op (.mv (.tmp 128))⟩]
def c187_26 : C := .reg [⟨some 129, none, .op (.mv (.tmp 0))⟩,
    ⟨some 130, none, .op (.mv (.tmp 1))⟩,
    ⟨some 131, none, .op (.mv (.tmp 16))⟩,
    ⟨some 132, none, .op (.mv (.tmp 3))⟩,
    ⟨some 133, none, .op (.mv (.tmp 4))⟩,
    ⟨some 134, none, .call 187 [.tmp 129, .tmp 130, .tmp 131, .tmp 132, .tmp 133]⟩]
def c187_27 : C := .reg [⟨some 135, none, .op (.mv (.tmp 16))⟩,
    ⟨some 136, none, .op (.bin .add (.tmp 135) (.const (.int .i64 1)))⟩,
    ⟨some 1, none, .op (.mv (.tmp 136))⟩]
def c187_28 : C := .reg [⟨some 137, none, .op (.mv (.tmp 19))⟩,
    ⟨some 138, none, .op (.mv (.tmp 20))⟩,
    ⟨some 139, none, .op (.bin .geq (.tmp 137) (.tmp 138))⟩,
    ⟨some 10, none, .op (.mv (.tmp 139))⟩]
def c187_29 : C := .reg [⟨some 140, none, .op (.mv (.tmp 0))⟩,
    ⟨some 141, none, .op (.mv (.tmp 16))⟩,
    ⟨some 142, none, .op (.bin .add (.tmp 141) (.const (.int .i64 1)))⟩,
    ⟨some 143, none, .op (.mv (.tmp 2))⟩,
    ⟨some 144, none, .op (.mv (.tmp 3))⟩,
    ⟨some 145, none, .op (.mv (.tmp 4))⟩,
    ⟨some 146, none, .call 187 [.tmp 140, .tmp 142, .tmp 143, .tmp 144, .tmp 145]⟩]
def c187_30 : C := .reg [⟨some 147, none, .op (.mv (.tmp 16))⟩,
    ⟨some 2, none, .op (.mv (.tmp 147))⟩]
def c187 : Fn' := ⟨(.seq c187_0 (.seq c187_1 (.block 0 (.loop (.block 1 (.seq c187_2 (.seq (.seq c187_3 (.cond (.tmp 25) (.seq c187_4 .ret) .skip)) (.seq (.seq c187_5 (.cond (.tmp 32) (.seq c187_6 .ret) .skip)) (.seq (.seq c187_7 (.cond (.tmp 39) (.seq c187_8 c187_9) .skip)) (.seq c187_10 (.seq (.seq c187_11 (.cond (.tmp 56) (.seq c187_12 (.seq c187_13 c187_14)) .skip)) (.seq (.seq c187_15 (.cond (.tmp 75) (.seq c187_16 (.cond (.tmp 80) .ret .skip)) .skip)) (.seq (.seq c187_17 (.cond (.tmp 97) (.seq c187_18 (.seq c187_19 (.exit 1))) .skip)) (.seq c187_20 (.seq c187_21 (.seq c187_22 (.seq c187_23 (.seq c187_24 (.cond (.tmp 125) (.seq c187_25 (.seq c187_26 c187_27)) (.seq c187_28 (.seq c187_29 c187_30))))))))))))))))))))), []⟩
theorem comp187 : compFn Tryz.prog 187 = some c187 := by kernel_rfl

def c188_0 : C := .reg [⟨some 2, none, .op (.mv (.const (.int .i64 0)))⟩]
def c188_1 : C := .reg [⟨some 3, none, .op (.mv (.tmp 0))⟩,
    ⟨some 4, none, .op (.conv .u32 (.tmp 3))⟩,
    ⟨some 5, none, .call 227 [.tmp 4]⟩,
    ⟨some 2, none, .op (.mv (.tmp 5))⟩]
def c188_2 : C := .reg [⟨some 6, none, .op (.mv (.tmp 0))⟩,
    ⟨some 7, none, .call 228 [.tmp 6]⟩,
    ⟨some 2, none, .op (.mv (.tmp 7))⟩]
def c188 : Fn' := ⟨(.seq c188_0 (.seq (.cond (.const (.bool false)) (.seq c188_1 .ret) .skip) (.seq c188_2 .ret))), [.tmp 2]⟩
theorem comp188 : compFn Tryz.prog 188 = some c188 := by kernel_rfl

def c189_0 : C := .reg [⟨some 2, none, .op (.mv (.const (.bool false)))⟩]
def c189_1 : C := .reg [⟨some 3, none, .op (.mv (.tmp 0))⟩,
    ⟨some 4, none, .op (.mv (.tmp 0))⟩,
    ⟨some 5, none, .op (.bin .neq (.tmp 3) (.tmp 4))⟩,
    ⟨some 2, none, .op (.mv (.tmp 5))⟩]
def c189 : Fn' := ⟨(.seq c189_0 (.seq c189_1 .ret)), [.tmp 2]⟩
theorem comp189 : compFn Tryz.prog 189 = some c189 := by kernel_rfl

def c190_0 : C := .reg [⟨some 4, none, .op (.mv (.const (.int .i64 0)))⟩]
def c190_1 : C := .reg [⟨some 6, none, .op (.mv (.tmp 0))⟩,
    ⟨some 7, none, .call 193 [.tmp 6]⟩,
    ⟨some 5, none, .op (.mv (.tmp 7))⟩]
def c190_2 : C := .reg [⟨some 4, none, .op (.mv (.const (.int .i64 1)))⟩]
def c190_3 : C := .reg [⟨some 9, none, .op (.mv (.tmp 1))⟩,
    ⟨some 10, none, .op (.bin .lss (.tmp 9) (.const (.int .i64 1)))⟩,
    ⟨some 11, none, .op (.mv (.tmp 10))⟩,
    ⟨some 12, (some (11, false)), .op (.mv (.tmp 1))⟩,
    ⟨some 13, (some (11, false)), .op (.mv (.tmp 0))⟩,
    ⟨some 14, (some (11, false)), .op (.nn (.tmp 13))⟩,
    ⟨some 15, (some (11, false)), .op (.fa 0 (.tmp 14))⟩,
    ⟨some 16, (some (11, false)), .op (.fa 2 (.tmp 15))⟩,
    ⟨some 17, (some (11, false)), .op (.ld none (.tmp 16))⟩,
    ⟨some 18, (some (11, false)), .op (.len (.tmp 17))⟩,
    ⟨some 19, (some (11, false)), .op (.bin .geq (.tmp 12) (.tmp 18))⟩,
    ⟨some 20, none, .op (.pick (.tmp 11) (.const (.bool true)) (.tmp 19))⟩,
    ⟨some 8, none, .op (.mv (.tmp 20))⟩]
def c190_4 : C := .reg [⟨some 4, none, .op (.mv (.const (.int .i64 2)))⟩]
def c190_5 : C := .reg [⟨some 4, none, .op (.mv (.const (.int .i64 0)))⟩]
def c190 : Fn' := ⟨(.seq c190_0 (.seq (.block 0 (.seq c190_1 (.cond (.tmp 5) (.seq c190_2 .ret) (.seq c190_3 (.cond (.tmp 8) (.seq c190_4 .ret) .skip))))) (.seq c190_5 .ret))), [.tmp 4]⟩
theorem comp190 : compFn Tryz.prog 190 = some c190 := by kernel_rfl

def c191_0 : C := .reg [⟨some 4, none, .op (.mv (.tmp 0))⟩,
    ⟨some 5, none, .op (.mv (.tmp 1))⟩,
    ⟨some 6, none, .inv (.tmp 4) [] [(224, 153, none), (250, 286, none)] [.tmp 5]⟩]
def c191_1 : C := .reg [⟨some 7, none, .op (.mv (.tmp 0))⟩,
    ⟨some 8, none, .op (.mv (.tmp 0))⟩,
    ⟨some 9, none, .inv (.tmp 8) [(249, 0), (250, 0)] [(17, 275, none), (52, 279, none), (224, 194, none), (245, 211, none), (246, 211, some none)] []⟩,
    ⟨some 10, none, .op (.bin .sub (.tmp 9) (.const (.int .i64 1)))⟩,
    ⟨some 11, none, .call 229 [.tmp 7, .tmp 10]⟩]
def c191 : Fn' := ⟨(.seq c191_0 c191_1), []⟩
theorem comp191 : compFn Tryz.prog 191 = some c191 := by kernel_rfl

def c192_0 : C := .reg [⟨some 8, none, .op (.mv (.const (.bool true)))⟩]
def c192_1 : C := .reg [⟨some 9, none, .op (.mv (.const (.bool true)))⟩]
def c192_2 : C := .reg [⟨some 19, none, .op (.mv (.tmp 2))⟩,
    ⟨some 20, none, .op (.mv (.tmp 1))⟩,
    ⟨some 21, none, .op (.bin .sub (.tmp 19) (.tmp 20))⟩,
    ⟨some 10, none, .op (.mv (.tmp 21))⟩]
def c192_3 : C := .reg [⟨some 22, none, .op (.mv (.tmp 10))⟩,
    ⟨some 23, none, .op (.bin .leq (.tmp 22) (.const (.int .i64 12)))⟩]
def c192_4 : C := .reg [⟨some 24, none, .op (.mv (.tmp 0))⟩,
    ⟨some 25, none, .op (.mv (.tmp 1))⟩,
    ⟨some 26, none, .op (.mv (.tmp 2))⟩,
    ⟨some 27, none, .call 230 [.tmp 24, .tmp 25, .tmp 26]⟩]
def c192_5 : C := .reg [⟨some 28, none, .op (.mv (.tmp 3))⟩,
    ⟨some 29, none, .op (.bin .eql (.tmp 28) (.const (.int .i64 0)))⟩]
def c192_6 : C := .reg [⟨some 30, none, .op (.mv (.tmp 0))⟩,
    ⟨some 31, none, .op (.mv (.tmp 1))⟩,
    ⟨some 32, none, .op (.mv (.tmp 2))⟩,
    ⟨some 33, none, .call 231 [.tmp 30, .tmp 31, .tmp 32]⟩]
def c192_7 : C := .reg [⟨some 34, none, .op (.mv (.tmp 8))⟩,
    ⟨some 35, none, .op (.un .not (.tmp 34))⟩]
def c192_8 : C := .reg [⟨some 36, none, .op (.mv (.tmp 0))⟩,
    ⟨some 37, none, .op (.mv (.tmp 1))⟩,
    ⟨some 38, none, .op (.mv (.tmp 2))⟩,
    ⟨some 39, none, .call 232 [.tmp 36, .tmp 37, .tmp 38]⟩]
def c192_9 : C := .reg [⟨some 40, none, .op (.mv (.tmp 3))⟩,
    ⟨some 41, none, .op (.bin .sub (.tmp 40) (.const (.int .i64 1)))⟩,
    ⟨some 3, none, .op (.mv (.tmp 41))⟩]
def c192_10 : C := .reg [⟨some 43, none, .op (.mv (.tmp 0))⟩,
    ⟨some 44, none, .op (.mv (.tmp 1))⟩,
    ⟨some 45, none, .op (.mv (.tmp 2))⟩,
    ⟨some 46, none, .call 233 [.tmp 43, .tmp 44, .tmp 45]⟩,
    ⟨some 42, none, .op (.mv (.tmp 46))⟩,
    ⟨some 47, none, .op (.ext (.tmp 42) 0)⟩,
    ⟨some 48, none, .op (.ext (.tmp 42) 1)⟩,
    ⟨some 11, none, .op (.mv (.tmp 47))⟩,
    ⟨some 12, none, .op (.mv (.tmp 48))⟩]
def c192_11 : C := .reg [⟨some 49, none, .op (.mv (.tmp 12))⟩,
    ⟨some 50, none, .op (.bin .eql (.tmp 49) (.const (.int .i64 2)))⟩]
def c192_12 : C := .reg [⟨some 51, none, .op (.mv (.tmp 0))⟩,
    ⟨some 52, none, .op (.mv (.tmp 1))⟩,
    ⟨some 53, none, .op (.mv (.tmp 2))⟩,
    ⟨some 54, none, .call 234 [.tmp 51, .tmp 52, .tmp 53]⟩]
def c192_13 : C := .reg [⟨some 55, none, .op (.mv (.tmp 2))⟩,
    ⟨some 56, none, .op (.bin .sub (.tmp 55) (.const (.int .i64 1)))⟩,
    ⟨some 57, none, .op (.mv (.tmp 11))⟩,
    ⟨some 58, none, .op (.mv (.tmp 1))⟩,
    ⟨some 59, none, .op (.bin .sub (.tmp 57) (.tmp 58))⟩,
    ⟨some 60, none, .op (.bin .sub (.tmp 56) (.tmp 59))⟩,
    ⟨some 11, none, .op (.mv (.tmp 60))⟩]
def c192_14 : C := .reg [⟨some 12, none, .op (.mv (.const (.int .i64 1)))⟩]
def c192_15 : C := .reg [⟨some 61, none, .op (.mv (.tmp 8))⟩,
    ⟨some 62, none, .op (.mv (.tmp 61))⟩,
    ⟨some 63, (some (62, true)), .op (.mv (.tmp 9))⟩,
    ⟨some 64, none, .op (.pick (.tmp 62) (.tmp 63) (.const (.bool false)))⟩,
    ⟨some 65, none, .op (.mv (.tmp 64))⟩,
    ⟨some 66, (some (65, true)), .op (.mv (.tmp 12))⟩,
    ⟨some 67, (some (65, true)), .op (.bin .eql (.tmp 66) (.const (.int .i64 1)))⟩,
    ⟨some 68, none, .op (.pick (.tmp 65) (.tmp 67) (.const (.bool false)))⟩]
def c192_16 : C := .reg [⟨some 69, none, .op (.mv (.tmp 0))⟩,
    ⟨some 70, none, .op (.mv (.tmp 1))⟩,
    ⟨some 71, none, .op (.mv (.tmp 2))⟩,
    ⟨some 72, none, .call 235 [.tmp 69, .tmp 70, .tmp 71]⟩]
def c192_17 : C := .regD 0 [⟨0, ⟨some 73, none, .op (.mv (.tmp 1))⟩, none, []⟩,
    ⟨1, ⟨some 74, none, .op (.bin .gtr (.tmp 73) (.const (.int .i64 0)))⟩, none, []⟩,
    ⟨2, ⟨some 75, none, .op (.mv (.tmp 74))⟩, none, []⟩,
    ⟨3, ⟨some 76, (some (75, true)), .op (.mv (.tmp 0))⟩, none, []⟩,
    ⟨4, ⟨some 77, (some (75, true)), .op (.mv (.tmp 1))⟩, none, []⟩,
    ⟨5, ⟨some 78, (some (75, true)), .op (.bin .sub (.tmp 77) (.const (.int .i64 1)))⟩, none, []⟩,
    ⟨6, ⟨some 79, (some (75, true)), .op (.ia 1 (.tmp 76) (.tmp 78))⟩, none, []⟩,
    ⟨7, ⟨some 80, (some (75, true)), .op (.ld none (.tmp 79))⟩, none, []⟩,
    ⟨8, ⟨some 81, (some (75, true)), .op (.mv (.tmp 0))⟩, none, []⟩,
    ⟨9, ⟨some 82, (some (75, true)), .op (.mv (.tmp 11))⟩, none, []⟩,
    ⟨10, ⟨some 83, (some (75, true)), .op (.ia 1 (.tmp 81) (.tmp 82))⟩, none, []⟩,
    ⟨11, ⟨some 84, (some (75, true)), .op (.ld none (.tmp 83))⟩, none, []⟩,
    ⟨12, ⟨some 85, (some (75, true)), .call 236 [.tmp 80, .tmp 84]⟩, none, []⟩,
    ⟨13, ⟨some 86, (some (75, true)), .op (.un .not (.tmp 85))⟩, none, []⟩,
    ⟨14, ⟨some 87, none, .op (.pick (.tmp 75) (.tmp 86) (.const (.bool false)))⟩, none, []⟩]
def c192_18 : C := .reg [⟨some 88, none, .op (.mv (.tmp 0))⟩,
    ⟨some 89, none, .op (.mv (.tmp 1))⟩,
    ⟨some 90, none, .op (.mv (.tmp 2))⟩,
    ⟨some 91, none, .op (.mv (.tmp 11))⟩,
    ⟨some 92, none, .call 237 [.tmp 88, .tmp 89, .tmp 90, .tmp 91]⟩,
    ⟨some 13, none, .op (.mv (.tmp 92))⟩]
def c192_19 : C := .reg [⟨some 93, none, .op (.mv (.tmp 13))⟩,
    ⟨some 1, none, .op (.mv (.tmp 93))⟩]
def c192_20 : C := .reg [⟨some 95, none, .op (.mv (.tmp 0))⟩,
    ⟨some 96, none, .op (.mv (.tmp 1))⟩,
    ⟨some 97, none, .op (.mv (.tmp 2))⟩,
    ⟨some 98, none, .op (.mv (.tmp 11))⟩,
    ⟨some 99, none, .call 238 [.tmp 95, .tmp 96, .tmp 97, .tmp 98]⟩,
    ⟨some 94, none, .op (.mv (.tmp 99))⟩,
    ⟨some 100, none, .op (.ext (.tmp 94) 0)⟩,
    ⟨some 101, none, .op (.ext (.tmp 94) 1)⟩,
    ⟨some 14, none, .op (.mv (.tmp 100))⟩,
    ⟨some 15, none, .op (.mv (.tmp 101))⟩]
def c192_21 : C := .reg [⟨some 102, none, .op (.mv (.tmp 15))⟩,
    ⟨some 9, none, .op (.mv (.tmp 102))⟩]
def c192_22 : C := .reg [⟨some 103, none, .op (.mv (.tmp 14))⟩,
    ⟨some 104, none, .op (.mv (.tmp 1))⟩,
    ⟨some 105, none, .op (.bin .sub (.tmp 103) (.tmp 104))⟩,
    ⟨some 106, none, .op (.mv (.tmp 2))⟩,
    ⟨some 107, none, .op (.mv (.tmp 14))⟩,
    ⟨some 108, none, .op (.bin .sub (.tmp 106) (.tmp 107))⟩,
    ⟨some 16, none, .op (.mv (.tmp 105))⟩,
    ⟨some 17, none, .op (.mv (.tmp 108))⟩]
def c192_23 : C := .reg [⟨some 109, none, .op (.mv (.tmp 10))⟩,
    ⟨some 110, none, .op (.bin .quo (.tmp 109) (.const (.int .i64 8)))⟩,
    ⟨some 18, none, .op (.mv (.tmp 110))⟩]
def c192_24 : C := .reg [⟨some 111, none, .op (.mv (.tmp 16))⟩,
    ⟨some 112, none, .op (.mv (.tmp 17))⟩,
    ⟨some 113, none, .op (.bin .lss (.tmp 111) (.tmp 112))⟩]
def c192_25 : C := .reg [⟨some 114, none, .op (.mv (.tmp 16))⟩,
    ⟨some 115, none, .op (.mv (.tmp 18))⟩,
    ⟨some 116, none, .op (.bin .geq (.tmp 114) (.tmp 115))⟩,
    ⟨some 8, none, .op (.mv (.tmp 116))⟩]
def c192_26 : C := .reg [⟨some 117, none, .op (.mv (.tmp 0))⟩,
    ⟨some 118, none, .op (.mv (.tmp 1))⟩,
    ⟨some 119, none, .op (.mv (.tmp 14))⟩,
    ⟨some 120, none, .op (.mv (.tmp 3))⟩,
    ⟨some 121, none, .call 192 [.tmp 117, .tmp 118, .tmp 119, .tmp 120]⟩]
def c192_27 : C := .reg [⟨some 122, none, .op (.mv (.tmp 14))⟩,
    ⟨some 123, none, .op (.bin .add (.tmp 122) (.const (.int .i64 1)))⟩,
    ⟨some 1, none, .op (.mv (.tmp 123))⟩]
def c192_28 : C := .reg [⟨some 124, none, .op (.mv (.tmp 17))⟩,
    ⟨some 125, none, .op (.mv (.tmp 18))⟩,
    ⟨some 126, none, .op (.bin .geq (.tmp 124) (.tmp 125))⟩,
    ⟨some 8, none, .op (.mv (.tmp 126))⟩]
def c192_29 : C := .reg [⟨some 127, none, .op (.mv (.tmp 0))⟩,
    ⟨some 128, none, .op (.mv (.tmp 14))⟩,
    ⟨some 129, none, .op (.bin .add (.tmp 128) (.const (.int .i64 1)))⟩,
    ⟨some 130, none, .op (.mv (.tmp 2))⟩,
    ⟨some 131, none, .op (.mv (.tmp 3))⟩,
    ⟨some 132, none, .call 192 [.tmp 127, .tmp 129, .tmp 130, .tmp 131]⟩]
def c192_30 : C := .reg [⟨some 133, none, .op (.mv (.tmp 14))⟩,
    ⟨some 2, none, .op (.mv (.tmp 133))⟩]
def c192 : Fn' := ⟨(.seq c192_0 (.seq c192_1 (.block 0 (.loop (.block 1 (.seq c192_2 (.seq (.seq c192_3 (.cond (.tmp 23) (.seq c192_4 .ret) .skip)) (.seq (.seq c192_5 (.cond (.tmp 29) (.seq c192_6 .ret) .skip)) (.seq (.seq c192_7 (.cond (.tmp 35) (.seq c192_8 c192_9) .skip)) (.seq c192_10 (.seq (.seq c192_11 (.cond (.tmp 50) (.seq c192_12 (.seq c192_13 c192_14)) .skip)) (.seq (.seq c192_15 (.cond (.tmp 68) (.seq c192_16 (.cond (.tmp 72) .ret .skip)) .skip)) (.seq (.seq c192_17 (.cond (.tmp 87) (.seq c192_18 (.seq c192_19 (.exit 1))) .skip)) (.seq c192_20 (.seq c192_21 (.seq c192_22 (.seq c192_23 (.seq c192_24 (.cond (.tmp 113) (.seq c192_25 (.seq c192_26 c192_27)) (.seq c192_28 (.seq c192_29 c192_30))))))))))))))))))))), []⟩
theorem comp192 : compFn Tryz.prog 192 = some c192 := by kernel_rfl

def c193_0 : C := .reg [⟨some 2, none, .op (.mv (.const (.bool false)))⟩]
def c193_1 : C := .reg [⟨some 3, none, .op (.mv (.tmp 0))⟩,
    ⟨some 4, none, .op (.nil 0 false (.tmp 3) (.const (.pointer none)))⟩,
    ⟨some 5, none, .op (.mv (.tmp 4))⟩,
    ⟨some 6, (some (5, false)), .op (.mv (.tmp 0))⟩,
    ⟨some 7, (some (5, false)), .op (.nn (.tmp 6))⟩,
    ⟨some 8, (some (5, false)), .op (.fa 3 (.tmp 7))⟩,
    ⟨some 9, (some (5, false)), .op (.ld none (.tmp 8))⟩,
    ⟨some 10, (some (5, false)), .op (.bin .eql (.tmp 9) (.const (.int .u64 0)))⟩,
    ⟨some 11, none, .op (.pick (.tmp 5) (.const (.bool true)) (.tmp 10))⟩,
    ⟨some 2, none, .op (.mv (.tmp 11))⟩]
def c193 : Fn' := ⟨(.seq c193_0 (.seq c193_1 .ret)), [.tmp 2]⟩
theorem comp193 : compFn Tryz.prog 193 = some c193 := by kernel_rfl

def c194_0 : C := .reg [⟨some 2, none, .op (.mv (.const (.int .i64 0)))⟩]
def c194_1 : C := .reg [⟨some 3, none, .op (.mv (.tmp 0))⟩,
    ⟨some 4, none, .op (.nn (.tmp 3))⟩,
    ⟨some 5, none, .op (.fa 0 (.tmp 4))⟩,
    ⟨some 6, none, .op (.ld none (.tmp 5))⟩,
    ⟨some 7, none, .op (.len (.tmp 6))⟩,
    ⟨some 2, none, .op (.mv (.tmp 7))⟩]
def c194 : Fn' := ⟨(.seq c194_0 (.seq c194_1 .ret)), [.tmp 2]⟩
theorem comp194 : compFn Tryz.prog 194 = some c194 := by kernel_rfl

def c195_0 : C := .reg [⟨some 2, none, .op (.mv (.const (.nilIface)))⟩]
def c195_1 : C := .reg [⟨some 4, none, .op (.mv (.tmp 0))⟩,
    ⟨some 5, none, .inv (.tmp 4) [(249, 0), (250, 0)] [(17, 275, none), (52, 279, none), (224, 194, none), (245, 211, none), (246, 211, some none)] []⟩,
    ⟨some 6, none, .op (.bin .sub (.tmp 5) (.const (.int .i64 1)))⟩,
    ⟨some 3, none, .op (.mv (.tmp 6))⟩]
def c195_2 : C := .reg [⟨some 7, none, .op (.mv (.tmp 0))⟩,
    ⟨some 8, none, .op (.mv (.tmp 3))⟩,
    ⟨some 9, none, .inv (.tmp 7) [(249, 0), (250, 0)] [(224, 282, none), (245, 284, none), (246, 284, some none)] [.const (.int .i64 0), .tmp 8]⟩]
def c195_3 : C := .reg [⟨some 10, none, .op (.mv (.tmp 0))⟩,
    ⟨some 11, none, .op (.mv (.tmp 3))⟩,
    ⟨some 12, none, .call 239 [.tmp 10, .const (.int .i64 0), .tmp 11]⟩]
def c195_4 : C := .reg [⟨some 13, none, .op (.mv (.tmp 0))⟩,
    ⟨some 14, none, .inv (.tmp 13) [] [(224, 281, none), (250, 285, none)] []⟩,
    ⟨some 2, none, .op (.mv (.tmp 14))⟩]
def c195 : Fn' := ⟨(.seq c195_0 (.seq c195_1 (.seq c195_2 (.seq c195_3 (.seq c195_4 .ret))))), [.tmp 2]⟩
theorem comp195 : compFn Tryz.prog 195 = some c195 := by kernel_rfl

def c196_0 : C := .reg [⟨some 3, none, .op (.mv (.tmp 0))⟩,
    ⟨some 4, none, .op (.nn (.tmp 3))⟩,
    ⟨some 5, none, .op (.fa 0 (.tmp 4))⟩,
    ⟨some 6, none, .op (.fa 2 (.tmp 5))⟩,
    ⟨some 7, none, .op (.ld none (.tmp 6))⟩,
    ⟨some 8, none, .op (.len (.tmp 7))⟩,
    ⟨some 9, none, .op (.mv (.const (.int .i64 0)))⟩]
def c196_1 : C := .reg [⟨some 10, none, .op (.bin .lss (.tmp 9) (.tmp 8))⟩]
def c196_2 : C := .reg [⟨some 11, none, .op (.mv (.tmp 9))⟩,
    ⟨some 2, none, .op (.mv (.tmp 11))⟩]
def c196_3 : C := .reg [⟨some 12, none, .op (.mv (.tmp 0))⟩,
    ⟨some 13, none, .op (.nn (.tmp 12))⟩,
    ⟨some 14, none, .op (.fa 0 (.tmp 13))⟩,
    ⟨some 15, none, .op (.fa 2 (.tmp 14))⟩,
    ⟨some 16, none, .op (.ld none (.tmp 15))⟩,
    ⟨some 17, none, .op (.mv (.tmp 2))⟩,
    ⟨some 18, none, .op (.ia 1 (.tmp 16) (.tmp 17))⟩,
    ⟨some 19, none, .op (.ld none (.tmp 18))⟩,
    ⟨some 20, none, .op (.bin .shr (.tmp 19) (.const (.int .u64 24)))⟩,
    ⟨some 21, none, .op (.ia 1 (.tmp 16) (.tmp 17))⟩,
    ⟨none, none, .op (.st 1 (.tmp 21) (.tmp 20))⟩]
def c196_4 : C := .reg [⟨some 22, none, .op (.bin .add (.tmp 9) (.const (.int .i64 1)))⟩,
    ⟨some 9, none, .op (.mv (.tmp 22))⟩]
def c196_5 : C := .reg [⟨some 23, none, .op (.mv (.tmp 0))⟩,
    ⟨some 24, none, .op (.mv (.tmp 0))⟩,
    ⟨some 25, none, .op (.nn (.tmp 24))⟩,
    ⟨some 26, none, .op (.fa 3 (.tmp 25))⟩,
    ⟨some 27, none, .op (.ld none (.tmp 26))⟩,
    ⟨some 28, none, .op (.bin .shr (.tmp 27) (.const (.int .u64 24)))⟩,
    ⟨some 29, none, .op (.mm true (.tmp 28) [.const (.int .u64 1)])⟩,
    ⟨some 30, none, .op (.nn (.tmp 23))⟩,
    ⟨some 31, none, .op (.fa 3 (.tmp 30))⟩,
    ⟨none, none, .op (.st 1 (.tmp 31) (.tmp 29))⟩]
def c196_6 : C := .reg [⟨some 32, none, .op (.mv (.tmp 0))⟩,
    ⟨some 33, none, .op (.nn (.tmp 32))⟩,
    ⟨some 34, none, .op (.fa 0 (.tmp 33))⟩,
    ⟨some 35, none, .op (.ifc 224 (.tmp 34))⟩,
    ⟨some 36, none, .call 240 [.tmp 35]⟩]
def c196 : Fn' := ⟨(.seq (.seq c196_0 (.block 0 (.loop (.seq c196_1 (.seq (.cond (.tmp 10) .skip (.exit 0)) (.seq (.block 1 (.seq c196_2 c196_3)) c196_4)))))) (.seq c196_5 c196_6)), []⟩
theorem comp196 : compFn Tryz.prog 196 = some c196 := by kernel_rfl

def c197_0 : C := .reg [⟨some 4, none, .op (.mv (.tmp 0))⟩,
    ⟨some 5, none, .op (.mv (.tmp 1))⟩,
    ⟨some 6, none, .op (.mv (.tmp 0))⟩,
    ⟨some 7, none, .inv (.tmp 6) [(249, 0), (250, 0)] [(17, 275, none), (52, 279, none), (224, 194, none), (245, 211, none), (246, 211, some none)] []⟩,
    ⟨some 8, none, .call 239 [.tmp 4, .tmp 5, .tmp 7]⟩,
    ⟨some 9, none, .op (.un .not (.tmp 8))⟩]
def c197_1 : C := .reg [⟨some 10, none, .op (.mv (.tmp 0))⟩,
    ⟨some 11, none, .op (.mv (.tmp 1))⟩,
    ⟨some 12, none, .call 229 [.tmp 10, .tmp 11]⟩]
def c197 : Fn' := ⟨(.seq c197_0 (.cond (.tmp 9) c197_1 .skip)), []⟩
theorem comp197 : compFn Tryz.prog 197 = some c197 := by kernel_rfl

def c211_0 : C := .reg [⟨some 2, none, .op (.mv (.const (.int .i64 0)))⟩]
def c211_1 : C := .reg [⟨some 3, none, .op (.mv (.tmp 0))⟩,
    ⟨some 4, none, .op (.len (.tmp 3))⟩,
    ⟨some 2, none, .op (.mv (.tmp 4))⟩]
def c211 : Fn' := ⟨(.seq c211_0 (.seq c211_1 .ret)), [.tmp 2]⟩
theorem comp211 : compFn Tryz.prog 211 = some c211 := by kernel_rfl

def c219_0 : C := .reg [⟨some 10, none, .op (.mv (.tmp 1))⟩,
    ⟨some 11, none, .op (.bin .add (.tmp 10) (.const (.int .i64 1)))⟩,
    ⟨some 8, none, .op (.mv (.tmp 11))⟩]
def c219_1 : C := .reg [⟨some 12, none, .op (.mv (.tmp 8))⟩,
    ⟨some 13, none, .op (.mv (.tmp 2))⟩,
    ⟨some 14, none, .op (.bin .lss (.tmp 12) (.tmp 13))⟩]
def c219_2 : C := .reg [⟨some 17, none, .op (.mv (.tmp 8))⟩,
    ⟨some 9, none, .op (.mv (.tmp 17))⟩]
def c219_3 : C := .regD 0 [⟨0, ⟨some 18, none, .op (.mv (.tmp 9))⟩, none, []⟩,
    ⟨1, ⟨some 19, none, .op (.mv (.tmp 1))⟩, none, []⟩,
    ⟨2, ⟨some 20, none, .op (.bin .gtr (.tmp 18) (.tmp 19))⟩, none, []⟩,
    ⟨3, ⟨some 21, none, .op (.mv (.tmp 20))⟩, none, []⟩,
    ⟨4, ⟨some 22, (some (21, true)), .op (.mv (.tmp 3))⟩, none, []⟩,
    ⟨5, ⟨some 23, (some (21, true)), .op (.mv (.tmp 0))⟩, none, []⟩,
    ⟨6, ⟨some 24, (some (21, true)), .op (.mv (.tmp 9))⟩, none, []⟩,
    ⟨7, ⟨some 25, (some (21, true)), .op (.ia 1 (.tmp 23) (.tmp 24))⟩, none, []⟩,
    ⟨8, ⟨some 26, (some (21, true)), .op (.ld none (.tmp 25))⟩, none, []⟩,
    ⟨9, ⟨some 27, (some (21, true)), .op (.mv (.tmp 0))⟩, none, []⟩,
    ⟨10, ⟨some 28, (some (21, true)), .op (.mv (.tmp 9))⟩, none, []⟩,
    ⟨11, ⟨some 29, (some (21, true)), .op (.bin .sub (.tmp 28) (.const (.int .i64 1)))⟩, none, []⟩,
    ⟨12, ⟨some 30, (some (21, true)), .op (.ia 1 (.tmp 27) (.tmp 29))⟩, none, []⟩,
    ⟨13, ⟨some 31, (some (21, true)), .op (.ld none (.tmp 30))⟩, none, []⟩,
    ⟨14, ⟨some 32, (some (21, true)), .callv (.tmp 22) [.tmp 26, .tmp 31]⟩, none, []⟩,
    ⟨15, ⟨some 33, (some (21, true)), .op (.bin .lss (.tmp 32) (.const (.int .i64 0)))⟩, none, []⟩,
    ⟨16, ⟨some 34, none, .op (.pick (.tmp 21) (.tmp 33) (.const (.bool false)))⟩, none, []⟩]
def c219_4 : C := .regD 0 [⟨0, ⟨some 37, none, .op (.mv (.tmp 0))⟩, none, []⟩,
    ⟨1, ⟨some 38, none, .op (.mv (.tmp 9))⟩, none, []⟩,
    ⟨2, ⟨some 39, none, .op (.mv (.tmp 0))⟩, none, []⟩,
    ⟨3, ⟨some 40, none, .op (.mv (.tmp 9))⟩, none, []⟩,
    ⟨4, ⟨some 41, none, .op (.bin .sub (.tmp 40) (.const (.int .i64 1)))⟩, none, []⟩,
    ⟨5, ⟨some 42, none, .op (.mv (.tmp 0))⟩, none, []⟩,
    ⟨6, ⟨some 43, none, .op (.mv (.tmp 9))⟩, none, []⟩,
    ⟨7, ⟨some 44, none, .op (.bin .sub (.tmp 43) (.const (.int .i64 1)))⟩, none, []⟩,
    ⟨8, ⟨some 45, none, .op (.ia 1 (.tmp 42) (.tmp 44))⟩, none, []⟩,
    ⟨9, ⟨some 46, none, .op (.ld none (.tmp 45))⟩, none, []⟩,
    ⟨10, ⟨some 47, none, .op (.mv (.tmp 0))⟩, none, []⟩,
    ⟨11, ⟨some 48, none, .op (.mv (.tmp 9))⟩, none, []⟩,
    ⟨12, ⟨some 49, none, .op (.ia 1 (.tmp 47) (.tmp 48))⟩, none, []⟩,
    ⟨13, ⟨some 50, none, .op (.ld none (.tmp 49))⟩, none, []⟩,
    ⟨14, ⟨some 51, none, .op (.ia 1 (.tmp 37) (.tmp 38))⟩, none, []⟩,
    ⟨15, ⟨none, none, .op (.st 1 (.tmp 51) (.tmp 46))⟩, none, []⟩,
    ⟨16, ⟨some 52, none, .op (.ia 1 (.tmp 39) (.tmp 41))⟩, none, []⟩,
    ⟨17, ⟨none, none, .op (.st 1 (.tmp 52) (.tmp 50))⟩, none, []⟩]
def c219_5 : C := .reg [⟨some 35, none, .op (.mv (.tmp 9))⟩,
    ⟨some 36, none, .op (.bin .sub (.tmp 35) (.const (.int .i64 1)))⟩,
    ⟨some 9, none, .op (.mv (.tmp 36))⟩]
def c219_6 : C := .reg [⟨some 15, none, .op (.mv (.tmp 8))⟩,
    ⟨some 16, none, .op (.bin .add (.tmp 15) (.const (.int .i64 1)))⟩,
    ⟨some 8, none, .op (.mv (.tmp 16))⟩]
def c219 : Fn' := ⟨(.seq c219_0 (.block 0 (.loop (.seq (.seq c219_1 (.cond (.tmp 14) .skip (.exit 0))) (.seq (.block 1 (.seq c219_2 (.block 2 (.loop (.seq (.seq c219_3 (.cond (.tmp 34) .skip (.exit 2))) (.seq (.block 3 c219_4) c219_5)))))) c219_6))))), []⟩
theorem comp219 : compFn Tryz.prog 219 = some c219 := by kernel_rfl

def c220_0 : C := .reg [⟨some 13, none, .op (.mv (.tmp 1))⟩,
    ⟨some 8, none, .op (.mv (.tmp 13))⟩]
def c220_1 : C := .reg [⟨some 9, none, .op (.mv (.const (.int .i64 0)))⟩]
def c220_2 : C := .reg [⟨some 14, none, .op (.mv (.tmp 2))⟩,
    ⟨some 15, none, .op (.mv (.tmp 1))⟩,
    ⟨some 16, none, .op (.bin .sub (.tmp 14) (.tmp 15))⟩,
    ⟨some 10, none, .op (.mv (.tmp 16))⟩]
def c220_3 : C := .reg [⟨some 17, none, .op (.mv (.tmp 10))⟩,
    ⟨some 18, none, .op (.bin .sub (.tmp 17) (.const (.int .i64 1)))⟩,
    ⟨some 19, none, .op (.bin .quo (.tmp 18) (.const (.int .i64 2)))⟩,
    ⟨some 11, none, .op (.mv (.tmp 19))⟩]
def c220_4 : C := .reg [⟨some 20, none, .op (.mv (.tmp 11))⟩,
    ⟨some 21, none, .op (.bin .geq (.tmp 20) (.const (.int .i64 0)))⟩]
def c220_5 : C := .reg [⟨some 24, none, .op (.mv (.tmp 0))⟩,
    ⟨some 25, none, .op (.mv (.tmp 11))⟩,
    ⟨some 26, none, .op (.mv (.tmp 10))⟩,
    ⟨some 27, none, .op (.mv (.tmp 8))⟩,
    ⟨some 28, none, .op (.mv (.tmp 3))⟩,
    ⟨some 29, none, .call 250 [.tmp 24, .tmp 25, .tmp 26, .tmp 27, .tmp 28]⟩]
def c220_6 : C := .reg [⟨some 22, none, .op (.mv (.tmp 11))⟩,
    ⟨some 23, none, .op (.bin .sub (.tmp 22) (.const (.int .i64 1)))⟩,
    ⟨some 11, none, .op (.mv (.tmp 23))⟩]
def c220_7 : C := .reg [⟨some 30, none, .op (.mv (.tmp 10))⟩,
    ⟨some 31, none, .op (.bin .sub (.tmp 30) (.const (.int .i64 1)))⟩,
    ⟨some 12, none, .op (.mv (.tmp 31))⟩]
def c220_8 : C := .reg [⟨some 32, none, .op (.mv (.tmp 12))⟩,
    ⟨some 33, none, .op (.bin .geq (.tmp 32) (.const (.int .i64 0)))⟩]
def c220_9 : C := .regD 0 [⟨0, ⟨some 36, none, .op (.mv (.tmp 0))⟩, none, []⟩,
    ⟨1, ⟨some 37, none, .op (.mv (.tmp 8))⟩, none, []⟩,
    ⟨2, ⟨some 38, none, .op (.mv (.tmp 0))⟩, none, []⟩,
    ⟨3, ⟨some 39, none, .op (.mv (.tmp 8))⟩, none, []⟩,
    ⟨4, ⟨some 40, none, .op (.mv (.tmp 12))⟩, none, []⟩,
    ⟨5, ⟨some 41, none, .op (.bin .add (.tmp 39) (.tmp 40))⟩, none, []⟩,
    ⟨6, ⟨some 42, none, .op (.mv (.tmp 0))⟩, none, []⟩,
    ⟨7, ⟨some 43, none, .op (.mv (.tmp 8))⟩, none, []⟩,
    ⟨8, ⟨some 44, none, .op (.mv (.tmp 12))⟩, none, []⟩,
    ⟨9, ⟨some 45, none, .op (.bin .add (.tmp 43) (.tmp 44))⟩, none, []⟩,
    ⟨10, ⟨some 46, none, .op (.ia 1 (.tmp 42) (.tmp 45))⟩, none, []⟩,
    ⟨11, ⟨some 47, none, .op (.ld none (.tmp 46))⟩, none, []⟩,
    ⟨12, ⟨some 48, none, .op (.mv (.tmp 0))⟩, none, []⟩,
    ⟨13, ⟨some 49, none, .op (.mv (.tmp 8))⟩, none, []⟩,
    ⟨14, ⟨some 50, none, .op (.ia 1 (.tmp 48) (.tmp 49))⟩, none, []⟩,
    ⟨15, ⟨some 51, none, .op (.ld none (.tmp 50))⟩, none, []⟩,
    ⟨16, ⟨some 52, none, .op (.ia 1 (.tmp 36) (.tmp 37))⟩, none, []⟩,
    ⟨17, ⟨none, none, .op (.st 1 (.tmp 52) (.tmp 47))⟩, none, []⟩,
    ⟨18, ⟨some 53, none, .op (.ia 1 (.tmp 38) (.tmp 41))⟩, none, []⟩,
    ⟨19, ⟨none, none, .op (.st 1 (.tmp 53) (.tmp 51))⟩, none, []⟩]
def c220_10 : C := .reg [⟨some 54, none, .op (.mv (.tmp 0))⟩,
    ⟨some 55, none, .op (.mv (.tmp 9))⟩,
    ⟨some 56, none, .op (.mv (.tmp 12))⟩,
    ⟨some 57, none, .op (.mv (.tmp 8))⟩,
    ⟨some 58, none, .op (.mv (.tmp 3))⟩,
    ⟨some 59, none, .call 250 [.tmp 54, .tmp 55, .tmp 56, .tmp 57, .tmp 58]⟩]
def c220_11 : C := .reg [⟨some 34, none, .op (.mv (.tmp 12))⟩,
    ⟨some 35, none, .op (.bin .sub (.tmp 34) (.const (.int .i64 1)))⟩,
    ⟨some 12, none, .op (.mv (.tmp 35))⟩]
def c220 : Fn' := ⟨(.seq c220_0 (.seq c220_1 (.seq c220_2 (.seq (.seq c220_3 (.block 0 (.loop (.seq (.seq c220_4 (.cond (.tmp 21) .skip (.exit 0))) (.seq (.block 1 c220_5) c220_6))))) (.seq c220_7 (.block 2 (.loop (.seq (.seq c220_8 (.cond (.tmp 33) .skip (.exit 2))) (.seq (.block 3 (.seq c220_9 c220_10)) c220_11))))))))), []⟩
theorem comp220 : compFn Tryz.prog 220 = some c220 := by kernel_rfl

def c221_0 : C := .reg [⟨some 13, none, .op (.mv (.tmp 2))⟩,
    ⟨some 14, none, .op (.mv (.tmp 1))⟩,
    ⟨some 15, none, .op (.bin .sub (.tmp 13) (.tmp 14))⟩,
    ⟨some 8, none, .op (.mv (.tmp 15))⟩]
def c221_1 : C := .reg [⟨some 16, none, .op (.mv (.tmp 8))⟩,
    ⟨some 17, none, .op (.bin .geq (.tmp 16) (.const (.int .i64 8)))⟩]
def c221_2 : C := .reg [⟨some 18, none, .op (.mv (.tmp 8))⟩,
    ⟨some 19, none, .op (.conv .u64 (.tmp 18))⟩,
    ⟨some 9, none, .op (.new [(.int .u64 0)])⟩,
    ⟨none, none, .op (.st 1 (.tmp 9) (.tmp 19))⟩]
def c221_3 : C := .reg [⟨some 20, none, .op (.mv (.tmp 8))⟩,
    ⟨some 21, none, .call 251 [.tmp 20]⟩,
    ⟨some 10, none, .op (.mv (.tmp 21))⟩]
def c221_4 : C := .reg [⟨some 22, none, .op (.mv (.tmp 1))⟩,
    ⟨some 23, none, .op (.mv (.tmp 8))⟩,
    ⟨some 24, none, .op (.bin .quo (.tmp 23) (.const (.int .i64 4)))⟩,
    ⟨some 25, none, .op (.bin .mul (.tmp 24) (.const (.int .i64 2)))⟩,
    ⟨some 26, none, .op (.bin .add (.tmp 22) (.tmp 25))⟩,
    ⟨some 27, none, .op (.bin .sub (.tmp 26) (.const (.int .i64 1)))⟩,
    ⟨some 11, none, .op (.mv (.tmp 27))⟩]
def c221_5 : C := .reg [⟨some 28, none, .op (.mv (.tmp 11))⟩,
    ⟨some 29, none, .op (.mv (.tmp 1))⟩,
    ⟨some 30, none, .op (.mv (.tmp 8))⟩,
    ⟨some 31, none, .op (.bin .quo (.tmp 30) (.const (.int .i64 4)))⟩,
    ⟨some 32, none, .op (.bin .mul (.tmp 31) (.const (.int .i64 2)))⟩,
    ⟨some 33, none, .op (.bin .add (.tmp 29) (.tmp 32))⟩,
    ⟨some 34, none, .op (.bin .add (.tmp 33) (.const (.int .i64 1)))⟩,
    ⟨some 35, none, .op (.bin .leq (.tmp 28) (.tmp 34))⟩]
def c221_6 : C := .reg [⟨some 38, none, .call 252 [.tmp 9]⟩,
    ⟨some 39, none, .op (.mv (.tmp 10))⟩,
    ⟨some 40, none, .op (.bin .sub (.tmp 39) (.const (.int .u64 1)))⟩,
    ⟨some 41, none, .op (.bin .and (.tmp 38) (.tmp 40))⟩,
    ⟨some 42, none, .op (.conv .i64 (.tmp 41))⟩,
    ⟨some 12, none, .op (.mv (.tmp 42))⟩]
def c221_7 : C := .reg [⟨some 43, none, .op (.mv (.tmp 12))⟩,
    ⟨some 44, none, .op (.mv (.tmp 8))⟩,
    ⟨some 45, none, .op (.bin .geq (.tmp 43) (.tmp 44))⟩]
def c221_8 : C := .reg [⟨some 46, none, .op (.mv (.tmp 12))⟩,
    ⟨some 47, none, .op (.mv (.tmp 8))⟩,
    ⟨some 48, none, .op (.bin .sub (.tmp 46) (.tmp 47))⟩,
    ⟨some 12, none, .op (.mv (.tmp 48))⟩]
def c221_9 : C := .regD 0 [⟨0, ⟨some 49, none, .op (.mv (.tmp 0))⟩, none, []⟩,
    ⟨1, ⟨some 50, none, .op (.mv (.tmp 11))⟩, none, []⟩,
    ⟨2, ⟨some 51, none, .op (.mv (.tmp 0))⟩, none, []⟩,
    ⟨3, ⟨some 52, none, .op (.mv (.tmp 1))⟩, none, []⟩,
    ⟨4, ⟨some 53, none, .op (.mv (.tmp 12))⟩, none, []⟩,
    ⟨5, ⟨some 54, none, .op (.bin .add (.tmp 52) (.tmp 53))⟩, none, []⟩,
    ⟨6, ⟨some 55, none, .op (.mv (.tmp 0))⟩, none, []⟩,
    ⟨7, ⟨some 56, none, .op (.mv (.tmp 1))⟩, none, []⟩,
    ⟨8, ⟨some 57, none, .op (.mv (.tmp 12))⟩, none, []⟩,
    ⟨9, ⟨some 58, none, .op (.bin .add (.tmp 56) (.tmp 57))⟩, none, []⟩,
    ⟨10, ⟨some 59, none, .op (.ia 1 (.tmp 55) (.tmp 58))⟩, none, []⟩,
    ⟨11, ⟨some 60, none, .op (.ld none (.tmp 59))⟩, none, []⟩,
    ⟨12, ⟨some 61, none, .op (.mv (.tmp 0))⟩, none, []⟩,
    ⟨13, ⟨some 62, none, .op (.mv (.tmp 11))⟩, none, []⟩,
    ⟨14, ⟨some 63, none, .op (.ia 1 (.tmp 61) (.tmp 62))⟩, none, []⟩,
    ⟨15, ⟨some 64, none, .op (.ld none (.tmp 63))⟩, none, []⟩,
    ⟨16, ⟨some 65, none, .op (.ia 1 (.tmp 49) (.tmp 50))⟩, none, []⟩,
    ⟨17, ⟨none, none, .op (.st 1 (.tmp 65) (.tmp 60))⟩, none, []⟩,
    ⟨18, ⟨some 66, none, .op (.ia 1 (.tmp 51) (.tmp 54))⟩, none, []⟩,
    ⟨19, ⟨none, none, .op (.st 1 (.tmp 66) (.tmp 64))⟩, none, []⟩]
def c221_10 : C := .reg [⟨some 36, none, .op (.mv (.tmp 11))⟩,
    ⟨some 37, none, .op (.bin .add (.tmp 36) (.const (.int .i64 1)))⟩,
    ⟨some 11, none, .op (.mv (.tmp 37))⟩]
def c221 : Fn' := ⟨(.seq c221_0 (.seq c221_1 (.cond (.tmp 17) (.seq c221_2 (.seq c221_3 (.seq c221_4 (.block 0 (.loop (.seq (.seq c221_5 (.cond (.tmp 35) .skip (.exit 0))) (.seq (.block 1 (.seq c221_6 (.seq (.seq c221_7 (.cond (.tmp 45) c221_8 .skip)) c221_9))) c221_10))))))) .skip))), []⟩
theorem comp221 : compFn Tryz.prog 221 = some c221 := by kernel_rfl

def c222_0 : C := .reg [⟨some 8, none, .op (.mv (.const (.int .i64 0)))⟩,
    ⟨some 9, none, .op (.mv (.const (.int .i64 0)))⟩]
def c222_1 : C := .reg [⟨some 15, none, .op (.mv (.tmp 2))⟩,
    ⟨some 16, none, .op (.mv (.tmp 1))⟩,
    ⟨some 17, none, .op (.bin .sub (.tmp 15) (.tmp 16))⟩,
    ⟨some 10, none, .op (.mv (.tmp 17))⟩]
def c222_2 : C := .reg [⟨some 11, none, .op (.new [(.int .i64 0)])⟩]
def c222_3 : C := .reg [⟨some 18, none, .op (.mv (.tmp 1))⟩,
    ⟨some 19, none, .op (.mv (.tmp 10))⟩,
    ⟨some 20, none, .op (.bin .quo (.tmp 19) (.const (.int .i64 4)))⟩,
    ⟨some 21, none, .op (.bin .mul (.tmp 20) (.const (.int .i64 1)))⟩,
    ⟨some 22, none, .op (.bin .add (.tmp 18) (.tmp 21))⟩,
    ⟨some 12, none, .op (.mv (.tmp 22))⟩]
def c222_4 : C := .reg [⟨some 23, none, .op (.mv (.tmp 1))⟩,
    ⟨some 24, none, .op (.mv (.tmp 10))⟩,
    ⟨some 25, none, .op (.bin .quo (.tmp 24) (.const (.int .i64 4)))⟩,
    ⟨some 26, none, .op (.bin .mul (.tmp 25) (.const (.int .i64 2)))⟩,
    ⟨some 27, none, .op (.bin .add (.tmp 23) (.tmp 26))⟩,
    ⟨some 13, none, .op (.mv (.tmp 27))⟩]
def c222_5 : C := .reg [⟨some 28, none, .op (.mv (.tmp 1))⟩,
    ⟨some 29, none, .op (.mv (.tmp 10))⟩,
    ⟨some 30, none, .op (.bin .quo (.tmp 29) (.const (.int .i64 4)))⟩,
    ⟨some 31, none, .op (.bin .mul (.tmp 30) (.const (.int .i64 3)))⟩,
    ⟨some 32, none, .op (.bin .add (.tmp 28) (.tmp 31))⟩,
    ⟨some 14, none, .op (.mv (.tmp 32))⟩]
def c222_6 : C := .reg [⟨some 33, none, .op (.mv (.tmp 10))⟩,
    ⟨some 34, none, .op (.bin .geq (.tmp 33) (.const (.int .i64 8)))⟩]
def c222_7 : C := .reg [⟨some 35, none, .op (.mv (.tmp 10))⟩,
    ⟨some 36, none, .op (.bin .geq (.tmp 35) (.const (.int .i64 50)))⟩]
def c222_8 : C := .reg [⟨some 37, none, .op (.mv (.tmp 0))⟩,
    ⟨some 38, none, .op (.mv (.tmp 12))⟩,
    ⟨some 39, none, .op (.mv (.tmp 3))⟩,
    ⟨some 40, none, .call 253 [.tmp 37, .tmp 38, .tmp 11, .tmp 39]⟩,
    ⟨some 12, none, .op (.mv (.tmp 40))⟩]
def c222_9 : C := .reg [⟨some 41, none, .op (.mv (.tmp 0))⟩,
    ⟨some 42, none, .op (.mv (.tmp 13))⟩,
    ⟨some 43, none, .op (.mv (.tmp 3))⟩,
    ⟨some 44, none, .call 253 [.tmp 41, .tmp 42, .tmp 11, .tmp 43]⟩,
    ⟨some 13, none, .op (.mv (.tmp 44))⟩]
def c222_10 : C := .reg [⟨some 45, none, .op (.mv (.tmp 0))⟩,
    ⟨some 46, none, .op (.mv (.tmp 14))⟩,
    ⟨some 47, none, .op (.mv (.tmp 3))⟩,
    ⟨some 48, none, .call 253 [.tmp 45, .tmp 46, .tmp 11, .tmp 47]⟩,
    ⟨some 14, none, .op (.mv (.tmp 48))⟩]
def c222_11 : C := .reg [⟨some 49, none, .op (.mv (.tmp 0))⟩,
    ⟨some 50, none, .op (.mv (.tmp 12))⟩,
    ⟨some 51, none, .op (.mv (.tmp 13))⟩,
    ⟨some 52, none, .op (.mv (.tmp 14))⟩,
    ⟨some 53, none, .op (.mv (.tmp 3))⟩,
    ⟨some 54, none, .call 254 [.tmp 49, .tmp 50, .tmp 51, .tmp 52, .tmp 11, .tmp 53]⟩,
    ⟨some 13, none, .op (.mv (.tmp 54))⟩]
def c222_12 : C := .reg [⟨some 55, none, .op (.ld none (.tmp 11))⟩]
def c222_13 : C := .reg [⟨some 58, none, .op (.bin .eql (.tmp 55) (.const (.int .i64 0)))⟩,
    ⟨some 57, none, .op (.mv (.tmp 58))⟩]
def c222_14 : C := .reg [⟨some 59, none, .op (.mv (.tmp 13))⟩,
    ⟨some 8, none, .op (.mv (.tmp 59))⟩,
    ⟨some 9, none, .op (.mv (.const (.int .i64 1)))⟩]
def c222_15 : C := .reg [⟨some 61, none, .op (.bin .eql (.tmp 55) (.const (.int .i64 12)))⟩,
    ⟨some 60, none, .op (.mv (.tmp 61))⟩]
def c222_16 : C := .reg [⟨some 62, none, .op (.mv (.tmp 13))⟩,
    ⟨some 8, none, .op (.mv (.tmp 62))⟩,
    ⟨some 9, none, .op (.mv (.const (.int .i64 2)))⟩]
def c222_17 : C := .reg [⟨some 56, none, .op (.mv (.tmp 13))⟩,
    ⟨some 8, none, .op (.mv (.tmp 56))⟩,
    ⟨some 9, none, .op (.mv (.const (.int .i64 0)))⟩]
def c222 : Fn' := ⟨(.seq c222_0 (.seq c222_1 (.seq c222_2 (.seq c222_3 (.seq c222_4 (.seq c222_5 (.seq (.seq c222_6 (.cond (.tmp 34) (.seq (.seq c222_7 (.cond (.tmp 36) (.seq c222_8 (.seq c222_9 c222_10)) .skip)) c222_11) .skip)) (.seq c222_12 (.block 0 (.seq c222_13 (.cond (.tmp 57) (.seq c222_14 .ret) (.seq c222_15 (.cond (.tmp 60) (.seq c222_16 .ret) (.seq c222_17 .ret)))))))))))))), [.tmp 8, .tmp 9]⟩
theorem comp222 : compFn Tryz.prog 222 = some c222 := by kernel_rfl

def c223_0 : C := .reg [⟨some 10, none, .op (.mv (.tmp 1))⟩,
    ⟨some 8, none, .op (.mv (.tmp 10))⟩]
def c223_1 : C := .reg [⟨some 11, none, .op (.mv (.tmp 2))⟩,
    ⟨some 12, none, .op (.bin .sub (.tmp 11) (.const (.int .i64 1)))⟩,
    ⟨some 9, none, .op (.mv (.tmp 12))⟩]
def c223_2 : C := .reg [⟨some 13, none, .op (.mv (.tmp 8))⟩,
    ⟨some 14, none, .op (.mv (.tmp 9))⟩,
    ⟨some 15, none, .op (.bin .lss (.tmp 13) (.tmp 14))⟩]
def c223_3 : C := .regD 0 [⟨0, ⟨some 16, none, .op (.mv (.tmp 0))⟩, none, []⟩,
    ⟨1, ⟨some 17, none, .op (.mv (.tmp 8))⟩, none, []⟩,
    ⟨2, ⟨some 18, none, .op (.mv (.tmp 0))⟩, none, []⟩,
    ⟨3, ⟨some 19, none, .op (.mv (.tmp 9))⟩, none, []⟩,
    ⟨4, ⟨some 20, none, .op (.mv (.tmp 0))⟩, none, []⟩,
    ⟨5, ⟨some 21, none, .op (.mv (.tmp 9))⟩, none, []⟩,
    ⟨6, ⟨some 22, none, .op (.ia 1 (.tmp 20) (.tmp 21))⟩, none, []⟩,
    ⟨7, ⟨some 23, none, .op (.ld none (.tmp 22))⟩, none, []⟩,
    ⟨8, ⟨some 24, none, .op (.mv (.tmp 0))⟩, none, []⟩,
    ⟨9, ⟨some 25, none, .op (.mv (.tmp 8))⟩, none, []⟩,
    ⟨10, ⟨some 26, none, .op (.ia 1 (.tmp 24) (.tmp 25))⟩, none, []⟩,
    ⟨11, ⟨some 27, none, .op (.ld none (.tmp 26))⟩, none, []⟩,
    ⟨12, ⟨some 28, none, .op (.ia 1 (.tmp 16) (.tmp 17))⟩, none, []⟩,
    ⟨13, ⟨none, none, .op (.st 1 (.tmp 28) (.tmp 23))⟩, none, []⟩,
    ⟨14, ⟨some 29, none, .op (.ia 1 (.tmp 18) (.tmp 19))⟩, none, []⟩,
    ⟨15, ⟨none, none, .op (.st 1 (.tmp 29) (.tmp 27))⟩, none, []⟩]
def c223_4 : C := .reg [⟨some 30, none, .op (.mv (.tmp 8))⟩,
    ⟨some 31, none, .op (.bin .add (.tmp 30) (.const (.int .i64 1)))⟩,
    ⟨some 8, none, .op (.mv (.tmp 31))⟩]
def c223_5 : C := .reg [⟨some 32, none, .op (.mv (.tmp 9))⟩,
    ⟨some 33, none, .op (.bin .sub (.tmp 32) (.const (.int .i64 1)))⟩,
    ⟨some 9, none, .op (.mv (.tmp 33))⟩]
def c223 : Fn' := ⟨(.seq c223_0 (.seq c223_1 (.block 0 (.loop (.seq (.seq c223_2 (.cond (.tmp 15) .skip (.exit 0))) (.block 1 (.seq c223_3 (.seq c223_4 c223_5)))))))), []⟩
theorem comp223 : compFn Tryz.prog 223 = some c223 := by kernel_rfl

def c224_0 : C := .reg [⟨some 8, none, .op (.mv (.const (.bool false)))⟩]
def c224_1 : C := .reg [⟨some 13, none, .op (.mv (.tmp 1))⟩,
    ⟨some 14, none, .op (.bin .add (.tmp 13) (.const (.int .i64 1)))⟩,
    ⟨some 9, none, .op (.mv (.tmp 14))⟩]
def c224_2 : C := .reg [⟨some 10, none, .op (.mv (.const (.int .i64 0)))⟩]
def c224_3 : C := .reg [⟨some 15, none, .op (.mv (.tmp 10))⟩,
    ⟨some 16, none, .op (.bin .lss (.tmp 15) (.const (.int .i64 5)))⟩]
def c224_4 : C := .regD 0 [⟨0, ⟨some 19, none, .op (.mv (.tmp 9))⟩, none, []⟩,
    ⟨1, ⟨some 20, none, .op (.mv (.tmp 2))⟩, none, []⟩,
    ⟨2, ⟨some 21, none, .op (.bin .lss (.tmp 19) (.tmp 20))⟩, none, []⟩,
    ⟨3, ⟨some 22, none, .op (.mv (.tmp 21))⟩, none, []⟩,
    ⟨4, ⟨some 23, (some (22, true)), .op (.mv (.tmp 3))⟩, none, []⟩,
    ⟨5, ⟨some 24, (some (22, true)), .op (.mv (.tmp 0))⟩, none, []⟩,
    ⟨6, ⟨some 25, (some (22, true)), .op (.mv (.tmp 9))⟩, none, []⟩,
    ⟨7, ⟨some 26, (some (22, true)), .op (.ia 1 (.tmp 24) (.tmp 25))⟩, none, []⟩,
    ⟨8, ⟨some 27, (some (22, true)), .op (.ld none (.tmp 26))⟩, none, []⟩,
    ⟨9, ⟨some 28, (some (22, true)), .op (.mv (.tmp 0))⟩, none, []⟩,
    ⟨10, ⟨some 29, (some (22, true)), .op (.mv (.tmp 9))⟩, none, []⟩,
    ⟨11, ⟨some 30, (some (22, true)), .op (.bin .sub (.tmp 29) (.const (.int .i64 1)))⟩, none, []⟩,
    ⟨12, ⟨some 31, (some (22, true)), .op (.ia 1 (.tmp 28) (.tmp 30))⟩, none, []⟩,
    ⟨13, ⟨some 32, (some (22, true)), .op (.ld none (.tmp 31))⟩, none, []⟩,
    ⟨14, ⟨some 33, (some (22, true)), .callv (.tmp 23) [.tmp 27, .tmp 32]⟩, none, []⟩,
    ⟨15, ⟨some 34, (some (22, true)), .op (.bin .lss (.tmp 33) (.const (.int .i64 0)))⟩, none, []⟩,
    ⟨16, ⟨some 35, (some (22, true)), .op (.un .not (.tmp 34))⟩, none, []⟩,
    ⟨17, ⟨some 36, none, .op (.pick (.tmp 22) (.tmp 35) (.const (.bool false)))⟩, none, []⟩]
def c224_5 : C := .reg [⟨some 37, none, .op (.mv (.tmp 9))⟩,
    ⟨some 38, none, .op (.bin .add (.tmp 37) (.const (.int .i64 1)))⟩,
    ⟨some 9, none, .op (.mv (.tmp 38))⟩]
def c224_6 : C := .reg [⟨some 39, none, .op (.mv (.tmp 9))⟩,
    ⟨some 40, none, .op (.mv (.tmp 2))⟩,
    ⟨some 41, none, .op (.bin .eql (.tmp 39) (.tmp 40))⟩]
def c224_7 : C := .reg [⟨some 8, none, .op (.mv (.const (.bool true)))⟩]
def c224_8 : C := .reg [⟨some 42, none, .op (.mv (.tmp 2))⟩,
    ⟨some 43, none, .op (.mv (.tmp 1))⟩,
    ⟨some 44, none, .op (.bin .sub (.tmp 42) (.tmp 43))⟩,
    ⟨some 45, none, .op (.bin .lss (.tmp 44) (.const (.int .i64 50)))⟩]
def c224_9 : C := .reg [⟨some 8, none, .op (.mv (.const (.bool false)))⟩]
def c224_10 : C := .regD 0 [⟨0, ⟨some 46, none, .op (.mv (.tmp 0))⟩, none, []⟩,
    ⟨1, ⟨some 47, none, .op (.mv (.tmp 9))⟩, none, []⟩,
    ⟨2, ⟨some 48, none, .op (.mv (.tmp 0))⟩, none, []⟩,
    ⟨3, ⟨some 49, none, .op (.mv (.tmp 9))⟩, none, []⟩,
    ⟨4, ⟨some 50, none, .op (.bin .sub (.tmp 49) (.const (.int .i64 1)))⟩, none, []⟩,
    ⟨5, ⟨some 51, none, .op (.mv (.tmp 0))⟩, none, []⟩,
    ⟨6, ⟨some 52, none, .op (.mv (.tmp 9))⟩, none, []⟩,
    ⟨7, ⟨some 53, none, .op (.bin .sub (.tmp 52) (.const (.int .i64 1)))⟩, none, []⟩,
    ⟨8, ⟨some 54, none, .op (.ia 1 (.tmp 51) (.tmp 53))⟩, none, []⟩,
    ⟨9, ⟨some 55, none, .op (.ld none (.tmp 54))⟩, none, []⟩,
    ⟨10, ⟨some 56, none, .op (.mv (.tmp 0))⟩, none, []⟩,
    ⟨11, ⟨some 57, none, .op (.mv (.tmp 9))⟩, none, []⟩,
    ⟨12, ⟨some 58, none, .op (.ia 1 (.tmp 56) (.tmp 57))⟩, none, []⟩,
    ⟨13, ⟨some 59, none, .op (.ld none (.tmp 58))⟩, none, []⟩,
    ⟨14, ⟨some 60, none, .op (.ia 1 (.tmp 46) (.tmp 47))⟩, none, []⟩,
    ⟨15, ⟨none, none, .op (.st 1 (.tmp 60) (.tmp 55))⟩, none, []⟩,
    ⟨16, ⟨some 61, none, .op (.ia 1 (.tmp 48) (.tmp 50))⟩, none, []⟩,
    ⟨17, ⟨none, none, .op (.st 1 (.tmp 61) (.tmp 59))⟩, none, []⟩]
def c224_11 : C := .reg [⟨some 62, none, .op (.mv (.tmp 9))⟩,
    ⟨some 63, none, .op (.mv (.tmp 1))⟩,
    ⟨some 64, none, .op (.bin .sub (.tmp 62) (.tmp 63))⟩,
    ⟨some 65, none, .op (.bin .geq (.tmp 64) (.const (.int .i64 2)))⟩]
def c224_12 : C := .reg [⟨some 66, none, .op (.mv (.tmp 9))⟩,
    ⟨some 67, none, .op (.bin .sub (.tmp 66) (.const (.int .i64 1)))⟩,
    ⟨some 11, none, .op (.mv (.tmp 67))⟩]
def c224_13 : C := .reg [⟨some 68, none, .op (.mv (.tmp 11))⟩,
    ⟨some 69, none, .op (.bin .geq (.tmp 68) (.const (.int .i64 1)))⟩]
def c224_14 : C := .regD 0 [⟨0, ⟨some 72, none, .op (.mv (.tmp 3))⟩, none, []⟩,
    ⟨1, ⟨some 73, none, .op (.mv (.tmp 0))⟩, none, []⟩,
    ⟨2, ⟨some 74, none, .op (.mv (.tmp 11))⟩, none, []⟩,
    ⟨3, ⟨some 75, none, .op (.ia 1 (.tmp 73) (.tmp 74))⟩, none, []⟩,
    ⟨4, ⟨some 76, none, .op (.ld none (.tmp 75))⟩, none, []⟩,
    ⟨5, ⟨some 77, none, .op (.mv (.tmp 0))⟩, none, []⟩,
    ⟨6, ⟨some 78, none, .op (.mv (.tmp 11))⟩, none, []⟩,
    ⟨7, ⟨some 79, none, .op (.bin .sub (.tmp 78) (.const (.int .i64 1)))⟩, none, []⟩,
    ⟨8, ⟨some 80, none, .op (.ia 1 (.tmp 77) (.tmp 79))⟩, none, []⟩,
    ⟨9, ⟨some 81, none, .op (.ld none (.tmp 80))⟩, none, []⟩,
    ⟨10, ⟨some 82, none, .callv (.tmp 72) [.tmp 76, .tmp 81]⟩, none, []⟩,
    ⟨11, ⟨some 83, none, .op (.bin .lss (.tmp 82) (.const (.int .i64 0)))⟩, none, []⟩,
    ⟨12, ⟨some 84, none, .op (.un .not (.tmp 83))⟩, none, []⟩]
def c224_15 : C := .regD 0 [⟨0, ⟨some 85, none, .op (.mv (.tmp 0))⟩, none, []⟩,
    ⟨1, ⟨some 86, none, .op (.mv (.tmp 11))⟩, none, []⟩,
    ⟨2, ⟨some 87, none, .op (.mv (.tmp 0))⟩, none, []⟩,
    ⟨3, ⟨some 88, none, .op (.mv (.tmp 11))⟩, none, []⟩,
    ⟨4, ⟨some 89, none, .op (.bin .sub (.tmp 88) (.const (.int .i64 1)))⟩, none, []⟩,
    ⟨5, ⟨some 90, none, .op (.mv (.tmp 0))⟩, none, []⟩,
    ⟨6, ⟨some 91, none, .op (.mv (.tmp 11))⟩, none, []⟩,
    ⟨7, ⟨some 92, none, .op (.bin .sub (.tmp 91) (.const (.int .i64 1)))⟩, none, []⟩,
    ⟨8, ⟨some 93, none, .op (.ia 1 (.tmp 90) (.tmp 92))⟩, none, []⟩,
    ⟨9, ⟨some 94, none, .op (.ld none (.tmp 93))⟩, none, []⟩,
    ⟨10, ⟨some 95, none, .op (.mv (.tmp 0))⟩, none, []⟩,
    ⟨11, ⟨some 96, none, .op (.mv (.tmp 11))⟩, none, []⟩,
    ⟨12, ⟨some 97, none, .op (.ia 1 (.tmp 95) (.tmp 96))⟩, none, []⟩,
    ⟨13, ⟨some 98, none, .op (.ld none (.tmp 97))⟩, none, []⟩,
    ⟨14, ⟨some 99, none, .op (.ia 1 (.tmp 85) (.tmp 86))⟩, none, []⟩,
    ⟨15, ⟨none, none, .op (.st 1 (.tmp 99) (.tmp 94))⟩, none, []⟩,
    ⟨16, ⟨some 100, none, .op (.ia 1 (.tmp 87) (.tmp 89))⟩, none, []⟩,
    ⟨17, ⟨none, none, .op (.st 1 (.tmp 100) (.tmp 98))⟩, none, []⟩]
def c224_16 : C := .reg [⟨some 70, none, .op (.mv (.tmp 11))⟩,
    ⟨some 71, none, .op (.bin .sub (.tmp 70) (.const (.int .i64 1)))⟩,
    ⟨some 11, none, .op (.mv (.tmp 71))⟩]
def c224_17 : C := .reg [⟨some 101, none, .op (.mv (.tmp 2))⟩,
    ⟨some 102, none, .op (.mv (.tmp 9))⟩,
    ⟨some 103, none, .op (.bin .sub (.tmp 101) (.tmp 102))⟩,
    ⟨some 104, none, .op (.bin .geq (.tmp 103) (.const (.int .i64 2)))⟩]
def c224_18 : C := .reg [⟨some 105, none, .op (.mv (.tmp 9))⟩,
    ⟨some 106, none, .op (.bin .add (.tmp 105) (.const (.int .i64 1)))⟩,
    ⟨some 12, none, .op (.mv (.tmp 106))⟩]
def c224_19 : C := .reg [⟨some 107, none, .op (.mv (.tmp 12))⟩,
    ⟨some 108, none, .op (.mv (.tmp 2))⟩,
    ⟨some 109, none, .op (.bin .lss (.tmp 107) (.tmp 108))⟩]
def c224_20 : C := .regD 0 [⟨0, ⟨some 112, none, .op (.mv (.tmp 3))⟩, none, []⟩,
    ⟨1, ⟨some 113, none, .op (.mv (.tmp 0))⟩, none, []⟩,
    ⟨2, ⟨some 114, none, .op (.mv (.tmp 12))⟩, none, []⟩,
    ⟨3, ⟨some 115, none, .op (.ia 1 (.tmp 113) (.tmp 114))⟩, none, []⟩,
    ⟨4, ⟨some 116, none, .op (.ld none (.tmp 115))⟩, none, []⟩,
    ⟨5, ⟨some 117, none, .op (.mv (.tmp 0))⟩, none, []⟩,
    ⟨6, ⟨some 118, none, .op (.mv (.tmp 12))⟩, none, []⟩,
    ⟨7, ⟨some 119, none, .op (.bin .sub (.tmp 118) (.const (.int .i64 1)))⟩, none, []⟩,
    ⟨8, ⟨some 120, none, .op (.ia 1 (.tmp 117) (.tmp 119))⟩, none, []⟩,
    ⟨9, ⟨some 121, none, .op (.ld none (.tmp 120))⟩, none, []⟩,
    ⟨10, ⟨some 122, none, .callv (.tmp 112) [.tmp 116, .tmp 121]⟩, none, []⟩,
    ⟨11, ⟨some 123, none, .op (.bin .lss (.tmp 122) (.const (.int .i64 0)))⟩, none, []⟩,
    ⟨12, ⟨some 124, none, .op (.un .not (.tmp 123))⟩, none, []⟩]
def c224_21 : C := .regD 0 [⟨0, ⟨some 125, none, .op (.mv (.tmp 0))⟩, none, []⟩,
    ⟨1, ⟨some 126, none, .op (.mv (.tmp 12))⟩, none, []⟩,
    ⟨2, ⟨some 127, none, .op (.mv (.tmp 0))⟩, none, []⟩,
    ⟨3, ⟨some 128, none, .op (.mv (.tmp 12))⟩, none, []⟩,
    ⟨4, ⟨some 129, none, .op (.bin .sub (.tmp 128) (.const (.int .i64 1)))⟩, none, []⟩,
    ⟨5, ⟨some 130, none, .op (.mv (.tmp 0))⟩, none, []⟩,
    ⟨6, ⟨some 131, none, .op (.mv (.tmp 12))⟩, none, []⟩,
    ⟨7, ⟨some 132, none, .op (.bin .sub (.tmp 131) (.const (.int .i64 1)))⟩, none, []⟩,
    ⟨8, ⟨some 133, none, .op (.ia 1 (.tmp 130) (.tmp 132))⟩, none, []⟩,
    ⟨9, ⟨some 134, none, .op (.ld none (.tmp 133))⟩, none, []⟩,
    ⟨10, ⟨some 135, none, .op (.mv (.tmp 0))⟩, none, []⟩,
    ⟨11, ⟨some 136, none, .op (.mv (.tmp 12))⟩, none, []⟩,
    ⟨12, ⟨some 137, none, .op (.ia 1 (.tmp 135) (.tmp 136))⟩, none, []⟩,
    ⟨13, ⟨some 138, none, .op (.ld none (.tmp 137))⟩, none, []⟩,
    ⟨14, ⟨some 139, none, .op (.ia 1 (.tmp 125) (.tmp 126))⟩, none, []⟩,
    ⟨15, ⟨none, none, .op (.st 1 (.tmp 139) (.tmp 134))⟩, none, []⟩,
    ⟨16, ⟨some 140, none, .op (.ia 1 (.tmp 127) (.tmp 129))⟩, none, []⟩,
    ⟨17, ⟨none, none, .op (.st 1 (.tmp 140) (.tmp 138))⟩, none, []⟩]
def c224_22 : C := .reg [⟨some 110, none, .op (.mv (.tmp 12))⟩,
    ⟨some 111, none, .op (.bin .add (.tmp 110) (.const (.int .i64 1)))⟩,
    ⟨some 12, none, .op (.mv (.tmp 111))⟩]
def c224_23 : C := .reg [⟨some 17, none, .op (.mv (.tmp 10))⟩,
    ⟨some 18, none, .op (.bin .add (.tmp 17) (.const (.int .i64 1)))⟩,
    ⟨some 10, none, .op (.mv (.tmp 18))⟩]
def c224_24 : C := .reg [⟨some 8, none, .op (.mv (.const (.bool false)))⟩]
def c224 : Fn' := ⟨(.seq c224_0 (.seq c224_1 (.seq (.seq c224_2 (.block 0 (.loop (.seq (.seq c224_3 (.cond (.tmp 16) .skip (.exit 0))) (.seq (.block 1 (.seq (.block 2 (.loop (.seq (.seq c224_4 (.cond (.tmp 36) .skip (.exit 2))) (.block 3 c224_5)))) (.seq (.seq c224_6 (.cond (.tmp 41) (.seq c224_7 .ret) .skip)) (.seq (.seq c224_8 (.cond (.tmp 45) (.seq c224_9 .ret) .skip)) (.seq c224_10 (.seq (.seq c224_11 (.cond (.tmp 65) (.seq c224_12 (.block 4 (.loop (.seq (.seq c224_13 (.cond (.tmp 69) .skip (.exit 4))) (.seq (.block 5 (.seq (.seq c224_14 (.cond (.tmp 84) (.exit 4) .skip)) c224_15)) c224_16))))) .skip)) (.seq c224_17 (.cond (.tmp 104) (.seq c224_18 (.block 6 (.loop (.seq (.seq c224_19 (.cond (.tmp 109) .skip (.exit 6))) (.seq (.block 7 (.seq (.seq c224_20 (.cond (.tmp 124) (.exit 6) .skip)) c224_21)) c224_22))))) .skip)))))))) c224_23))))) (.seq c224_24 .ret)))), [.tmp 8]⟩
theorem comp224 : compFn Tryz.prog 224 = some c224 := by kernel_rfl

end Go.Proofs.YtmmpnmekiplhfaaGreat
