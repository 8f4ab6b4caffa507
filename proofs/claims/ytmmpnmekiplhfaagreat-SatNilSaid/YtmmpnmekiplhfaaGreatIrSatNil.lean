/-
  The codes of the law SatNil, and of what it calls.
-/
import Derived.Test.YtmmpnmekiplhfaaGreatAeTop
import Derived.Test.YtmmpnmekiplhfaaGreatRows
import Derived.KernelRfl
namespace Go.Proofs.YtmmpnmekiplhfaaGreat
open Go Go.Ae

def c6_0 : C := .reg [⟨some 6, none, .op (.mv (.const (.bool false)))⟩]

def c6_1 : C := .reg [⟨some 7, none, .op (.mv (.const (.pointer none)))⟩]

def c6_2 : C := .reg [⟨some 10, none, .op (.mv (.tmp 2))⟩]

def c6_3 : C := .reg [⟨some 11, none, .op (.mk [(.int .i64 0), (.int .i64 0), (.bool false), (.slice none 0 0), (.slice none 0 0), (.slice none 0 0), (.slice none 0 0), (.slice none 0 0), (.slice none 0 0), (.slice none 0 0), (.slice none 0 0), (.slice none 0 0), (.slice none 0 0), (.int .i64 0), (.pointer none), (.slice none 0 0), (.slice none 0 0), (.int .i64 0)] [])⟩,
    ⟨some 12, none, .op (.box (.tmp 11))⟩,
    ⟨some 7, none, .op (.mv (.tmp 12))⟩]

def c6_4 : C := .reg [⟨some 14, none, .op (.mv (.tmp 7))⟩,
    ⟨some 15, none, .op (.mv (.tmp 0))⟩,
    ⟨some 16, none, .op (.mv (.tmp 1))⟩,
    ⟨some 17, none, .call 23 [.tmp 14, .tmp 15, .tmp 16]⟩,
    ⟨some 13, none, .op (.mv (.tmp 17))⟩,
    ⟨some 18, none, .op (.ext (.tmp 13) 0)⟩,
    ⟨some 19, none, .op (.ext (.tmp 13) 1)⟩,
    ⟨some 8, none, .op (.mv (.tmp 18))⟩,
    ⟨some 9, none, .op (.mv (.tmp 19))⟩]

def c6_5 : C := .reg [⟨some 20, none, .op (.mv (.tmp 8))⟩,
    ⟨some 21, none, .op (.bin .eql (.tmp 20) (.const (.int .u8 0)))⟩,
    ⟨some 22, none, .op (.mv (.tmp 21))⟩,
    ⟨some 23, (some (22, true)), .op (.mv (.tmp 9))⟩,
    ⟨some 24, (some (22, true)), .op (.bin .eql (.tmp 23) (.const (.int .i64 1)))⟩,
    ⟨some 25, none, .op (.pick (.tmp 22) (.tmp 24) (.const (.bool false)))⟩,
    ⟨some 26, none, .op (.mv (.tmp 25))⟩,
    ⟨some 27, (some (26, true)), .op (.mv (.tmp 7))⟩,
    ⟨some 28, (some (26, true)), .op (.mv (.tmp 0))⟩,
    ⟨some 29, (some (26, true)), .call 20 [.tmp 27, .tmp 28]⟩,
    ⟨some 30, (some (26, true)), .op (.bin .eql (.tmp 29) (.const (.int .i64 1)))⟩,
    ⟨some 31, none, .op (.pick (.tmp 26) (.tmp 30) (.const (.bool false)))⟩,
    ⟨some 32, none, .op (.mv (.tmp 31))⟩,
    ⟨some 33, (some (32, true)), .op (.mv (.tmp 7))⟩,
    ⟨some 34, (some (32, true)), .op (.mv (.tmp 1))⟩,
    ⟨some 35, (some (32, true)), .call 29 [.tmp 33, .tmp 34]⟩,
    ⟨some 36, (some (32, true)), .op (.bin .eql (.tmp 35) (.const (.int .i64 1)))⟩,
    ⟨some 37, none, .op (.pick (.tmp 32) (.tmp 36) (.const (.bool false)))⟩,
    ⟨some 38, none, .op (.mv (.tmp 37))⟩,
    ⟨some 39, (some (38, true)), .op (.mv (.tmp 7))⟩,
    ⟨some 40, (some (38, true)), .call 27 [.tmp 39]⟩,
    ⟨some 41, (some (38, true)), .op (.bin .eql (.tmp 40) (.const (.int .i64 0)))⟩,
    ⟨some 42, none, .op (.pick (.tmp 38) (.tmp 41) (.const (.bool false)))⟩,
    ⟨some 43, none, .op (.mv (.tmp 42))⟩,
    ⟨some 44, (some (43, true)), .op (.mv (.tmp 7))⟩,
    ⟨some 45, (some (43, true)), .call 26 [.tmp 44]⟩,
    ⟨some 46, (some (43, true)), .op (.len (.tmp 45))⟩,
    ⟨some 47, (some (43, true)), .op (.bin .eql (.tmp 46) (.const (.int .i64 0)))⟩,
    ⟨some 48, none, .op (.pick (.tmp 43) (.tmp 47) (.const (.bool false)))⟩,
    ⟨some 49, none, .op (.mv (.tmp 48))⟩,
    ⟨some 50, (some (49, true)), .op (.mv (.tmp 7))⟩,
    ⟨some 51, (some (49, true)), .call 30 [.tmp 50]⟩,
    ⟨some 52, (some (49, true)), .op (.len (.tmp 51))⟩,
    ⟨some 53, (some (49, true)), .op (.bin .eql (.tmp 52) (.const (.int .i64 0)))⟩,
    ⟨some 54, none, .op (.pick (.tmp 49) (.tmp 53) (.const (.bool false)))⟩,
    ⟨some 55, none, .op (.mv (.tmp 54))⟩,
    ⟨some 56, (some (55, true)), .op (.mv (.tmp 7))⟩,
    ⟨some 57, (some (55, true)), .call 31 [.tmp 56]⟩,
    ⟨some 58, (some (55, true)), .op (.bin .eql (.tmp 57) (.const (.int .i64 0)))⟩,
    ⟨some 59, none, .op (.pick (.tmp 55) (.tmp 58) (.const (.bool false)))⟩,
    ⟨some 60, none, .op (.mv (.tmp 59))⟩,
    ⟨some 61, (some (60, true)), .call 19 []⟩,
    ⟨some 62, none, .op (.pick (.tmp 60) (.tmp 61) (.const (.bool false)))⟩,
    ⟨some 6, none, .op (.mv (.tmp 62))⟩]

def c6 : Fn' := ⟨(.seq c6_0 (.seq c6_1 (.seq (.seq c6_2 (.cond (.tmp 10) c6_3 .skip)) (.seq c6_4 (.seq c6_5 .ret))))), [.tmp 6]⟩

theorem comp6 : compFn Tryz.prog 6 = some c6 := by kernel_rfl

def c27_0 : C := .reg [⟨some 2, none, .op (.mv (.const (.int .i64 0)))⟩]

def c27_1 : C := .reg [⟨some 3, none, .op (.mv (.tmp 0))⟩,
    ⟨some 4, none, .call 63 [.tmp 3]⟩]

def c27_2 : C := .reg [⟨some 2, none, .op (.mv (.const (.int .i64 0)))⟩]

def c27_3 : C := .reg [⟨some 5, none, .op (.mv (.tmp 0))⟩,
    ⟨some 6, none, .op (.nn (.tmp 5))⟩,
    ⟨some 7, none, .op (.fa 0 (.tmp 6))⟩,
    ⟨some 8, none, .op (.ld none (.tmp 7))⟩,
    ⟨some 2, none, .op (.mv (.tmp 8))⟩]

def c27 : Fn' := ⟨(.seq c27_0 (.seq (.seq c27_1 (.cond (.tmp 4) (.seq c27_2 .ret) .skip)) (.seq c27_3 .ret))), [.tmp 2]⟩

theorem comp27 : compFn Tryz.prog 27 = some c27 := by kernel_rfl

def c29_0 : C := .reg [⟨some 4, none, .op (.mv (.const (.int .i64 0)))⟩]

def c29_1 : C := .reg [⟨some 6, none, .op (.mv (.tmp 0))⟩,
    ⟨some 7, none, .call 63 [.tmp 6]⟩,
    ⟨some 5, none, .op (.mv (.tmp 7))⟩]

def c29_2 : C := .reg [⟨some 4, none, .op (.mv (.const (.int .i64 1)))⟩]

def c29_3 : C := .reg [⟨some 9, none, .op (.mv (.tmp 1))⟩,
    ⟨some 10, none, .op (.bin .lss (.tmp 9) (.const (.int .i64 0)))⟩,
    ⟨some 8, none, .op (.mv (.tmp 10))⟩]

def c29_4 : C := .reg [⟨some 4, none, .op (.mv (.const (.int .i64 2)))⟩]

def c29_5 : C := .reg [⟨some 12, none, .op (.mv (.tmp 1))⟩,
    ⟨some 13, none, .op (.mv (.tmp 0))⟩,
    ⟨some 14, none, .op (.nn (.tmp 13))⟩,
    ⟨some 15, none, .op (.fa 0 (.tmp 14))⟩,
    ⟨some 16, none, .op (.ld none (.tmp 15))⟩,
    ⟨some 17, none, .op (.bin .sub (.const (.int .i64 4194304)) (.tmp 16))⟩,
    ⟨some 18, none, .op (.bin .gtr (.tmp 12) (.tmp 17))⟩,
    ⟨some 11, none, .op (.mv (.tmp 18))⟩]

def c29_6 : C := .reg [⟨some 4, none, .op (.mv (.const (.int .i64 3)))⟩]

def c29_7 : C := .reg [⟨some 19, none, .op (.mv (.tmp 0))⟩,
    ⟨some 20, none, .call 65 [.tmp 19]⟩]

def c29_8 : C := .reg [⟨some 21, none, .op (.mv (.tmp 0))⟩,
    ⟨some 22, none, .op (.mv (.tmp 0))⟩,
    ⟨some 23, none, .op (.nn (.tmp 22))⟩,
    ⟨some 24, none, .op (.fa 0 (.tmp 23))⟩,
    ⟨some 25, none, .op (.ld none (.tmp 24))⟩,
    ⟨some 26, none, .op (.mv (.tmp 1))⟩,
    ⟨some 27, none, .op (.bin .add (.tmp 25) (.tmp 26))⟩,
    ⟨some 28, none, .call 59 [.tmp 21, .tmp 27]⟩]

def c29_9 : C := .reg [⟨some 4, none, .op (.mv (.const (.int .i64 0)))⟩]

def c29 : Fn' := ⟨(.seq c29_0 (.seq (.block 0 (.seq c29_1 (.cond (.tmp 5) (.seq c29_2 .ret) (.seq c29_3 (.cond (.tmp 8) (.seq c29_4 .ret) (.seq c29_5 (.cond (.tmp 11) (.seq c29_6 .ret) .skip))))))) (.seq c29_7 (.seq c29_8 (.seq c29_9 .ret))))), [.tmp 4]⟩

theorem comp29 : compFn Tryz.prog 29 = some c29 := by kernel_rfl

def c31_0 : C := .reg [⟨some 2, none, .op (.mv (.const (.int .i64 0)))⟩]

def c31_1 : C := .reg [⟨some 3, none, .op (.mv (.tmp 0))⟩,
    ⟨some 4, none, .call 63 [.tmp 3]⟩]

def c31_2 : C := .reg [⟨some 2, none, .op (.mv (.const (.int .i64 0)))⟩]

def c31_3 : C := .reg [⟨some 5, none, .op (.mv (.tmp 0))⟩,
    ⟨some 6, none, .op (.nn (.tmp 5))⟩,
    ⟨some 7, none, .op (.fa 17 (.tmp 6))⟩,
    ⟨some 8, none, .op (.ld none (.tmp 7))⟩,
    ⟨some 2, none, .op (.mv (.tmp 8))⟩]

def c31 : Fn' := ⟨(.seq c31_0 (.seq (.seq c31_1 (.cond (.tmp 4) (.seq c31_2 .ret) .skip)) (.seq c31_3 .ret))), [.tmp 2]⟩

theorem comp31 : compFn Tryz.prog 31 = some c31 := by kernel_rfl

end Go.Proofs.YtmmpnmekiplhfaaGreat
