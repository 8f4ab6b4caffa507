/-
  The code of the functions of QueuePlays, as the evaluator has it.
-/
import Derived.Test.YtnejnaoehcahbaaAeTop
import Derived.Test.YtnejnaoehcahbaaRows
import Derived.KernelRfl
namespace Go.Proofs.Ytnejnaoehcahbaa.q
open Go Go.Ae

def c6_0 : C := .reg [⟨some 4, none, .op (.mv (.const (.bool false)))⟩]

def c6_1 : C := .reg [⟨some 13, none, .op (.mv (.tmp 0))⟩,
    ⟨some 14, none, .call 18 [.tmp 13]⟩,
    ⟨some 12, none, .op (.mv (.tmp 14))⟩,
    ⟨some 15, none, .op (.ext (.tmp 12) 0)⟩,
    ⟨some 16, none, .op (.ext (.tmp 12) 1)⟩,
    ⟨some 5, none, .op (.mv (.tmp 15))⟩,
    ⟨some 6, none, .op (.mv (.tmp 16))⟩]

def c6_2 : C := .reg [⟨some 17, none, .op (.mv (.tmp 6))⟩,
    ⟨some 18, none, .op (.bin .neq (.tmp 17) (.const (.int .i64 0)))⟩,
    ⟨some 19, none, .op (.mv (.tmp 18))⟩,
    ⟨some 20, (some (19, false)), .op (.mv (.tmp 0))⟩,
    ⟨some 21, (some (19, false)), .op (.bin .gtr (.tmp 20) (.const (.int .i64 40)))⟩,
    ⟨some 22, none, .op (.pick (.tmp 19) (.const (.bool true)) (.tmp 21))⟩]

def c6_3 : C := .reg [⟨some 24, none, .op (.mv (.tmp 0))⟩,
    ⟨some 25, none, .call 19 [.tmp 24]⟩,
    ⟨some 23, none, .op (.mv (.tmp 25))⟩,
    ⟨some 26, none, .op (.ext (.tmp 23) 0)⟩,
    ⟨some 27, none, .op (.ext (.tmp 23) 1)⟩,
    ⟨some 7, none, .op (.mv (.tmp 26))⟩,
    ⟨some 8, none, .op (.mv (.tmp 27))⟩]

def c6_4 : C := .reg [⟨some 28, none, .op (.mv (.tmp 6))⟩,
    ⟨some 29, none, .op (.mv (.tmp 8))⟩,
    ⟨some 30, none, .op (.bin .eql (.tmp 28) (.tmp 29))⟩,
    ⟨some 31, none, .op (.mv (.tmp 30))⟩,
    ⟨some 32, (some (31, false)), .op (.mv (.tmp 0))⟩,
    ⟨some 33, (some (31, false)), .op (.bin .gtr (.tmp 32) (.const (.int .i64 40)))⟩,
    ⟨some 34, (some (31, false)), .op (.mv (.tmp 33))⟩,
    ⟨some 35, (some (34, true)), .op (.mv (.tmp 6))⟩,
    ⟨some 36, (some (34, true)), .op (.bin .eql (.tmp 35) (.const (.int .i64 0)))⟩,
    ⟨some 37, (some (31, false)), .op (.pick (.tmp 34) (.tmp 36) (.const (.bool false)))⟩,
    ⟨some 38, none, .op (.pick (.tmp 31) (.const (.bool true)) (.tmp 37))⟩,
    ⟨some 39, none, .op (.mv (.tmp 38))⟩,
    ⟨some 40, (some (39, true)), .op (.mv (.tmp 5))⟩,
    ⟨some 41, (some (39, true)), .op (.nil 0 true (.tmp 40) (.const (.pointer none)))⟩,
    ⟨some 42, (some (39, true)), .op (.mv (.tmp 6))⟩,
    ⟨some 43, (some (39, true)), .op (.bin .eql (.tmp 42) (.const (.int .i64 0)))⟩,
    ⟨some 44, (some (39, true)), .op (.beq false (.tmp 41) (.tmp 43))⟩,
    ⟨some 45, none, .op (.pick (.tmp 39) (.tmp 44) (.const (.bool false)))⟩,
    ⟨some 46, none, .op (.mv (.tmp 45))⟩,
    ⟨some 47, (some (46, true)), .call 20 []⟩,
    ⟨some 48, none, .op (.pick (.tmp 46) (.tmp 47) (.const (.bool false)))⟩,
    ⟨some 4, none, .op (.mv (.tmp 48))⟩]

def c6_5 : C := .reg [⟨some 50, none, .op (.mv (.tmp 0))⟩,
    ⟨some 51, none, .call 19 [.tmp 50]⟩,
    ⟨some 49, none, .op (.mv (.tmp 51))⟩,
    ⟨some 52, none, .op (.ext (.tmp 49) 0)⟩,
    ⟨some 53, none, .op (.ext (.tmp 49) 1)⟩,
    ⟨some 9, none, .op (.mv (.tmp 52))⟩,
    ⟨some 10, none, .op (.mv (.tmp 53))⟩]

def c6_6 : C := .reg [⟨some 54, none, .op (.mv (.tmp 10))⟩,
    ⟨some 55, none, .op (.bin .neq (.tmp 54) (.const (.int .i64 0)))⟩]

def c6_7 : C := .reg [⟨some 4, none, .op (.mv (.const (.bool false)))⟩]

def c6_8 : C := .reg [⟨some 11, none, .op (.mv (.const (.int .i64 0)))⟩]

def c6_9 : C := .reg [⟨some 56, none, .op (.mv (.tmp 11))⟩,
    ⟨some 57, none, .op (.mv (.tmp 1))⟩,
    ⟨some 58, none, .op (.len (.tmp 57))⟩,
    ⟨some 59, none, .op (.bin .lss (.tmp 56) (.tmp 58))⟩,
    ⟨some 60, none, .op (.mv (.tmp 59))⟩,
    ⟨some 61, (some (60, true)), .op (.mv (.tmp 11))⟩,
    ⟨some 62, (some (60, true)), .op (.bin .lss (.tmp 61) (.const (.int .i64 60)))⟩,
    ⟨some 63, none, .op (.pick (.tmp 60) (.tmp 62) (.const (.bool false)))⟩]

def c6_10 : C := .reg [⟨some 66, none, .op (.mv (.tmp 5))⟩,
    ⟨some 67, none, .op (.mv (.tmp 9))⟩,
    ⟨some 68, none, .op (.mv (.tmp 1))⟩,
    ⟨some 69, none, .op (.mv (.tmp 11))⟩,
    ⟨some 70, none, .op (.ia 3 (.tmp 68) (.tmp 69))⟩,
    ⟨some 71, none, .op (.ld (some 3) (.tmp 70))⟩,
    ⟨some 72, none, .call 21 [.tmp 66, .tmp 67, .tmp 71]⟩,
    ⟨some 73, none, .op (.un .not (.tmp 72))⟩,
    ⟨some 74, none, .op (.mv (.tmp 73))⟩,
    ⟨some 75, (some (74, false)), .op (.mv (.tmp 5))⟩,
    ⟨some 76, (some (74, false)), .op (.mv (.tmp 9))⟩,
    ⟨some 77, (some (74, false)), .call 22 [.tmp 75, .tmp 76]⟩,
    ⟨some 78, (some (74, false)), .op (.un .not (.tmp 77))⟩,
    ⟨some 79, none, .op (.pick (.tmp 74) (.const (.bool true)) (.tmp 78))⟩]

def c6_11 : C := .reg [⟨some 4, none, .op (.mv (.const (.bool false)))⟩]

def c6_12 : C := .reg [⟨some 64, none, .op (.mv (.tmp 11))⟩,
    ⟨some 65, none, .op (.bin .add (.tmp 64) (.const (.int .i64 1)))⟩,
    ⟨some 11, none, .op (.mv (.tmp 65))⟩]

def c6_13 : C := .reg [⟨some 80, none, .call 20 []⟩,
    ⟨some 4, none, .op (.mv (.tmp 80))⟩]

def c6 : Fn' := ⟨(.seq c6_0 (.seq c6_1 (.seq (.seq c6_2 (.cond (.tmp 22) (.seq c6_3 (.seq c6_4 .ret)) .skip)) (.seq c6_5 (.seq (.seq c6_6 (.cond (.tmp 55) (.seq c6_7 .ret) .skip)) (.seq (.seq c6_8 (.block 0 (.loop (.seq (.seq c6_9 (.cond (.tmp 63) .skip (.exit 0))) (.seq (.block 1 (.seq c6_10 (.cond (.tmp 79) (.seq c6_11 .ret) .skip))) c6_12))))) (.seq c6_13 .ret))))))), [.tmp 4]⟩

theorem comp6 : compFn Try.prog 6 = some c6 := by kernel_rfl

def c19_0 : C := .reg [⟨some 2, none, .op (.mv (.const (.pointer none)))⟩,
    ⟨some 3, none, .op (.mv (.const (.int .i64 0)))⟩]

def c19_1 : C := .reg [⟨some 6, none, .op (.mv (.tmp 0))⟩,
    ⟨some 7, none, .op (.bin .lss (.tmp 6) (.const (.int .i64 0)))⟩,
    ⟨some 8, none, .op (.mv (.tmp 7))⟩,
    ⟨some 9, (some (8, false)), .op (.mv (.tmp 0))⟩,
    ⟨some 10, (some (8, false)), .op (.bin .gtr (.tmp 9) (.const (.int .i64 4194304)))⟩,
    ⟨some 11, none, .op (.pick (.tmp 8) (.const (.bool true)) (.tmp 10))⟩]

def c19_2 : C := .reg [⟨some 2, none, .op (.mv (.const (.pointer none)))⟩,
    ⟨some 3, none, .op (.mv (.const (.int .i64 2)))⟩]

def c19_3 : C := .reg [⟨some 12, none, .op (.mk [(.slice none 0 0), (.slice none 0 0), (.int .u64 0)] [(2, 1, .const (.int .u64 1))])⟩,
    ⟨some 13, none, .op (.box (.tmp 12))⟩,
    ⟨some 4, none, .op (.mv (.tmp 13))⟩]

def c19_4 : C := .reg [⟨some 5, none, .op (.mv (.const (.int .i64 0)))⟩]

def c19_5 : C := .reg [⟨some 14, none, .op (.mv (.tmp 5))⟩,
    ⟨some 15, none, .op (.mv (.tmp 0))⟩,
    ⟨some 16, none, .op (.bin .leq (.tmp 14) (.tmp 15))⟩]

def c19_6 : C := .reg [⟨some 19, none, .op (.mv (.tmp 4))⟩,
    ⟨some 20, none, .op (.mv (.tmp 4))⟩,
    ⟨some 21, none, .op (.nn (.tmp 20))⟩,
    ⟨some 22, none, .op (.fa 0 (.tmp 21))⟩,
    ⟨some 23, none, .op (.ld none (.tmp 22))⟩,
    ⟨some 24, none, .op (.mkSl (reps 1 [(.int .u64 0)]) 1 [(0, 1, .const (.int .u64 0))])⟩,
    ⟨some 25, none, .op (.app 1 8 (.tmp 23) (.tmp 24))⟩,
    ⟨some 26, none, .op (.nn (.tmp 19))⟩,
    ⟨some 27, none, .op (.fa 0 (.tmp 26))⟩,
    ⟨none, none, .op (.st 1 (.tmp 27) (.tmp 25))⟩]

def c19_7 : C := .reg [⟨some 28, none, .op (.mv (.tmp 4))⟩,
    ⟨some 29, none, .op (.mv (.tmp 4))⟩,
    ⟨some 30, none, .op (.nn (.tmp 29))⟩,
    ⟨some 31, none, .op (.fa 1 (.tmp 30))⟩,
    ⟨some 32, none, .op (.ld none (.tmp 31))⟩,
    ⟨some 33, none, .op (.mv (.tmp 5))⟩,
    ⟨some 34, none, .op (.bin .gtr (.tmp 33) (.const (.int .i64 0)))⟩,
    ⟨some 35, none, .op (.mkSl (reps 1 [(.bool false)]) 1 [(0, 1, .tmp 34)])⟩,
    ⟨some 36, none, .op (.app 1 1 (.tmp 32) (.tmp 35))⟩,
    ⟨some 37, none, .op (.nn (.tmp 28))⟩,
    ⟨some 38, none, .op (.fa 1 (.tmp 37))⟩,
    ⟨none, none, .op (.st 1 (.tmp 38) (.tmp 36))⟩]

def c19_8 : C := .reg [⟨some 17, none, .op (.mv (.tmp 5))⟩,
    ⟨some 18, none, .op (.bin .add (.tmp 17) (.const (.int .i64 1)))⟩,
    ⟨some 5, none, .op (.mv (.tmp 18))⟩]

def c19_9 : C := .reg [⟨some 39, none, .op (.mv (.tmp 4))⟩,
    ⟨some 2, none, .op (.mv (.tmp 39))⟩,
    ⟨some 3, none, .op (.mv (.const (.int .i64 0)))⟩]

def c19 : Fn' := ⟨(.seq c19_0 (.seq (.seq c19_1 (.cond (.tmp 11) (.seq c19_2 .ret) .skip)) (.seq c19_3 (.seq (.seq c19_4 (.block 0 (.loop (.seq (.seq c19_5 (.cond (.tmp 16) .skip (.exit 0))) (.seq (.block 1 (.seq c19_6 c19_7)) c19_8))))) (.seq c19_9 .ret))))), [.tmp 2, .tmp 3]⟩

theorem comp19 : compFn Try.prog 19 = some c19 := by kernel_rfl

def c21_0 : C := .reg [⟨some 5, none, .op (.box (.tmp 2))⟩,
    ⟨some 6, none, .op (.mv (.const (.bool false)))⟩]

def c21_1 : C := .reg [⟨some 13, none, .op (.fa 0 (.tmp 5))⟩,
    ⟨some 14, none, .op (.ld none (.tmp 13))⟩]

def c21_2 : C := .reg [⟨some 16, none, .op (.bin .eql (.tmp 14) (.const (.int .i64 0)))⟩,
    ⟨some 15, none, .op (.mv (.tmp 16))⟩]

def c21_3 : C := .reg [⟨some 18, none, .op (.mv (.tmp 0))⟩,
    ⟨some 19, none, .call 25 [.tmp 18]⟩,
    ⟨some 17, none, .op (.mv (.tmp 19))⟩,
    ⟨some 20, none, .op (.ext (.tmp 17) 0)⟩,
    ⟨some 21, none, .op (.ext (.tmp 17) 1)⟩,
    ⟨some 7, none, .op (.mv (.tmp 20))⟩,
    ⟨some 8, none, .op (.mv (.tmp 21))⟩]

def c21_4 : C := .reg [⟨some 23, none, .op (.mv (.tmp 1))⟩,
    ⟨some 24, none, .call 39 [.tmp 23]⟩,
    ⟨some 22, none, .op (.mv (.tmp 24))⟩,
    ⟨some 25, none, .op (.ext (.tmp 22) 0)⟩,
    ⟨some 26, none, .op (.ext (.tmp 22) 1)⟩,
    ⟨some 9, none, .op (.mv (.tmp 25))⟩,
    ⟨some 10, none, .op (.mv (.tmp 26))⟩]

def c21_5 : C := .reg [⟨some 27, none, .op (.mv (.tmp 7))⟩,
    ⟨some 28, none, .op (.mv (.tmp 9))⟩,
    ⟨some 29, none, .op (.bin .eql (.tmp 27) (.tmp 28))⟩,
    ⟨some 30, none, .op (.mv (.tmp 29))⟩,
    ⟨some 31, (some (30, true)), .op (.mv (.tmp 8))⟩,
    ⟨some 32, (some (30, true)), .op (.mv (.tmp 10))⟩,
    ⟨some 33, (some (30, true)), .op (.beq false (.tmp 31) (.tmp 32))⟩,
    ⟨some 34, none, .op (.pick (.tmp 30) (.tmp 33) (.const (.bool false)))⟩,
    ⟨some 6, none, .op (.mv (.tmp 34))⟩]

def c21_6 : C := .reg [⟨some 36, none, .op (.bin .eql (.tmp 14) (.const (.int .i64 1)))⟩,
    ⟨some 35, none, .op (.mv (.tmp 36))⟩]

def c21_7 : C := .regD 0 [⟨0, ⟨some 37, none, .op (.mv (.tmp 0))⟩, none, []⟩,
    ⟨1, ⟨some 38, none, .op (.fa 1 (.tmp 5))⟩, none, []⟩,
    ⟨2, ⟨some 39, none, .op (.ld none (.tmp 38))⟩, none, []⟩,
    ⟨4, ⟨some 41, none, .op (.mv (.tmp 1))⟩, none, []⟩,
    ⟨5, ⟨some 42, none, .op (.fa 1 (.tmp 5))⟩, none, []⟩,
    ⟨6, ⟨some 43, none, .op (.ld none (.tmp 42))⟩, none, []⟩,
    ⟨3, ⟨some 40, none, .call 29 [.tmp 37, .tmp 39]⟩, none, [(none, .tmp 42, 43, none)]⟩,
    ⟨7, ⟨some 44, none, .call 40 [.tmp 41, .tmp 43]⟩, none, []⟩,
    ⟨8, ⟨some 45, none, .op (.bin .eql (.tmp 40) (.tmp 44))⟩, none, []⟩,
    ⟨9, ⟨some 6, none, .op (.mv (.tmp 45))⟩, none, []⟩]

def c21_8 : C := .reg [⟨some 47, none, .op (.bin .eql (.tmp 14) (.const (.int .i64 2)))⟩,
    ⟨some 46, none, .op (.mv (.tmp 47))⟩]

def c21_9 : C := .reg [⟨some 11, none, .op (.mv (.const (.int .i64 0)))⟩]

def c21_10 : C := .reg [⟨some 48, none, .op (.mv (.tmp 11))⟩,
    ⟨some 49, none, .op (.fa 2 (.tmp 5))⟩,
    ⟨some 50, none, .op (.ld none (.tmp 49))⟩,
    ⟨some 51, none, .op (.bin .rem (.tmp 50) (.const (.int .u16 1000)))⟩,
    ⟨some 52, none, .op (.conv .i64 (.tmp 51))⟩,
    ⟨some 53, none, .op (.bin .leq (.tmp 48) (.tmp 52))⟩]

def c21_11 : C := .regD 0 [⟨0, ⟨some 56, none, .op (.mv (.tmp 0))⟩, none, []⟩,
    ⟨1, ⟨some 57, none, .op (.fa 1 (.tmp 5))⟩, none, []⟩,
    ⟨2, ⟨some 58, none, .op (.ld none (.tmp 57))⟩, none, []⟩,
    ⟨4, ⟨some 60, none, .op (.mv (.tmp 1))⟩, none, []⟩,
    ⟨5, ⟨some 61, none, .op (.fa 1 (.tmp 5))⟩, none, []⟩,
    ⟨6, ⟨some 62, none, .op (.ld none (.tmp 61))⟩, none, []⟩,
    ⟨3, ⟨some 59, none, .call 23 [.tmp 56, .tmp 58]⟩, none, [(none, .tmp 61, 62, none)]⟩,
    ⟨7, ⟨some 63, none, .call 41 [.tmp 60, .tmp 62]⟩, none, []⟩,
    ⟨8, ⟨some 64, none, .op (.bin .neq (.tmp 59) (.tmp 63))⟩, none, []⟩]

def c21_12 : C := .reg [⟨some 6, none, .op (.mv (.const (.bool false)))⟩]

def c21_13 : C := .reg [⟨some 54, none, .op (.mv (.tmp 11))⟩,
    ⟨some 55, none, .op (.bin .add (.tmp 54) (.const (.int .i64 1)))⟩,
    ⟨some 11, none, .op (.mv (.tmp 55))⟩]

def c21_14 : C := .reg [⟨some 6, none, .op (.mv (.const (.bool true)))⟩]

def c21_15 : C := .reg [⟨some 12, none, .op (.mv (.const (.int .i64 0)))⟩]

def c21_16 : C := .reg [⟨some 65, none, .op (.mv (.tmp 12))⟩,
    ⟨some 66, none, .op (.fa 2 (.tmp 5))⟩,
    ⟨some 67, none, .op (.ld none (.tmp 66))⟩,
    ⟨some 68, none, .op (.bin .rem (.tmp 67) (.const (.int .u16 1000)))⟩,
    ⟨some 69, none, .op (.conv .i64 (.tmp 68))⟩,
    ⟨some 70, none, .op (.bin .leq (.tmp 65) (.tmp 69))⟩]

def c21_17 : C := .reg [⟨some 73, none, .op (.mv (.tmp 0))⟩,
    ⟨some 74, none, .call 24 [.tmp 73]⟩]

def c21_18 : C := .reg [⟨some 75, none, .op (.mv (.tmp 1))⟩,
    ⟨some 76, none, .call 42 [.tmp 75]⟩]

def c21_19 : C := .reg [⟨some 71, none, .op (.mv (.tmp 12))⟩,
    ⟨some 72, none, .op (.bin .add (.tmp 71) (.const (.int .i64 1)))⟩,
    ⟨some 12, none, .op (.mv (.tmp 72))⟩]

def c21_20 : C := .reg [⟨some 6, none, .op (.mv (.const (.bool true)))⟩]

def c21 : Fn' := ⟨(.seq c21_0 (.seq (.seq c21_1 (.block 0 (.seq c21_2 (.cond (.tmp 15) (.seq c21_3 (.seq c21_4 (.seq c21_5 .ret))) (.seq c21_6 (.cond (.tmp 35) (.seq c21_7 .ret) (.seq c21_8 (.cond (.tmp 46) (.seq (.seq c21_9 (.block 1 (.loop (.seq (.seq c21_10 (.cond (.tmp 53) .skip (.exit 1))) (.seq (.block 2 (.seq c21_11 (.cond (.tmp 64) (.seq c21_12 .ret) .skip))) c21_13))))) (.seq c21_14 .ret)) .skip)))))))) (.seq (.seq c21_15 (.block 3 (.loop (.seq (.seq c21_16 (.cond (.tmp 70) .skip (.exit 3))) (.seq (.block 4 (.seq c21_17 c21_18)) c21_19))))) (.seq c21_20 .ret)))), [.tmp 6]⟩

theorem comp21 : compFn Try.prog 21 = some c21 := by kernel_rfl

def c22_0 : C := .reg [⟨some 4, none, .op (.mv (.const (.bool false)))⟩]

def c22_1 : C := .reg [⟨some 5, none, .op (.mv (.const (.int .i64 (-1))))⟩]

def c22_2 : C := .reg [⟨some 6, none, .op (.mv (.tmp 5))⟩,
    ⟨some 7, none, .op (.mv (.tmp 1))⟩,
    ⟨some 8, none, .op (.nn (.tmp 7))⟩,
    ⟨some 9, none, .op (.fa 0 (.tmp 8))⟩,
    ⟨some 10, none, .op (.ld none (.tmp 9))⟩,
    ⟨some 11, none, .op (.len (.tmp 10))⟩,
    ⟨some 12, none, .op (.bin .leq (.tmp 6) (.tmp 11))⟩]

def c22_3 : C := .reg [⟨some 15, none, .op (.mv (.tmp 0))⟩,
    ⟨some 16, none, .op (.mv (.tmp 5))⟩,
    ⟨some 17, none, .call 28 [.tmp 15, .tmp 16]⟩,
    ⟨some 18, none, .op (.mv (.tmp 1))⟩,
    ⟨some 19, none, .op (.mv (.tmp 5))⟩,
    ⟨some 20, none, .call 43 [.tmp 18, .tmp 19]⟩,
    ⟨some 21, none, .op (.bin .neq (.tmp 17) (.tmp 20))⟩,
    ⟨some 22, none, .op (.mv (.tmp 21))⟩,
    ⟨some 23, (some (22, false)), .op (.mv (.tmp 0))⟩,
    ⟨some 24, (some (22, false)), .op (.mv (.tmp 5))⟩,
    ⟨some 25, (some (22, false)), .call 26 [.tmp 23, .tmp 24]⟩,
    ⟨some 26, (some (22, false)), .op (.mv (.tmp 1))⟩,
    ⟨some 27, (some (22, false)), .op (.mv (.tmp 5))⟩,
    ⟨some 28, (some (22, false)), .call 44 [.tmp 26, .tmp 27]⟩,
    ⟨some 29, (some (22, false)), .op (.beq true (.tmp 25) (.tmp 28))⟩,
    ⟨some 30, none, .op (.pick (.tmp 22) (.const (.bool true)) (.tmp 29))⟩]

def c22_4 : C := .reg [⟨some 4, none, .op (.mv (.const (.bool false)))⟩]

def c22_5 : C := .reg [⟨some 13, none, .op (.mv (.tmp 5))⟩,
    ⟨some 14, none, .op (.bin .add (.tmp 13) (.const (.int .i64 1)))⟩,
    ⟨some 5, none, .op (.mv (.tmp 14))⟩]

def c22_6 : C := .reg [⟨some 31, none, .op (.mv (.tmp 0))⟩,
    ⟨some 32, none, .call 27 [.tmp 31]⟩,
    ⟨some 33, none, .op (.mv (.tmp 1))⟩,
    ⟨some 34, none, .call 45 [.tmp 33]⟩,
    ⟨some 35, none, .op (.bin .eql (.tmp 32) (.tmp 34))⟩,
    ⟨some 4, none, .op (.mv (.tmp 35))⟩]

def c22 : Fn' := ⟨(.seq c22_0 (.seq (.seq c22_1 (.block 0 (.loop (.seq (.seq c22_2 (.cond (.tmp 12) .skip (.exit 0))) (.seq (.block 1 (.seq c22_3 (.cond (.tmp 30) (.seq c22_4 .ret) .skip))) c22_5))))) (.seq c22_6 .ret))), [.tmp 4]⟩

theorem comp22 : compFn Try.prog 22 = some c22 := by kernel_rfl

def c39_0 : C := .reg [⟨some 2, none, .op (.mv (.const (.int .i64 0)))⟩,
    ⟨some 3, none, .op (.mv (.const (.bool false)))⟩]

def c39_1 : C := .reg [⟨some 4, none, .op (.mv (.const (.int .i64 0)))⟩]

def c39_2 : C := .reg [⟨some 5, none, .op (.mv (.const (.int .i64 1)))⟩]

def c39_3 : C := .reg [⟨some 6, none, .op (.mv (.tmp 5))⟩,
    ⟨some 7, none, .op (.mv (.tmp 0))⟩,
    ⟨some 8, none, .op (.nn (.tmp 7))⟩,
    ⟨some 9, none, .op (.fa 0 (.tmp 8))⟩,
    ⟨some 10, none, .op (.ld none (.tmp 9))⟩,
    ⟨some 11, none, .op (.len (.tmp 10))⟩,
    ⟨some 12, none, .op (.bin .lss (.tmp 6) (.tmp 11))⟩]

def c39_4 : C := .regD 0 [⟨0, ⟨some 15, none, .op (.mv (.tmp 0))⟩, none, []⟩,
    ⟨1, ⟨some 16, none, .op (.nn (.tmp 15))⟩, none, []⟩,
    ⟨2, ⟨some 17, none, .op (.fa 1 (.tmp 16))⟩, none, []⟩,
    ⟨3, ⟨some 18, none, .op (.ld none (.tmp 17))⟩, none, []⟩,
    ⟨4, ⟨some 19, none, .op (.mv (.tmp 5))⟩, none, []⟩,
    ⟨5, ⟨some 20, none, .op (.ia 1 (.tmp 18) (.tmp 19))⟩, none, []⟩,
    ⟨6, ⟨some 21, none, .op (.ld none (.tmp 20))⟩, none, []⟩,
    ⟨7, ⟨some 22, none, .op (.mv (.tmp 21))⟩, none, []⟩,
    ⟨8, ⟨some 23, (some (22, true)), .op (.mv (.tmp 4))⟩, none, []⟩,
    ⟨9, ⟨some 24, (some (22, true)), .op (.bin .eql (.tmp 23) (.const (.int .i64 0)))⟩, none, []⟩,
    ⟨10, ⟨some 25, (some (22, true)), .op (.mv (.tmp 24))⟩, none, []⟩,
    ⟨11, ⟨some 26, (some (25, false)), .op (.mv (.tmp 0))⟩, none, []⟩,
    ⟨12, ⟨some 27, (some (25, false)), .op (.nn (.tmp 26))⟩, none, []⟩,
    ⟨13, ⟨some 28, (some (25, false)), .op (.fa 0 (.tmp 27))⟩, none, []⟩,
    ⟨14, ⟨some 29, (some (25, false)), .op (.ld none (.tmp 28))⟩, none, []⟩,
    ⟨15, ⟨some 30, (some (25, false)), .op (.mv (.tmp 5))⟩, none, []⟩,
    ⟨16, ⟨some 31, (some (25, false)), .op (.ia 1 (.tmp 29) (.tmp 30))⟩, none, []⟩,
    ⟨17, ⟨some 32, (some (25, false)), .op (.ld none (.tmp 31))⟩, none, []⟩,
    ⟨18, ⟨some 33, (some (25, false)), .op (.mv (.tmp 0))⟩, none, []⟩,
    ⟨19, ⟨some 34, (some (25, false)), .op (.nn (.tmp 33))⟩, none, []⟩,
    ⟨20, ⟨some 35, (some (25, false)), .op (.fa 0 (.tmp 34))⟩, none, []⟩,
    ⟨21, ⟨some 36, (some (25, false)), .op (.ld none (.tmp 35))⟩, none, []⟩,
    ⟨22, ⟨some 37, (some (25, false)), .op (.mv (.tmp 4))⟩, none, []⟩,
    ⟨23, ⟨some 38, (some (25, false)), .op (.ia 1 (.tmp 36) (.tmp 37))⟩, none, []⟩,
    ⟨24, ⟨some 39, (some (25, false)), .op (.ld none (.tmp 38))⟩, none, []⟩,
    ⟨25, ⟨some 40, (some (25, false)), .op (.bin .gtr (.tmp 32) (.tmp 39))⟩, none, []⟩,
    ⟨26, ⟨some 41, (some (22, true)), .op (.pick (.tmp 25) (.const (.bool true)) (.tmp 40))⟩, none, []⟩,
    ⟨27, ⟨some 42, none, .op (.pick (.tmp 22) (.tmp 41) (.const (.bool false)))⟩, none, []⟩]

def c39_5 : C := .reg [⟨some 43, none, .op (.mv (.tmp 5))⟩,
    ⟨some 4, none, .op (.mv (.tmp 43))⟩]

def c39_6 : C := .reg [⟨some 13, none, .op (.mv (.tmp 5))⟩,
    ⟨some 14, none, .op (.bin .add (.tmp 13) (.const (.int .i64 1)))⟩,
    ⟨some 5, none, .op (.mv (.tmp 14))⟩]

def c39_7 : C := .reg [⟨some 44, none, .op (.mv (.tmp 4))⟩,
    ⟨some 45, none, .op (.bin .eql (.tmp 44) (.const (.int .i64 0)))⟩]

def c39_8 : C := .reg [⟨some 2, none, .op (.mv (.const (.int .i64 0)))⟩,
    ⟨some 3, none, .op (.mv (.const (.bool false)))⟩]

def c39_9 : C := .reg [⟨some 46, none, .op (.mv (.tmp 0))⟩,
    ⟨some 47, none, .op (.nn (.tmp 46))⟩,
    ⟨some 48, none, .op (.fa 1 (.tmp 47))⟩,
    ⟨some 49, none, .op (.ld none (.tmp 48))⟩,
    ⟨some 50, none, .op (.mv (.tmp 4))⟩,
    ⟨some 51, none, .op (.ia 1 (.tmp 49) (.tmp 50))⟩,
    ⟨none, none, .op (.st 1 (.tmp 51) (.const (.bool false)))⟩]

def c39_10 : C := .reg [⟨some 52, none, .op (.mv (.tmp 4))⟩,
    ⟨some 2, none, .op (.mv (.tmp 52))⟩,
    ⟨some 3, none, .op (.mv (.const (.bool true)))⟩]

def c39 : Fn' := ⟨(.seq c39_0 (.seq c39_1 (.seq (.seq c39_2 (.block 0 (.loop (.seq (.seq c39_3 (.cond (.tmp 12) .skip (.exit 0))) (.seq (.block 1 (.seq c39_4 (.cond (.tmp 42) c39_5 .skip))) c39_6))))) (.seq (.seq c39_7 (.cond (.tmp 45) (.seq c39_8 .ret) .skip)) (.seq c39_9 (.seq c39_10 .ret)))))), [.tmp 2, .tmp 3]⟩

theorem comp39 : compFn Try.prog 39 = some c39 := by kernel_rfl

def c40_0 : C := .reg [⟨some 4, none, .op (.mv (.const (.int .i64 0)))⟩]

def c40_1 : C := .reg [⟨some 5, none, .op (.mv (.tmp 0))⟩,
    ⟨some 6, none, .op (.mv (.tmp 1))⟩,
    ⟨some 7, none, .call 61 [.tmp 5, .tmp 6]⟩,
    ⟨some 8, none, .op (.un .not (.tmp 7))⟩]

def c40_2 : C := .reg [⟨some 4, none, .op (.mv (.const (.int .i64 2)))⟩]

def c40_3 : C := .reg [⟨some 9, none, .op (.mv (.tmp 0))⟩,
    ⟨some 10, none, .op (.nn (.tmp 9))⟩,
    ⟨some 11, none, .op (.fa 1 (.tmp 10))⟩,
    ⟨some 12, none, .op (.ld none (.tmp 11))⟩,
    ⟨some 13, none, .op (.mv (.tmp 1))⟩,
    ⟨some 14, none, .op (.ia 1 (.tmp 12) (.tmp 13))⟩,
    ⟨none, none, .op (.st 1 (.tmp 14) (.const (.bool true)))⟩]

def c40_4 : C := .reg [⟨some 4, none, .op (.mv (.const (.int .i64 0)))⟩]

def c40 : Fn' := ⟨(.seq c40_0 (.seq (.seq c40_1 (.cond (.tmp 8) (.seq c40_2 .ret) .skip)) (.seq c40_3 (.seq c40_4 .ret)))), [.tmp 4]⟩

theorem comp40 : compFn Try.prog 40 = some c40 := by kernel_rfl

def c41_0 : C := .reg [⟨some 4, none, .op (.mv (.const (.int .i64 0)))⟩]

def c41_1 : C := .reg [⟨some 5, none, .op (.mv (.tmp 0))⟩,
    ⟨some 6, none, .op (.mv (.tmp 1))⟩,
    ⟨some 7, none, .call 61 [.tmp 5, .tmp 6]⟩,
    ⟨some 8, none, .op (.un .not (.tmp 7))⟩]

def c41_2 : C := .reg [⟨some 4, none, .op (.mv (.const (.int .i64 2)))⟩]

def c41_3 : C := .regD 0 [⟨0, ⟨some 9, none, .op (.mv (.tmp 0))⟩, none, []⟩,
    ⟨1, ⟨some 10, none, .op (.nn (.tmp 9))⟩, none, []⟩,
    ⟨2, ⟨some 11, none, .op (.fa 0 (.tmp 10))⟩, none, []⟩,
    ⟨3, ⟨some 12, none, .op (.ld none (.tmp 11))⟩, none, []⟩,
    ⟨4, ⟨some 13, none, .op (.mv (.tmp 1))⟩, none, []⟩,
    ⟨5, ⟨some 14, none, .op (.mv (.tmp 0))⟩, none, []⟩,
    ⟨6, ⟨some 15, none, .op (.nn (.tmp 14))⟩, none, []⟩,
    ⟨7, ⟨some 16, none, .op (.fa 0 (.tmp 15))⟩, none, []⟩,
    ⟨8, ⟨some 17, none, .op (.ld none (.tmp 16))⟩, none, []⟩,
    ⟨9, ⟨some 18, none, .op (.mv (.tmp 1))⟩, none, []⟩,
    ⟨10, ⟨some 19, none, .op (.ia 1 (.tmp 17) (.tmp 18))⟩, none, []⟩,
    ⟨11, ⟨some 20, none, .op (.ld none (.tmp 19))⟩, none, []⟩,
    ⟨12, ⟨some 21, none, .op (.mv (.tmp 0))⟩, none, []⟩,
    ⟨13, ⟨some 22, none, .op (.nn (.tmp 21))⟩, none, []⟩,
    ⟨14, ⟨some 23, none, .op (.fa 2 (.tmp 22))⟩, none, []⟩,
    ⟨15, ⟨some 24, none, .op (.ld none (.tmp 23))⟩, none, []⟩,
    ⟨16, ⟨some 25, none, .op (.bin .add (.tmp 20) (.tmp 24))⟩, none, []⟩,
    ⟨17, ⟨some 26, none, .op (.ia 1 (.tmp 12) (.tmp 13))⟩, none, []⟩,
    ⟨18, ⟨none, none, .op (.st 1 (.tmp 26) (.tmp 25))⟩, none, []⟩]

def c41_4 : C := .reg [⟨some 27, none, .op (.mv (.tmp 0))⟩,
    ⟨some 28, none, .op (.nn (.tmp 27))⟩,
    ⟨some 29, none, .op (.fa 0 (.tmp 28))⟩,
    ⟨some 30, none, .op (.ld none (.tmp 29))⟩,
    ⟨some 31, none, .op (.mv (.tmp 1))⟩,
    ⟨some 32, none, .op (.ia 1 (.tmp 30) (.tmp 31))⟩,
    ⟨some 33, none, .op (.ld none (.tmp 32))⟩,
    ⟨some 34, none, .op (.bin .gtr (.tmp 33) (.const (.int .u64 281474976710656)))⟩]

def c41_5 : C := .reg [⟨some 35, none, .op (.mv (.tmp 0))⟩,
    ⟨some 36, none, .call 62 [.tmp 35]⟩]

def c41_6 : C := .reg [⟨some 4, none, .op (.mv (.const (.int .i64 0)))⟩]

def c41 : Fn' := ⟨(.seq c41_0 (.seq (.seq c41_1 (.cond (.tmp 8) (.seq c41_2 .ret) .skip)) (.seq c41_3 (.seq (.seq c41_4 (.cond (.tmp 34) c41_5 .skip)) (.seq c41_6 .ret))))), [.tmp 4]⟩

theorem comp41 : compFn Try.prog 41 = some c41 := by kernel_rfl

def c42_0 : C := .regD 0 [⟨0, ⟨some 2, none, .op (.mv (.tmp 0))⟩, none, []⟩,
    ⟨1, ⟨some 3, none, .op (.mv (.tmp 0))⟩, none, []⟩,
    ⟨2, ⟨some 4, none, .op (.nn (.tmp 3))⟩, none, []⟩,
    ⟨3, ⟨some 5, none, .op (.fa 2 (.tmp 4))⟩, none, []⟩,
    ⟨4, ⟨some 6, none, .op (.ld none (.tmp 5))⟩, none, []⟩,
    ⟨5, ⟨some 7, none, .op (.mv (.tmp 0))⟩, none, []⟩,
    ⟨6, ⟨some 8, none, .op (.nn (.tmp 7))⟩, none, []⟩,
    ⟨7, ⟨some 9, none, .op (.fa 2 (.tmp 8))⟩, none, []⟩,
    ⟨8, ⟨some 10, none, .op (.ld none (.tmp 9))⟩, none, []⟩,
    ⟨9, ⟨some 11, none, .op (.bin .quo (.tmp 10) (.const (.int .u64 8)))⟩, none, []⟩,
    ⟨10, ⟨some 12, none, .op (.bin .add (.tmp 6) (.tmp 11))⟩, none, []⟩,
    ⟨11, ⟨some 13, none, .op (.bin .add (.tmp 12) (.const (.int .u64 1)))⟩, none, []⟩,
    ⟨12, ⟨some 14, none, .op (.nn (.tmp 2))⟩, none, []⟩,
    ⟨13, ⟨some 15, none, .op (.fa 2 (.tmp 14))⟩, none, []⟩,
    ⟨14, ⟨none, none, .op (.st 1 (.tmp 15) (.tmp 13))⟩, none, []⟩]

def c42_1 : C := .reg [⟨some 16, none, .op (.mv (.tmp 0))⟩,
    ⟨some 17, none, .op (.nn (.tmp 16))⟩,
    ⟨some 18, none, .op (.fa 2 (.tmp 17))⟩,
    ⟨some 19, none, .op (.ld none (.tmp 18))⟩,
    ⟨some 20, none, .op (.bin .gtr (.tmp 19) (.const (.int .u64 281474976710656)))⟩]

def c42_2 : C := .reg [⟨some 21, none, .op (.mv (.tmp 0))⟩,
    ⟨some 22, none, .call 62 [.tmp 21]⟩]

def c42 : Fn' := ⟨(.seq c42_0 (.seq c42_1 (.cond (.tmp 20) c42_2 .skip))), []⟩

theorem comp42 : compFn Try.prog 42 = some c42 := by kernel_rfl

def c43_0 : C := .reg [⟨some 4, none, .op (.mv (.const (.int .u64 0)))⟩]

def c43_1 : C := .reg [⟨some 5, none, .op (.mv (.tmp 0))⟩,
    ⟨some 6, none, .op (.mv (.tmp 1))⟩,
    ⟨some 7, none, .call 61 [.tmp 5, .tmp 6]⟩,
    ⟨some 8, none, .op (.un .not (.tmp 7))⟩]

def c43_2 : C := .reg [⟨some 4, none, .op (.mv (.const (.int .u64 0)))⟩]

def c43_3 : C := .reg [⟨some 9, none, .op (.mv (.tmp 0))⟩,
    ⟨some 10, none, .op (.nn (.tmp 9))⟩,
    ⟨some 11, none, .op (.fa 0 (.tmp 10))⟩,
    ⟨some 12, none, .op (.ld none (.tmp 11))⟩,
    ⟨some 13, none, .op (.mv (.tmp 1))⟩,
    ⟨some 14, none, .op (.ia 1 (.tmp 12) (.tmp 13))⟩,
    ⟨some 15, none, .op (.ld none (.tmp 14))⟩,
    ⟨some 4, none, .op (.mv (.tmp 15))⟩]

def c43 : Fn' := ⟨(.seq c43_0 (.seq (.seq c43_1 (.cond (.tmp 8) (.seq c43_2 .ret) .skip)) (.seq c43_3 .ret))), [.tmp 4]⟩

theorem comp43 : compFn Try.prog 43 = some c43 := by kernel_rfl

def c44_0 : C := .reg [⟨some 4, none, .op (.mv (.const (.bool false)))⟩]

def c44_1 : C := .reg [⟨some 5, none, .op (.mv (.tmp 0))⟩,
    ⟨some 6, none, .op (.mv (.tmp 1))⟩,
    ⟨some 7, none, .call 61 [.tmp 5, .tmp 6]⟩,
    ⟨some 8, none, .op (.mv (.tmp 7))⟩,
    ⟨some 9, (some (8, true)), .op (.mv (.tmp 0))⟩,
    ⟨some 10, (some (8, true)), .op (.nn (.tmp 9))⟩,
    ⟨some 11, (some (8, true)), .op (.fa 1 (.tmp 10))⟩,
    ⟨some 12, (some (8, true)), .op (.ld none (.tmp 11))⟩,
    ⟨some 13, (some (8, true)), .op (.mv (.tmp 1))⟩,
    ⟨some 14, (some (8, true)), .op (.ia 1 (.tmp 12) (.tmp 13))⟩,
    ⟨some 15, (some (8, true)), .op (.ld none (.tmp 14))⟩,
    ⟨some 16, none, .op (.pick (.tmp 8) (.tmp 15) (.const (.bool false)))⟩,
    ⟨some 4, none, .op (.mv (.tmp 16))⟩]

def c44 : Fn' := ⟨(.seq c44_0 (.seq c44_1 .ret)), [.tmp 4]⟩

theorem comp44 : compFn Try.prog 44 = some c44 := by kernel_rfl

def c45_0 : C := .reg [⟨some 2, none, .op (.mv (.const (.int .i64 0)))⟩]

def c45_1 : C := .reg [⟨some 3, none, .op (.mv (.const (.int .i64 0)))⟩]

def c45_2 : C := .reg [⟨some 4, none, .op (.mv (.const (.int .i64 1)))⟩]

def c45_3 : C := .reg [⟨some 5, none, .op (.mv (.tmp 4))⟩,
    ⟨some 6, none, .op (.mv (.tmp 0))⟩,
    ⟨some 7, none, .op (.nn (.tmp 6))⟩,
    ⟨some 8, none, .op (.fa 1 (.tmp 7))⟩,
    ⟨some 9, none, .op (.ld none (.tmp 8))⟩,
    ⟨some 10, none, .op (.len (.tmp 9))⟩,
    ⟨some 11, none, .op (.bin .lss (.tmp 5) (.tmp 10))⟩]

def c45_4 : C := .reg [⟨some 14, none, .op (.mv (.tmp 0))⟩,
    ⟨some 15, none, .op (.nn (.tmp 14))⟩,
    ⟨some 16, none, .op (.fa 1 (.tmp 15))⟩,
    ⟨some 17, none, .op (.ld none (.tmp 16))⟩,
    ⟨some 18, none, .op (.mv (.tmp 4))⟩,
    ⟨some 19, none, .op (.ia 1 (.tmp 17) (.tmp 18))⟩,
    ⟨some 20, none, .op (.ld none (.tmp 19))⟩]

def c45_5 : C := .reg [⟨some 21, none, .op (.mv (.tmp 3))⟩,
    ⟨some 22, none, .op (.bin .add (.tmp 21) (.const (.int .i64 1)))⟩,
    ⟨some 3, none, .op (.mv (.tmp 22))⟩]

def c45_6 : C := .reg [⟨some 12, none, .op (.mv (.tmp 4))⟩,
    ⟨some 13, none, .op (.bin .add (.tmp 12) (.const (.int .i64 1)))⟩,
    ⟨some 4, none, .op (.mv (.tmp 13))⟩]

def c45_7 : C := .reg [⟨some 23, none, .op (.mv (.tmp 3))⟩,
    ⟨some 2, none, .op (.mv (.tmp 23))⟩]

def c45 : Fn' := ⟨(.seq c45_0 (.seq c45_1 (.seq (.seq c45_2 (.block 0 (.loop (.seq (.seq c45_3 (.cond (.tmp 11) .skip (.exit 0))) (.seq (.block 1 (.seq c45_4 (.cond (.tmp 20) c45_5 .skip))) c45_6))))) (.seq c45_7 .ret)))), [.tmp 2]⟩

theorem comp45 : compFn Try.prog 45 = some c45 := by kernel_rfl

def c61_0 : C := .reg [⟨some 4, none, .op (.mv (.const (.bool false)))⟩]

def c61_1 : C := .reg [⟨some 5, none, .op (.mv (.tmp 1))⟩,
    ⟨some 6, none, .op (.bin .geq (.tmp 5) (.const (.int .i64 1)))⟩,
    ⟨some 7, none, .op (.mv (.tmp 6))⟩,
    ⟨some 8, (some (7, true)), .op (.mv (.tmp 1))⟩,
    ⟨some 9, (some (7, true)), .op (.mv (.tmp 0))⟩,
    ⟨some 10, (some (7, true)), .op (.nn (.tmp 9))⟩,
    ⟨some 11, (some (7, true)), .op (.fa 0 (.tmp 10))⟩,
    ⟨some 12, (some (7, true)), .op (.ld none (.tmp 11))⟩,
    ⟨some 13, (some (7, true)), .op (.len (.tmp 12))⟩,
    ⟨some 14, (some (7, true)), .op (.bin .lss (.tmp 8) (.tmp 13))⟩,
    ⟨some 15, none, .op (.pick (.tmp 7) (.tmp 14) (.const (.bool false)))⟩,
    ⟨some 4, none, .op (.mv (.tmp 15))⟩]

def c61 : Fn' := ⟨(.seq c61_0 (.seq c61_1 .ret)), [.tmp 4]⟩

theorem comp61 : compFn Try.prog 61 = some c61 := by kernel_rfl

def c62_0 : C := .reg [⟨some 2, none, .op (.mv (.const (.int .i64 0)))⟩]

def c62_1 : C := .reg [⟨some 3, none, .op (.mv (.tmp 2))⟩,
    ⟨some 4, none, .op (.mv (.tmp 0))⟩,
    ⟨some 5, none, .op (.nn (.tmp 4))⟩,
    ⟨some 6, none, .op (.fa 0 (.tmp 5))⟩,
    ⟨some 7, none, .op (.ld none (.tmp 6))⟩,
    ⟨some 8, none, .op (.len (.tmp 7))⟩,
    ⟨some 9, none, .op (.bin .lss (.tmp 3) (.tmp 8))⟩]

def c62_2 : C := .regD 0 [⟨0, ⟨some 12, none, .op (.mv (.tmp 0))⟩, none, []⟩,
    ⟨1, ⟨some 13, none, .op (.nn (.tmp 12))⟩, none, []⟩,
    ⟨2, ⟨some 14, none, .op (.fa 0 (.tmp 13))⟩, none, []⟩,
    ⟨3, ⟨some 15, none, .op (.ld none (.tmp 14))⟩, none, []⟩,
    ⟨4, ⟨some 16, none, .op (.mv (.tmp 2))⟩, none, []⟩,
    ⟨5, ⟨some 17, none, .op (.mv (.tmp 0))⟩, none, []⟩,
    ⟨6, ⟨some 18, none, .op (.nn (.tmp 17))⟩, none, []⟩,
    ⟨7, ⟨some 19, none, .op (.fa 0 (.tmp 18))⟩, none, []⟩,
    ⟨8, ⟨some 20, none, .op (.ld none (.tmp 19))⟩, none, []⟩,
    ⟨9, ⟨some 21, none, .op (.mv (.tmp 2))⟩, none, []⟩,
    ⟨10, ⟨some 22, none, .op (.ia 1 (.tmp 20) (.tmp 21))⟩, none, []⟩,
    ⟨11, ⟨some 23, none, .op (.ld none (.tmp 22))⟩, none, []⟩,
    ⟨12, ⟨some 24, none, .op (.bin .quo (.tmp 23) (.const (.int .u64 16777216)))⟩, none, []⟩,
    ⟨13, ⟨some 25, none, .op (.ia 1 (.tmp 15) (.tmp 16))⟩, none, []⟩,
    ⟨14, ⟨none, none, .op (.st 1 (.tmp 25) (.tmp 24))⟩, none, []⟩]

def c62_3 : C := .reg [⟨some 10, none, .op (.mv (.tmp 2))⟩,
    ⟨some 11, none, .op (.bin .add (.tmp 10) (.const (.int .i64 1)))⟩,
    ⟨some 2, none, .op (.mv (.tmp 11))⟩]

def c62_4 : C := .reg [⟨some 26, none, .op (.mv (.tmp 0))⟩,
    ⟨some 27, none, .op (.mv (.tmp 0))⟩,
    ⟨some 28, none, .op (.nn (.tmp 27))⟩,
    ⟨some 29, none, .op (.fa 2 (.tmp 28))⟩,
    ⟨some 30, none, .op (.ld none (.tmp 29))⟩,
    ⟨some 31, none, .op (.bin .quo (.tmp 30) (.const (.int .u64 16777216)))⟩,
    ⟨some 32, none, .op (.mm true (.tmp 31) [.const (.int .u64 1)])⟩,
    ⟨some 33, none, .op (.nn (.tmp 26))⟩,
    ⟨some 34, none, .op (.fa 2 (.tmp 33))⟩,
    ⟨none, none, .op (.st 1 (.tmp 34) (.tmp 32))⟩]

def c62 : Fn' := ⟨(.seq (.seq c62_0 (.block 0 (.loop (.seq (.seq c62_1 (.cond (.tmp 9) .skip (.exit 0))) (.seq (.block 1 c62_2) c62_3))))) c62_4), []⟩

theorem comp62 : compFn Try.prog 62 = some c62 := by kernel_rfl

end Go.Proofs.Ytnejnaoehcahbaa.q
