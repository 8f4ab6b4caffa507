/-
  The codes of functions (Cert).
-/
import Derived.Test.YtmmpnmekiplhfaaGreatAeComp
import Derived.Test.YtmmpnmekiplhfaaGreatRows
import Derived.KernelRfl
namespace Go.Proofs.YtmmpnmekiplhfaaGreat
open Go Go.Ae

def c34_0 : C := .reg [⟨some 0, none, .op (.mv (.const (.bool false)))⟩]
def c34_1 : C := .reg [⟨some 17, none, .call 80 []⟩,
    ⟨some 18, none, .op (.mkSl (reps 1 [(.int .u32 0)]) 1 [(0, 1, .const (.int .u32 5))])⟩,
    ⟨some 19, none, .op (.mkSl (reps 1 [(.slice none 0 0)]) 1 [(0, 1, .tmp 18)])⟩,
    ⟨some 20, none, .call 81 [.tmp 19]⟩,
    ⟨some 21, none, .call 35 [.tmp 17, .const (.int .i64 0), .tmp 20, .const (.int .i64 100)]⟩,
    ⟨some 16, none, .op (.mv (.tmp 21))⟩,
    ⟨some 22, none, .op (.ext (.tmp 16) 0)⟩,
    ⟨some 23, none, .op (.ext (.tmp 16) 1)⟩,
    ⟨some 24, none, .op (.ext (.tmp 16) 2)⟩,
    ⟨some 25, none, .op (.ext (.tmp 16) 3)⟩,
    ⟨some 26, none, .op (.ext (.tmp 16) 4)⟩,
    ⟨some 1, none, .op (.mv (.tmp 22))⟩,
    ⟨some 2, none, .op (.mv (.tmp 23))⟩,
    ⟨some 3, none, .op (.mv (.tmp 24))⟩,
    ⟨some 4, none, .op (.mv (.tmp 25))⟩,
    ⟨some 5, none, .op (.mv (.tmp 26))⟩]
def c34_2 : C := .reg [⟨some 28, none, .call 80 []⟩,
    ⟨some 29, none, .call 81 [.const (.slice none 0 0)]⟩,
    ⟨some 30, none, .call 35 [.tmp 28, .const (.int .i64 0), .tmp 29, .const (.int .i64 100)]⟩,
    ⟨some 27, none, .op (.mv (.tmp 30))⟩,
    ⟨some 31, none, .op (.ext (.tmp 27) 0)⟩,
    ⟨some 32, none, .op (.ext (.tmp 27) 1)⟩,
    ⟨some 33, none, .op (.ext (.tmp 27) 2)⟩,
    ⟨some 34, none, .op (.ext (.tmp 27) 3)⟩,
    ⟨some 35, none, .op (.ext (.tmp 27) 4)⟩,
    ⟨some 6, none, .op (.mv (.tmp 31))⟩,
    ⟨some 7, none, .op (.mv (.tmp 32))⟩,
    ⟨some 8, none, .op (.mv (.tmp 33))⟩,
    ⟨some 9, none, .op (.mv (.tmp 34))⟩,
    ⟨some 10, none, .op (.mv (.tmp 35))⟩]
def c34_3 : C := .reg [⟨some 37, none, .call 80 []⟩,
    ⟨some 38, none, .op (.mkSl (reps 1 [(.int .u32 0)]) 1 [(0, 1, .const (.int .u32 4))])⟩,
    ⟨some 39, none, .op (.mkSl (reps 1 [(.slice none 0 0)]) 1 [(0, 1, .tmp 38)])⟩,
    ⟨some 40, none, .call 81 [.tmp 39]⟩,
    ⟨some 41, none, .call 35 [.tmp 37, .const (.int .i64 0), .tmp 40, .const (.int .i64 100)]⟩,
    ⟨some 36, none, .op (.mv (.tmp 41))⟩,
    ⟨some 42, none, .op (.ext (.tmp 36) 0)⟩,
    ⟨some 43, none, .op (.ext (.tmp 36) 1)⟩,
    ⟨some 44, none, .op (.ext (.tmp 36) 2)⟩,
    ⟨some 45, none, .op (.ext (.tmp 36) 3)⟩,
    ⟨some 46, none, .op (.ext (.tmp 36) 4)⟩,
    ⟨some 11, none, .op (.mv (.tmp 42))⟩,
    ⟨some 12, none, .op (.mv (.tmp 43))⟩,
    ⟨some 13, none, .op (.mv (.tmp 44))⟩,
    ⟨some 14, none, .op (.mv (.tmp 45))⟩,
    ⟨some 15, none, .op (.mv (.tmp 46))⟩]
def c34_4 : C := .reg [⟨some 47, none, .op (.mv (.tmp 5))⟩,
    ⟨some 48, none, .op (.bin .neq (.tmp 47) (.const (.int .i64 0)))⟩,
    ⟨some 49, none, .op (.mv (.tmp 48))⟩,
    ⟨some 50, (some (49, false)), .op (.mv (.tmp 10))⟩,
    ⟨some 51, (some (49, false)), .op (.bin .neq (.tmp 50) (.const (.int .i64 0)))⟩,
    ⟨some 52, none, .op (.pick (.tmp 49) (.const (.bool true)) (.tmp 51))⟩,
    ⟨some 53, none, .op (.mv (.tmp 52))⟩,
    ⟨some 54, (some (53, false)), .op (.mv (.tmp 15))⟩,
    ⟨some 55, (some (53, false)), .op (.bin .neq (.tmp 54) (.const (.int .i64 0)))⟩,
    ⟨some 56, none, .op (.pick (.tmp 53) (.const (.bool true)) (.tmp 55))⟩]
def c34_5 : C := .reg [⟨some 0, none, .op (.mv (.const (.bool false)))⟩]
def c34_6 : C := .reg [⟨some 57, none, .op (.mv (.tmp 1))⟩,
    ⟨some 58, none, .op (.bin .eql (.tmp 57) (.const (.int .u8 1)))⟩,
    ⟨some 59, none, .op (.mv (.tmp 58))⟩,
    ⟨some 60, (some (59, true)), .op (.mv (.tmp 6))⟩,
    ⟨some 61, (some (59, true)), .op (.bin .eql (.tmp 60) (.const (.int .u8 2)))⟩,
    ⟨some 62, none, .op (.pick (.tmp 59) (.tmp 61) (.const (.bool false)))⟩,
    ⟨some 63, none, .op (.mv (.tmp 62))⟩,
    ⟨some 64, (some (63, true)), .op (.mv (.tmp 7))⟩,
    ⟨some 65, (some (63, true)), .op (.bin .eql (.tmp 64) (.const (.int .i64 3)))⟩,
    ⟨some 66, none, .op (.pick (.tmp 63) (.tmp 65) (.const (.bool false)))⟩,
    ⟨some 67, none, .op (.mv (.tmp 66))⟩,
    ⟨some 68, (some (67, true)), .op (.mv (.tmp 8))⟩,
    ⟨some 69, (some (67, true)), .op (.mkSl (reps 1 [(.int .u8 0)]) 1 [(0, 1, .const (.int .u8 1))])⟩,
    ⟨some 70, (some (67, true)), .call 82 [.tmp 68, .tmp 69]⟩,
    ⟨some 71, none, .op (.pick (.tmp 67) (.tmp 70) (.const (.bool false)))⟩,
    ⟨some 72, none, .op (.mv (.tmp 71))⟩,
    ⟨some 73, (some (72, true)), .op (.mv (.tmp 11))⟩,
    ⟨some 74, (some (72, true)), .op (.bin .eql (.tmp 73) (.const (.int .u8 2)))⟩,
    ⟨some 75, none, .op (.pick (.tmp 72) (.tmp 74) (.const (.bool false)))⟩,
    ⟨some 76, none, .op (.mv (.tmp 75))⟩,
    ⟨some 77, (some (76, true)), .op (.mv (.tmp 12))⟩,
    ⟨some 78, (some (76, true)), .op (.bin .eql (.tmp 77) (.const (.int .i64 1)))⟩,
    ⟨some 79, none, .op (.pick (.tmp 76) (.tmp 78) (.const (.bool false)))⟩,
    ⟨some 80, none, .op (.mv (.tmp 79))⟩,
    ⟨some 81, (some (80, true)), .op (.mv (.tmp 13))⟩,
    ⟨some 82, (some (80, true)), .op (.mkSl (reps 1 [(.int .u8 0)]) 1 [(0, 1, .const (.int .u8 0))])⟩,
    ⟨some 83, (some (80, true)), .call 82 [.tmp 81, .tmp 82]⟩,
    ⟨some 84, none, .op (.pick (.tmp 80) (.tmp 83) (.const (.bool false)))⟩,
    ⟨some 0, none, .op (.mv (.tmp 84))⟩]
def c34 : Fn' := ⟨(.seq c34_0 (.seq c34_1 (.seq c34_2 (.seq c34_3 (.seq (.seq c34_4 (.cond (.tmp 56) (.seq c34_5 .ret) .skip)) (.seq c34_6 .ret)))))), [.tmp 0]⟩
theorem comp34 : compFn Tryz.prog 34 = some c34 := by kernel_rfl

def c35_0 : C := .reg [⟨some 4, none, .op (.box (.tmp 0))⟩,
    ⟨some 6, none, .op (.box (.tmp 2))⟩,
    ⟨some 8, none, .op (.mv (.const (.int .u8 0)))⟩,
    ⟨some 9, none, .op (.mv (.const (.int .i64 0)))⟩,
    ⟨some 10, none, .op (.mv (.const (.slice none 0 0)))⟩,
    ⟨some 11, none, .op (.mv (.const (.slice none 0 0)))⟩,
    ⟨some 12, none, .op (.mv (.const (.int .i64 0)))⟩]
def c35_1 : C := .reg [⟨some 19, none, .op (.ld (some 6) (.tmp 4))⟩,
    ⟨some 20, none, .op (.ld (some 1) (.tmp 6))⟩,
    ⟨some 21, none, .call 83 [.tmp 19, .tmp 20]⟩,
    ⟨some 22, none, .op (.un .not (.tmp 21))⟩,
    ⟨some 23, none, .op (.mv (.tmp 22))⟩,
    ⟨some 24, (some (23, false)), .op (.mv (.tmp 1))⟩,
    ⟨some 25, (some (23, false)), .op (.bin .lss (.tmp 24) (.const (.int .i64 0)))⟩,
    ⟨some 26, none, .op (.pick (.tmp 23) (.const (.bool true)) (.tmp 25))⟩,
    ⟨some 27, none, .op (.mv (.tmp 26))⟩,
    ⟨some 28, (some (27, false)), .op (.mv (.tmp 1))⟩,
    ⟨some 29, (some (27, false)), .op (.fa 4 (.tmp 4))⟩,
    ⟨some 30, (some (27, false)), .op (.ld none (.tmp 29))⟩,
    ⟨some 31, (some (27, false)), .op (.len (.tmp 30))⟩,
    ⟨some 32, (some (27, false)), .op (.bin .geq (.tmp 28) (.tmp 31))⟩,
    ⟨some 33, none, .op (.pick (.tmp 27) (.const (.bool true)) (.tmp 32))⟩,
    ⟨some 34, none, .op (.mv (.tmp 33))⟩,
    ⟨some 35, (some (34, false)), .op (.mv (.tmp 3))⟩,
    ⟨some 36, (some (34, false)), .op (.bin .lss (.tmp 35) (.const (.int .i64 0)))⟩,
    ⟨some 37, none, .op (.pick (.tmp 34) (.const (.bool true)) (.tmp 36))⟩,
    ⟨some 38, none, .op (.mv (.tmp 37))⟩,
    ⟨some 39, (some (38, false)), .op (.mv (.tmp 3))⟩,
    ⟨some 40, (some (38, false)), .op (.bin .gtr (.tmp 39) (.const (.int .i64 1048576)))⟩,
    ⟨some 41, none, .op (.pick (.tmp 38) (.const (.bool true)) (.tmp 40))⟩]
def c35_2 : C := .reg [⟨some 8, none, .op (.mv (.const (.int .u8 0)))⟩,
    ⟨some 9, none, .op (.mv (.const (.int .i64 0)))⟩,
    ⟨some 10, none, .op (.mv (.const (.slice none 0 0)))⟩,
    ⟨some 11, none, .op (.mv (.const (.slice none 0 0)))⟩,
    ⟨some 12, none, .op (.mv (.const (.int .i64 2)))⟩]
def c35_3 : C := .regD 1 [⟨0, ⟨some 42, none, .op (.ld (some 6) (.tmp 4))⟩, none, []⟩,
    ⟨1, ⟨some 43, none, .op (.ld (some 6) (.tmp 4))⟩, none, []⟩,
    ⟨3, ⟨some 45, none, .op (.ld (some 1) (.tmp 6))⟩, none, []⟩,
    ⟨4, ⟨some 46, none, .op (.mv (.tmp 1))⟩, none, []⟩,
    ⟨5, ⟨some 47, none, .op (.mv (.tmp 3))⟩, none, []⟩,
    ⟨2, ⟨some 44, none, .call 84 [.tmp 43]⟩, none, [(some 1, .tmp 6, 45, none), (some 6, .tmp 4, 42, none)]⟩,
    ⟨6, ⟨some 48, none, .op (.mk [(.int .i64 0), (.slice none 0 0), (.slice none 0 0), (.slice none 0 0), (.slice none 0 0), (.slice none 0 0), (.int .i64 0), (.slice none 0 0), (.slice none 0 0), (.slice none 0 0), (.slice none 0 0), (.slice none 0 0), (.slice none 0 0), (.int .i64 0), (.int .i64 0), (.pointer none)] [(0, 6, .tmp 42), (6, 6, .tmp 44), (12, 1, .tmp 45), (13, 1, .tmp 46), (14, 1, .tmp 47)])⟩, none, []⟩,
    ⟨7, ⟨some 49, none, .op (.box (.tmp 48))⟩, some 0, []⟩,
    ⟨8, ⟨some 13, none, .op (.mv (.tmp 49))⟩, none, []⟩]
def c35_4 : C := .reg [⟨some 50, none, .op (.mv (.tmp 13))⟩,
    ⟨some 51, none, .op (.nn (.tmp 50))⟩,
    ⟨some 52, none, .op (.fa 6 (.tmp 51))⟩,
    ⟨some 53, none, .op (.fa 1 (.tmp 52))⟩,
    ⟨some 54, none, .op (.ld none (.tmp 53))⟩,
    ⟨some 55, none, .op (.len (.tmp 54))⟩,
    ⟨some 56, none, .op (.mv (.const (.int .i64 0)))⟩]
def c35_5 : C := .reg [⟨some 57, none, .op (.bin .lss (.tmp 56) (.tmp 55))⟩]
def c35_6 : C := .reg [⟨some 58, none, .op (.mv (.tmp 56))⟩,
    ⟨some 14, none, .op (.mv (.tmp 58))⟩]
def c35_7 : C := .reg [⟨some 59, none, .op (.mv (.tmp 13))⟩,
    ⟨some 60, none, .op (.nn (.tmp 59))⟩,
    ⟨some 61, none, .op (.fa 6 (.tmp 60))⟩,
    ⟨some 62, none, .op (.fa 1 (.tmp 61))⟩,
    ⟨some 63, none, .op (.ld none (.tmp 62))⟩,
    ⟨some 64, none, .op (.mv (.tmp 14))⟩,
    ⟨some 65, none, .op (.ia 2 (.tmp 63) (.tmp 64))⟩,
    ⟨some 66, none, .op (.fa 1 (.tmp 65))⟩,
    ⟨none, none, .op (.st 1 (.tmp 66) (.const (.int .u8 2)))⟩]
def c35_8 : C := .reg [⟨some 67, none, .op (.bin .add (.tmp 56) (.const (.int .i64 1)))⟩,
    ⟨some 56, none, .op (.mv (.tmp 67))⟩]
def c35_9 : C := .reg [⟨some 68, none, .op (.mv (.tmp 13))⟩,
    ⟨some 69, none, .call 85 [.tmp 68]⟩,
    ⟨some 15, none, .op (.mv (.tmp 69))⟩]
def c35_10 : C := .reg [⟨some 70, none, .op (.mv (.tmp 15))⟩,
    ⟨some 71, none, .op (.bin .neq (.tmp 70) (.const (.int .i64 0)))⟩]
def c35_11 : C := .reg [⟨some 72, none, .op (.mv (.tmp 15))⟩,
    ⟨some 8, none, .op (.mv (.const (.int .u8 0)))⟩,
    ⟨some 9, none, .op (.mv (.const (.int .i64 0)))⟩,
    ⟨some 10, none, .op (.mv (.const (.slice none 0 0)))⟩,
    ⟨some 11, none, .op (.mv (.const (.slice none 0 0)))⟩,
    ⟨some 12, none, .op (.mv (.tmp 72))⟩]
def c35_12 : C := .reg [⟨some 73, none, .op (.mv (.tmp 13))⟩,
    ⟨some 74, none, .op (.fn 86 [.tmp 73] [])⟩,
    ⟨some 75, none, .op (.mv (.tmp 13))⟩,
    ⟨some 76, none, .op (.fn 87 [.tmp 75] [])⟩,
    ⟨some 77, none, .op (.mv (.tmp 13))⟩,
    ⟨some 78, none, .op (.fn 88 [.tmp 77] [])⟩,
    ⟨some 79, none, .op (.mk [(.nilFunc), (.nilFunc), (.nilFunc)] [(0, 1, .tmp 74), (1, 1, .tmp 76), (2, 1, .tmp 78)])⟩,
    ⟨some 80, none, .op (.mv (.const (.int .i64 0)))⟩]
def c35_13 : C := .reg [⟨some 81, none, .op (.bin .lss (.tmp 80) (.const (.int .i64 3)))⟩]
def c35_14 : C := .reg [⟨some 82, none, .op (.mv (.tmp 80))⟩,
    ⟨some 83, none, .op (.idx 3 1 none (.tmp 79) (.tmp 80))⟩,
    ⟨some 16, none, .op (.mv (.tmp 82))⟩,
    ⟨some 17, none, .op (.mv (.tmp 83))⟩]
def c35_15 : C := .reg [⟨some 84, none, .op (.mv (.tmp 17))⟩,
    ⟨some 85, none, .callv (.tmp 84) []⟩,
    ⟨some 18, none, .op (.new [(.int .u8 0), (.slice none 0 0), (.slice none 0 0), (.int .i64 0)])⟩,
    ⟨none, none, .op (.st 4 (.tmp 18) (.tmp 85))⟩]
def c35_16 : C := .reg [⟨some 87, none, .op (.fa 3 (.tmp 18))⟩,
    ⟨some 88, none, .op (.ld none (.tmp 87))⟩,
    ⟨some 89, none, .op (.bin .neq (.tmp 88) (.const (.int .i64 0)))⟩,
    ⟨some 86, none, .op (.mv (.tmp 89))⟩]
def c35_17 : C := .regD 0 [⟨0, ⟨some 90, none, .op (.fa 3 (.tmp 18))⟩, none, []⟩,
    ⟨1, ⟨some 91, none, .op (.ld none (.tmp 90))⟩, none, []⟩,
    ⟨2, ⟨some 8, none, .op (.mv (.const (.int .u8 0)))⟩, none, []⟩,
    ⟨3, ⟨some 9, none, .op (.mv (.const (.int .i64 0)))⟩, none, []⟩,
    ⟨4, ⟨some 10, none, .op (.mv (.const (.slice none 0 0)))⟩, none, []⟩,
    ⟨5, ⟨some 11, none, .op (.mv (.const (.slice none 0 0)))⟩, none, []⟩,
    ⟨6, ⟨some 12, none, .op (.mv (.tmp 91))⟩, none, []⟩]
def c35_18 : C := .reg [⟨some 93, none, .op (.fa 0 (.tmp 18))⟩,
    ⟨some 94, none, .op (.ld none (.tmp 93))⟩,
    ⟨some 95, none, .op (.bin .eql (.tmp 94) (.const (.int .u8 0)))⟩,
    ⟨some 92, none, .op (.mv (.tmp 95))⟩]
def c35_19 : C := .reg [⟨some 8, none, .op (.mv (.const (.int .u8 0)))⟩,
    ⟨some 9, none, .op (.mv (.const (.int .i64 0)))⟩,
    ⟨some 10, none, .op (.mv (.const (.slice none 0 0)))⟩,
    ⟨some 11, none, .op (.mv (.const (.slice none 0 0)))⟩,
    ⟨some 12, none, .op (.mv (.const (.int .i64 0)))⟩]
def c35_20 : C := .reg [⟨some 97, none, .op (.fa 0 (.tmp 18))⟩,
    ⟨some 98, none, .op (.ld none (.tmp 97))⟩,
    ⟨some 99, none, .op (.bin .eql (.tmp 98) (.const (.int .u8 2)))⟩,
    ⟨some 96, none, .op (.mv (.tmp 99))⟩]
def c35_21 : C := .regD 0 [⟨0, ⟨some 100, none, .op (.mv (.tmp 16))⟩, none, []⟩,
    ⟨1, ⟨some 101, none, .op (.bin .add (.tmp 100) (.const (.int .i64 1)))⟩, none, []⟩,
    ⟨2, ⟨some 102, none, .op (.fa 1 (.tmp 18))⟩, none, []⟩,
    ⟨3, ⟨some 103, none, .op (.ld none (.tmp 102))⟩, none, []⟩,
    ⟨4, ⟨some 104, none, .op (.fa 2 (.tmp 18))⟩, none, []⟩,
    ⟨5, ⟨some 105, none, .op (.ld none (.tmp 104))⟩, none, []⟩,
    ⟨6, ⟨some 8, none, .op (.mv (.const (.int .u8 2)))⟩, none, []⟩,
    ⟨7, ⟨some 9, none, .op (.mv (.tmp 101))⟩, none, []⟩,
    ⟨8, ⟨some 10, none, .op (.mv (.tmp 103))⟩, none, []⟩,
    ⟨9, ⟨some 11, none, .op (.mv (.tmp 105))⟩, none, []⟩,
    ⟨10, ⟨some 12, none, .op (.mv (.const (.int .i64 0)))⟩, none, []⟩]
def c35_22 : C := .reg [⟨some 106, none, .op (.bin .add (.tmp 80) (.const (.int .i64 1)))⟩,
    ⟨some 80, none, .op (.mv (.tmp 106))⟩]
def c35_23 : C := .reg [⟨some 8, none, .op (.mv (.const (.int .u8 1)))⟩,
    ⟨some 9, none, .op (.mv (.const (.int .i64 0)))⟩,
    ⟨some 10, none, .op (.mv (.const (.slice none 0 0)))⟩,
    ⟨some 11, none, .op (.mv (.const (.slice none 0 0)))⟩,
    ⟨some 12, none, .op (.mv (.const (.int .i64 0)))⟩]
def c35 : Fn' := ⟨(.seq c35_0 (.seq (.seq c35_1 (.cond (.tmp 41) (.seq c35_2 .ret) .skip)) (.seq c35_3 (.seq (.seq c35_4 (.block 0 (.loop (.seq c35_5 (.seq (.cond (.tmp 57) .skip (.exit 0)) (.seq (.block 1 (.seq c35_6 c35_7)) c35_8)))))) (.seq (.seq c35_9 (.seq c35_10 (.cond (.tmp 71) (.seq c35_11 .ret) .skip))) (.seq (.seq c35_12 (.block 2 (.loop (.seq c35_13 (.seq (.cond (.tmp 81) .skip (.exit 2)) (.seq (.block 3 (.seq c35_14 (.seq c35_15 (.block 4 (.seq c35_16 (.cond (.tmp 86) (.seq c35_17 .ret) (.seq c35_18 (.cond (.tmp 92) (.seq c35_19 .ret) (.seq c35_20 (.cond (.tmp 96) (.seq c35_21 .ret) .skip)))))))))) c35_22)))))) (.seq c35_23 .ret))))))), [.tmp 8, .tmp 9, .tmp 10, .tmp 11, .tmp 12]⟩
theorem comp35 : compFn Tryz.prog 35 = some c35 := by kernel_rfl

def c80_0 : C := .reg [⟨some 0, none, .op (.new [(.int .i64 0), (.slice none 0 0), (.slice none 0 0), (.slice none 0 0), (.slice none 0 0), (.slice none 0 0)])⟩]
def c80_1 : C := .reg [⟨some 1, none, .op (.mk [(.int .u32 0), (.int .u8 0)] [(0, 1, .const (.int .u32 4))])⟩,
    ⟨some 2, none, .op (.mkSl (reps 1 [(.int .u32 0), (.int .u8 0)]) 1 [(0, 2, .tmp 1)])⟩,
    ⟨some 3, none, .op (.mkSl (reps 1 [(.int .u32 0)]) 1 [(0, 1, .const (.int .u32 4))])⟩,
    ⟨some 4, none, .op (.mk [(.int .i64 0), (.slice none 0 0), (.slice none 0 0), (.slice none 0 0), (.slice none 0 0), (.slice none 0 0)] [(0, 1, .const (.int .i64 1)), (1, 1, .tmp 2), (4, 1, .tmp 3)])⟩,
    ⟨none, none, .op (.st 6 (.tmp 0) (.tmp 4))⟩]
def c80 : Fn' := ⟨(.seq c80_0 (.seq c80_1 .ret)), [.cell 0 (some 6)]⟩
theorem comp80 : compFn Tryz.prog 80 = some c80 := by kernel_rfl

def c81_0 : C := .reg [⟨some 2, none, .op (.new [(.slice none 0 0)])⟩]
def c81_1 : C := .reg [⟨some 3, none, .op (.mv (.tmp 0))⟩,
    ⟨some 4, none, .op (.mk [(.slice none 0 0)] [(0, 1, .tmp 3)])⟩,
    ⟨none, none, .op (.st 1 (.tmp 2) (.tmp 4))⟩]
def c81 : Fn' := ⟨(.seq c81_0 (.seq c81_1 .ret)), [.cell 2 (some 1)]⟩
theorem comp81 : compFn Tryz.prog 81 = some c81 := by kernel_rfl

def c82_0 : C := .reg [⟨some 4, none, .op (.mv (.const (.bool false)))⟩]
def c82_1 : C := .reg [⟨some 5, none, .op (.mv (.tmp 0))⟩,
    ⟨some 6, none, .op (.str (.tmp 5))⟩,
    ⟨some 7, none, .op (.mv (.tmp 1))⟩,
    ⟨some 8, none, .op (.str (.tmp 7))⟩,
    ⟨some 9, none, .op (.sqs false (.tmp 6) (.tmp 8))⟩,
    ⟨some 4, none, .op (.mv (.tmp 9))⟩]
def c82 : Fn' := ⟨(.seq c82_0 (.seq c82_1 .ret)), [.tmp 4]⟩
theorem comp82 : compFn Tryz.prog 82 = some c82 := by kernel_rfl

def c83_0 : C := .reg [⟨some 2, none, .op (.box (.tmp 0))⟩,
    ⟨some 3, none, .op (.box (.tmp 1))⟩,
    ⟨some 4, none, .op (.mv (.const (.bool false)))⟩]
def c83_1 : C := .regD 2 [⟨0, ⟨some 9, none, .op (.fa 0 (.tmp 2))⟩, none, []⟩,
    ⟨1, ⟨some 10, none, .op (.ld none (.tmp 9))⟩, none, []⟩,
    ⟨2, ⟨some 11, none, .op (.bin .add (.const (.int .i64 1)) (.tmp 10))⟩, none, []⟩,
    ⟨3, ⟨some 12, none, .op (.fa 0 (.tmp 2))⟩, none, []⟩,
    ⟨4, ⟨some 13, none, .op (.ld none (.tmp 12))⟩, none, []⟩,
    ⟨5, ⟨some 14, none, .op (.fa 1 (.tmp 2))⟩, none, []⟩,
    ⟨6, ⟨some 15, none, .op (.ld none (.tmp 14))⟩, none, []⟩,
    ⟨7, ⟨some 16, none, .op (.len (.tmp 15))⟩, none, []⟩,
    ⟨8, ⟨some 17, none, .op (.bin .add (.tmp 13) (.tmp 16))⟩, none, []⟩,
    ⟨9, ⟨some 5, none, .op (.new [(.int .i64 0)])⟩, some 0, []⟩,
    ⟨10, ⟨some 6, none, .op (.new [(.int .i64 0)])⟩, some 1, []⟩,
    ⟨11, ⟨none, none, .op (.st 1 (.tmp 5) (.tmp 11))⟩, none, [(none, .tmp 14, 15, none), (none, .tmp 12, 13, none)]⟩,
    ⟨12, ⟨none, none, .op (.st 1 (.tmp 6) (.tmp 17))⟩, none, []⟩]
def c83_2 : C := .reg [⟨some 18, none, .op (.fn 130 [] [.tmp 5, .tmp 6])⟩,
    ⟨some 7, none, .op (.new [(.nilFunc)])⟩,
    ⟨none, none, .op (.st 1 (.tmp 7) (.tmp 18))⟩]
def c83_3 : C := .reg [⟨some 19, none, .op (.fn 131 [] [.tmp 7])⟩,
    ⟨some 8, none, .op (.mv (.tmp 19))⟩]
def c83_4 : C := .reg [⟨some 20, none, .op (.ld (some 6) (.tmp 2))⟩,
    ⟨some 21, none, .call 97 [.tmp 20]⟩,
    ⟨some 22, none, .op (.mv (.tmp 21))⟩,
    ⟨some 23, (some (22, true)), .op (.fa 0 (.tmp 3))⟩,
    ⟨some 24, (some (22, true)), .op (.ld none (.tmp 23))⟩,
    ⟨some 25, (some (22, true)), .op (.len (.tmp 24))⟩,
    ⟨some 26, (some (22, true)), .op (.bin .leq (.tmp 25) (.const (.int .i64 65536)))⟩,
    ⟨some 27, none, .op (.pick (.tmp 22) (.tmp 26) (.const (.bool false)))⟩,
    ⟨some 28, none, .op (.mv (.tmp 27))⟩,
    ⟨some 29, (some (28, true)), .op (.fa 0 (.tmp 3))⟩,
    ⟨some 30, (some (28, true)), .op (.ld none (.tmp 29))⟩,
    ⟨some 31, (some (28, true)), .op (.mv (.tmp 8))⟩,
    ⟨some 32, (some (28, true)), .call 100 [.tmp 30, .tmp 31]⟩,
    ⟨some 33, (some (28, true)), .op (.un .not (.tmp 32))⟩,
    ⟨some 34, none, .op (.pick (.tmp 28) (.tmp 33) (.const (.bool false)))⟩,
    ⟨some 4, none, .op (.mv (.tmp 34))⟩]
def c83 : Fn' := ⟨(.seq c83_0 (.seq c83_1 (.seq c83_2 (.seq c83_3 (.seq c83_4 .ret))))), [.tmp 4]⟩
theorem comp83 : compFn Tryz.prog 83 = some c83 := by kernel_rfl

def c84_0 : C := .reg [⟨some 1, none, .op (.box (.tmp 0))⟩,
    ⟨some 2, none, .op (.new [(.int .i64 0), (.slice none 0 0), (.slice none 0 0), (.slice none 0 0), (.slice none 0 0), (.slice none 0 0)])⟩]
def c84_1 : C := .regD 0 [⟨0, ⟨some 3, none, .op (.fa 1 (.tmp 1))⟩, none, []⟩,
    ⟨1, ⟨some 4, none, .op (.ld none (.tmp 3))⟩, none, []⟩,
    ⟨3, ⟨some 6, none, .op (.fa 2 (.tmp 1))⟩, none, []⟩,
    ⟨4, ⟨some 7, none, .op (.ld none (.tmp 6))⟩, none, []⟩,
    ⟨2, ⟨some 5, none, .call 133 [.tmp 4]⟩, none, [(none, .tmp 6, 7, none)]⟩,
    ⟨6, ⟨some 9, none, .op (.fa 1 (.tmp 1))⟩, none, []⟩,
    ⟨5, ⟨some 8, none, .call 134 [.tmp 7]⟩, none, []⟩,
    ⟨7, ⟨none, none, .op (.st 1 (.tmp 9) (.tmp 5))⟩, none, []⟩,
    ⟨8, ⟨some 10, none, .op (.fa 2 (.tmp 1))⟩, none, []⟩,
    ⟨9, ⟨none, none, .op (.st 1 (.tmp 10) (.tmp 8))⟩, none, []⟩]
def c84_2 : C := .regD 0 [⟨0, ⟨some 11, none, .op (.fa 3 (.tmp 1))⟩, none, []⟩,
    ⟨1, ⟨some 12, none, .op (.ld none (.tmp 11))⟩, none, []⟩,
    ⟨3, ⟨some 14, none, .op (.fa 4 (.tmp 1))⟩, none, []⟩,
    ⟨4, ⟨some 15, none, .op (.ld none (.tmp 14))⟩, none, []⟩,
    ⟨6, ⟨some 17, none, .op (.fa 5 (.tmp 1))⟩, none, []⟩,
    ⟨7, ⟨some 18, none, .op (.ld none (.tmp 17))⟩, none, []⟩,
    ⟨2, ⟨some 13, none, .call 135 [.tmp 12]⟩, none, [(none, .tmp 17, 18, none), (none, .tmp 14, 15, none)]⟩,
    ⟨9, ⟨some 20, none, .op (.fa 3 (.tmp 1))⟩, none, []⟩,
    ⟨5, ⟨some 16, none, .call 135 [.tmp 15]⟩, none, [(none, .tmp 17, 18, none)]⟩,
    ⟨8, ⟨some 19, none, .call 135 [.tmp 18]⟩, none, []⟩,
    ⟨10, ⟨none, none, .op (.st 1 (.tmp 20) (.tmp 13))⟩, none, []⟩,
    ⟨11, ⟨some 21, none, .op (.fa 4 (.tmp 1))⟩, none, []⟩,
    ⟨12, ⟨none, none, .op (.st 1 (.tmp 21) (.tmp 16))⟩, none, []⟩,
    ⟨13, ⟨some 22, none, .op (.fa 5 (.tmp 1))⟩, none, []⟩,
    ⟨14, ⟨none, none, .op (.st 1 (.tmp 22) (.tmp 19))⟩, none, []⟩]
def c84_3 : C := .reg [⟨some 23, none, .op (.ld (some 6) (.tmp 1))⟩,
    ⟨none, none, .op (.st 6 (.tmp 2) (.tmp 23))⟩]
def c84 : Fn' := ⟨(.seq c84_0 (.seq c84_1 (.seq c84_2 (.seq c84_3 .ret)))), [.cell 2 (some 6)]⟩
theorem comp84 : compFn Tryz.prog 84 = some c84 := by kernel_rfl

def c85_0 : C := .reg [⟨some 2, none, .op (.mv (.const (.int .i64 0)))⟩]
def c85_1 : C := .reg [⟨some 17, none, .op (.mv (.tmp 0))⟩,
    ⟨some 18, none, .op (.nn (.tmp 17))⟩,
    ⟨some 19, none, .op (.fa 6 (.tmp 18))⟩,
    ⟨some 20, none, .op (.ld (some 6) (.tmp 19))⟩,
    ⟨some 21, none, .call 136 [.tmp 20, .const (.int .i64 1)]⟩,
    ⟨some 16, none, .op (.mv (.tmp 21))⟩,
    ⟨some 22, none, .op (.ext (.tmp 16) 0)⟩,
    ⟨some 23, none, .op (.ext (.tmp 16) 1)⟩,
    ⟨some 3, none, .op (.mv (.tmp 22))⟩,
    ⟨some 4, none, .op (.mv (.tmp 23))⟩]
def c85_2 : C := .reg [⟨some 24, none, .op (.mv (.tmp 4))⟩,
    ⟨some 25, none, .op (.bin .neq (.tmp 24) (.const (.int .i64 0)))⟩]
def c85_3 : C := .reg [⟨some 26, none, .op (.mv (.tmp 4))⟩,
    ⟨some 2, none, .op (.mv (.tmp 26))⟩]
def c85_4 : C := .reg [⟨some 28, none, .op (.mv (.tmp 0))⟩,
    ⟨some 29, none, .op (.nn (.tmp 28))⟩,
    ⟨some 30, none, .op (.fa 6 (.tmp 29))⟩,
    ⟨some 31, none, .op (.ld (some 6) (.tmp 30))⟩,
    ⟨some 32, none, .call 137 [.tmp 31, .const (.int .i64 1)]⟩,
    ⟨some 27, none, .op (.mv (.tmp 32))⟩,
    ⟨some 33, none, .op (.ext (.tmp 27) 0)⟩,
    ⟨some 34, none, .op (.ext (.tmp 27) 1)⟩,
    ⟨some 5, none, .op (.mv (.tmp 33))⟩,
    ⟨some 6, none, .op (.mv (.tmp 34))⟩]
def c85_5 : C := .reg [⟨some 36, none, .op (.mv (.tmp 0))⟩,
    ⟨some 37, none, .op (.mv (.tmp 5))⟩,
    ⟨some 38, none, .call 17 [.tmp 37]⟩,
    ⟨some 35, none, .op (.mv (.tmp 38))⟩,
    ⟨some 39, none, .op (.ext (.tmp 35) 0)⟩,
    ⟨some 40, none, .op (.ext (.tmp 35) 1)⟩,
    ⟨some 41, none, .op (.nn (.tmp 36))⟩,
    ⟨some 42, none, .op (.fa 15 (.tmp 41))⟩,
    ⟨none, none, .op (.st 1 (.tmp 42) (.tmp 39))⟩]
def c85_6 : C := .reg [⟨some 43, none, .op (.mv (.tmp 0))⟩,
    ⟨some 44, none, .op (.nn (.tmp 43))⟩,
    ⟨some 45, none, .op (.fa 0 (.tmp 44))⟩,
    ⟨some 46, none, .op (.fa 5 (.tmp 45))⟩,
    ⟨some 47, none, .op (.ld none (.tmp 46))⟩,
    ⟨some 48, none, .op (.len (.tmp 47))⟩,
    ⟨some 49, none, .op (.mv (.const (.int .i64 0)))⟩]
def c85_7 : C := .reg [⟨some 50, none, .op (.bin .lss (.tmp 49) (.tmp 48))⟩]
def c85_8 : C := .reg [⟨some 51, none, .op (.ia 1 (.tmp 47) (.tmp 49))⟩,
    ⟨some 52, none, .op (.ld none (.tmp 51))⟩,
    ⟨some 8, none, .op (.mv (.tmp 52))⟩]
def c85_9 : C := .reg [⟨some 53, none, .op (.mv (.tmp 3))⟩,
    ⟨some 54, none, .op (.mv (.tmp 0))⟩,
    ⟨some 55, none, .op (.mv (.tmp 8))⟩,
    ⟨some 56, none, .call 138 [.tmp 54, .tmp 55]⟩,
    ⟨some 57, none, .op (.mkSl (reps 1 [(.int .i64 0)]) 1 [(0, 1, .tmp 56)])⟩,
    ⟨some 58, none, .op (.mkSl (reps 1 [(.slice none 0 0)]) 1 [(0, 1, .tmp 57)])⟩,
    ⟨some 59, none, .op (.app 1 24 (.tmp 53) (.tmp 58))⟩,
    ⟨some 3, none, .op (.mv (.tmp 59))⟩]
def c85_10 : C := .reg [⟨some 60, none, .op (.bin .add (.tmp 49) (.const (.int .i64 1)))⟩,
    ⟨some 49, none, .op (.mv (.tmp 60))⟩]
def c85_11 : C := .reg [⟨some 61, none, .op (.mv (.tmp 0))⟩,
    ⟨some 62, none, .op (.nn (.tmp 61))⟩,
    ⟨some 63, none, .op (.fa 12 (.tmp 62))⟩,
    ⟨some 64, none, .op (.fa 0 (.tmp 63))⟩,
    ⟨some 65, none, .op (.ld none (.tmp 64))⟩,
    ⟨some 66, none, .op (.len (.tmp 65))⟩,
    ⟨some 67, none, .op (.mv (.const (.int .i64 0)))⟩]
def c85_12 : C := .reg [⟨some 68, none, .op (.bin .lss (.tmp 67) (.tmp 66))⟩]
def c85_13 : C := .reg [⟨some 69, none, .op (.ia 1 (.tmp 65) (.tmp 67))⟩,
    ⟨some 70, none, .op (.ld none (.tmp 69))⟩,
    ⟨some 10, none, .op (.mv (.tmp 70))⟩]
def c85_14 : C := .reg [⟨some 11, none, .op (.mv (.const (.slice none 0 0)))⟩]
def c85_15 : C := .reg [⟨some 71, none, .op (.mv (.tmp 10))⟩,
    ⟨some 72, none, .op (.len (.tmp 71))⟩,
    ⟨some 73, none, .op (.mv (.const (.int .i64 0)))⟩]
def c85_16 : C := .reg [⟨some 74, none, .op (.bin .lss (.tmp 73) (.tmp 72))⟩]
def c85_17 : C := .reg [⟨some 75, none, .op (.ia 1 (.tmp 71) (.tmp 73))⟩,
    ⟨some 76, none, .op (.ld none (.tmp 75))⟩,
    ⟨some 13, none, .op (.mv (.tmp 76))⟩]
def c85_18 : C := .reg [⟨some 77, none, .op (.mv (.tmp 11))⟩,
    ⟨some 78, none, .op (.mv (.tmp 0))⟩,
    ⟨some 79, none, .op (.mv (.tmp 13))⟩,
    ⟨some 80, none, .call 138 [.tmp 78, .tmp 79]⟩,
    ⟨some 81, none, .op (.mkSl (reps 1 [(.int .i64 0)]) 1 [(0, 1, .tmp 80)])⟩,
    ⟨some 82, none, .op (.app 1 8 (.tmp 77) (.tmp 81))⟩,
    ⟨some 11, none, .op (.mv (.tmp 82))⟩]
def c85_19 : C := .reg [⟨some 83, none, .op (.bin .add (.tmp 73) (.const (.int .i64 1)))⟩,
    ⟨some 73, none, .op (.mv (.tmp 83))⟩]
def c85_20 : C := .reg [⟨some 84, none, .op (.mv (.tmp 3))⟩,
    ⟨some 85, none, .op (.mv (.tmp 11))⟩,
    ⟨some 86, none, .op (.mkSl (reps 1 [(.slice none 0 0)]) 1 [(0, 1, .tmp 85)])⟩,
    ⟨some 87, none, .op (.app 1 24 (.tmp 84) (.tmp 86))⟩,
    ⟨some 3, none, .op (.mv (.tmp 87))⟩]
def c85_21 : C := .reg [⟨some 88, none, .op (.bin .add (.tmp 67) (.const (.int .i64 1)))⟩,
    ⟨some 67, none, .op (.mv (.tmp 88))⟩]
def c85_22 : C := .reg [⟨some 89, none, .op (.mv (.tmp 3))⟩,
    ⟨some 90, none, .op (.len (.tmp 89))⟩,
    ⟨some 91, none, .op (.mv (.const (.int .i64 0)))⟩]
def c85_23 : C := .reg [⟨some 92, none, .op (.bin .lss (.tmp 91) (.tmp 90))⟩]
def c85_24 : C := .reg [⟨some 93, none, .op (.ia 1 (.tmp 89) (.tmp 91))⟩,
    ⟨some 94, none, .op (.ld none (.tmp 93))⟩,
    ⟨some 15, none, .op (.mv (.tmp 94))⟩]
def c85_25 : C := .reg [⟨some 95, none, .op (.mv (.tmp 0))⟩,
    ⟨some 96, none, .op (.nn (.tmp 95))⟩,
    ⟨some 97, none, .op (.fa 15 (.tmp 96))⟩,
    ⟨some 98, none, .op (.ld none (.tmp 97))⟩,
    ⟨some 99, none, .op (.mv (.tmp 15))⟩,
    ⟨some 100, none, .call 20 [.tmp 98, .tmp 99]⟩,
    ⟨some 101, none, .op (.bin .neq (.tmp 100) (.const (.int .i64 0)))⟩]
def c85_26 : C := .reg [⟨some 2, none, .op (.mv (.const (.int .i64 3)))⟩]
def c85_27 : C := .reg [⟨some 102, none, .op (.bin .add (.tmp 91) (.const (.int .i64 1)))⟩,
    ⟨some 91, none, .op (.mv (.tmp 102))⟩]
def c85_28 : C := .reg [⟨some 2, none, .op (.mv (.const (.int .i64 0)))⟩]
def c85 : Fn' := ⟨(.seq c85_0 (.seq c85_1 (.seq (.seq c85_2 (.cond (.tmp 25) (.seq c85_3 .ret) .skip)) (.seq c85_4 (.seq c85_5 (.seq (.seq c85_6 (.block 0 (.loop (.seq c85_7 (.seq (.cond (.tmp 50) .skip (.exit 0)) (.seq (.block 1 (.seq c85_8 c85_9)) c85_10)))))) (.seq (.seq c85_11 (.block 2 (.loop (.seq c85_12 (.seq (.cond (.tmp 68) .skip (.exit 2)) (.seq (.block 3 (.seq c85_13 (.seq c85_14 (.seq (.seq c85_15 (.block 4 (.loop (.seq c85_16 (.seq (.cond (.tmp 74) .skip (.exit 4)) (.seq (.block 5 (.seq c85_17 c85_18)) c85_19)))))) c85_20)))) c85_21)))))) (.seq (.seq c85_22 (.block 6 (.loop (.seq c85_23 (.seq (.cond (.tmp 92) .skip (.exit 6)) (.seq (.block 7 (.seq c85_24 (.seq c85_25 (.cond (.tmp 101) (.seq c85_26 .ret) .skip)))) c85_27)))))) (.seq c85_28 .ret))))))))), [.tmp 2]⟩
theorem comp85 : compFn Tryz.prog 85 = some c85 := by kernel_rfl

def c86_0 : C := .reg [⟨some 2, none, .op (.new [(.int .u8 0), (.slice none 0 0), (.slice none 0 0), (.int .i64 0)])⟩]
def c86_1 : C := .reg [⟨some 3, none, .op (.mv (.const (.slice none 0 0)))⟩]
def c86_2 : C := .reg [⟨some 12, none, .op (.mv (.tmp 0))⟩,
    ⟨some 13, none, .op (.nn (.tmp 12))⟩,
    ⟨some 14, none, .op (.fa 0 (.tmp 13))⟩,
    ⟨some 15, none, .op (.fa 1 (.tmp 14))⟩,
    ⟨some 16, none, .op (.ld none (.tmp 15))⟩,
    ⟨some 17, none, .op (.len (.tmp 16))⟩,
    ⟨some 18, none, .op (.mv (.const (.int .i64 0)))⟩]
def c86_3 : C := .reg [⟨some 19, none, .op (.bin .lss (.tmp 18) (.tmp 17))⟩]
def c86_4 : C := .reg [⟨some 20, none, .op (.ia 2 (.tmp 16) (.tmp 18))⟩,
    ⟨some 21, none, .op (.ld (some 2) (.tmp 20))⟩,
    ⟨some 5, none, .op (.new [(.int .u32 0), (.int .u8 0)])⟩,
    ⟨none, none, .op (.st 2 (.tmp 5) (.tmp 21))⟩]
def c86_5 : C := .reg [⟨some 22, none, .op (.mv (.tmp 3))⟩,
    ⟨some 23, none, .op (.fa 1 (.tmp 5))⟩,
    ⟨some 24, none, .op (.ld none (.tmp 23))⟩,
    ⟨some 25, none, .op (.bin .and (.tmp 24) (.const (.int .u8 1)))⟩,
    ⟨some 26, none, .op (.mkSl (reps 1 [(.int .u8 0)]) 1 [(0, 1, .tmp 25)])⟩,
    ⟨some 27, none, .op (.app 1 1 (.tmp 22) (.tmp 26))⟩,
    ⟨some 3, none, .op (.mv (.tmp 27))⟩]
def c86_6 : C := .reg [⟨some 28, none, .op (.bin .add (.tmp 18) (.const (.int .i64 1)))⟩,
    ⟨some 18, none, .op (.mv (.tmp 28))⟩]
def c86_7 : C := .reg [⟨some 29, none, .op (.mv (.tmp 0))⟩,
    ⟨some 30, none, .op (.nn (.tmp 29))⟩,
    ⟨some 31, none, .op (.fa 12 (.tmp 30))⟩,
    ⟨some 32, none, .op (.fa 0 (.tmp 31))⟩,
    ⟨some 33, none, .op (.ld none (.tmp 32))⟩,
    ⟨some 34, none, .op (.len (.tmp 33))⟩,
    ⟨some 35, none, .op (.mv (.const (.int .i64 0)))⟩]
def c86_8 : C := .reg [⟨some 36, none, .op (.bin .lss (.tmp 35) (.tmp 34))⟩]
def c86_9 : C := .reg [⟨some 37, none, .op (.ia 1 (.tmp 33) (.tmp 35))⟩,
    ⟨some 38, none, .op (.ld none (.tmp 37))⟩,
    ⟨some 7, none, .op (.mv (.tmp 38))⟩]
def c86_10 : C := .reg [⟨some 39, none, .op (.mv (.tmp 3))⟩,
    ⟨some 40, none, .call 139 [.tmp 39]⟩,
    ⟨some 8, none, .op (.mv (.tmp 40))⟩]
def c86_11 : C := .reg [⟨some 41, none, .op (.mv (.tmp 7))⟩,
    ⟨some 42, none, .op (.len (.tmp 41))⟩,
    ⟨some 43, none, .op (.mv (.const (.int .i64 0)))⟩]
def c86_12 : C := .reg [⟨some 44, none, .op (.bin .lss (.tmp 43) (.tmp 42))⟩]
def c86_13 : C := .reg [⟨some 45, none, .op (.ia 1 (.tmp 41) (.tmp 43))⟩,
    ⟨some 46, none, .op (.ld none (.tmp 45))⟩,
    ⟨some 10, none, .op (.mv (.tmp 46))⟩]
def c86_14 : C := .reg [⟨some 47, none, .op (.mv (.tmp 10))⟩,
    ⟨some 48, none, .op (.bin .shr (.tmp 47) (.const (.int .u64 1)))⟩,
    ⟨some 49, none, .op (.conv .i64 (.tmp 48))⟩,
    ⟨some 50, none, .op (.bin .sub (.tmp 49) (.const (.int .i64 1)))⟩,
    ⟨some 51, none, .op (.mv (.tmp 0))⟩,
    ⟨some 52, none, .op (.nn (.tmp 51))⟩,
    ⟨some 53, none, .op (.fa 0 (.tmp 52))⟩,
    ⟨some 54, none, .op (.fa 0 (.tmp 53))⟩,
    ⟨some 55, none, .op (.ld none (.tmp 54))⟩,
    ⟨some 56, none, .op (.bin .sub (.tmp 50) (.tmp 55))⟩,
    ⟨some 11, none, .op (.mv (.tmp 56))⟩]
def c86_15 : C := .reg [⟨some 57, none, .op (.mv (.tmp 0))⟩,
    ⟨some 58, none, .op (.nn (.tmp 57))⟩,
    ⟨some 59, none, .op (.fa 0 (.tmp 58))⟩,
    ⟨some 60, none, .op (.fa 1 (.tmp 59))⟩,
    ⟨some 61, none, .op (.ld none (.tmp 60))⟩,
    ⟨some 62, none, .op (.mv (.tmp 11))⟩,
    ⟨some 63, none, .op (.ia 2 (.tmp 61) (.tmp 62))⟩,
    ⟨some 64, none, .op (.fa 1 (.tmp 63))⟩,
    ⟨some 65, none, .op (.ld none (.tmp 64))⟩,
    ⟨some 66, none, .op (.bin .eql (.tmp 65) (.const (.int .u8 2)))⟩]
def c86_16 : C := .reg [⟨some 67, none, .op (.mv (.tmp 8))⟩,
    ⟨some 68, none, .op (.mv (.tmp 11))⟩,
    ⟨some 69, none, .op (.mv (.tmp 10))⟩,
    ⟨some 70, none, .op (.bin .and (.tmp 69) (.const (.int .u32 1)))⟩,
    ⟨some 71, none, .op (.conv .u8 (.tmp 70))⟩,
    ⟨some 72, none, .op (.ia 1 (.tmp 67) (.tmp 68))⟩,
    ⟨none, none, .op (.st 1 (.tmp 72) (.tmp 71))⟩]
def c86_17 : C := .reg [⟨some 73, none, .op (.bin .add (.tmp 43) (.const (.int .i64 1)))⟩,
    ⟨some 43, none, .op (.mv (.tmp 73))⟩]
def c86_18 : C := .reg [⟨some 74, none, .op (.mv (.tmp 0))⟩,
    ⟨some 75, none, .op (.nn (.tmp 74))⟩,
    ⟨some 76, none, .op (.fa 0 (.tmp 75))⟩,
    ⟨some 77, none, .op (.ld (some 6) (.tmp 76))⟩,
    ⟨some 78, none, .op (.mv (.tmp 7))⟩,
    ⟨some 79, none, .op (.mkSl (reps 1 [(.slice none 0 0)]) 1 [(0, 1, .tmp 78)])⟩,
    ⟨some 80, none, .op (.mk [(.slice none 0 0)] [(0, 1, .tmp 79)])⟩,
    ⟨some 81, none, .op (.mv (.tmp 8))⟩,
    ⟨some 82, none, .call 140 [.tmp 77, .tmp 80, .tmp 81]⟩,
    ⟨some 83, none, .op (.un .not (.tmp 82))⟩]
def c86_19 : C := .reg [⟨some 84, none, .op (.mv (.tmp 8))⟩,
    ⟨some 85, none, .op (.mk [(.int .u8 0), (.slice none 0 0), (.slice none 0 0), (.int .i64 0)] [(0, 1, .const (.int .u8 2)), (1, 1, .tmp 84)])⟩,
    ⟨none, none, .op (.st 4 (.tmp 2) (.tmp 85))⟩]
def c86_20 : C := .reg [⟨some 86, none, .op (.bin .add (.tmp 35) (.const (.int .i64 1)))⟩,
    ⟨some 35, none, .op (.mv (.tmp 86))⟩]
def c86_21 : C := .reg [⟨some 87, none, .op (.mk [(.int .u8 0), (.slice none 0 0), (.slice none 0 0), (.int .i64 0)] [(0, 1, .const (.int .u8 1))])⟩,
    ⟨none, none, .op (.st 4 (.tmp 2) (.tmp 87))⟩]
def c86 : Fn' := ⟨(.seq c86_0 (.seq c86_1 (.seq (.seq c86_2 (.block 0 (.loop (.seq c86_3 (.seq (.cond (.tmp 19) .skip (.exit 0)) (.seq (.block 1 (.seq c86_4 c86_5)) c86_6)))))) (.seq (.seq c86_7 (.block 2 (.loop (.seq c86_8 (.seq (.cond (.tmp 36) .skip (.exit 2)) (.seq (.block 3 (.seq c86_9 (.seq c86_10 (.seq (.seq c86_11 (.block 4 (.loop (.seq c86_12 (.seq (.cond (.tmp 44) .skip (.exit 4)) (.seq (.block 5 (.seq c86_13 (.seq c86_14 (.seq c86_15 (.cond (.tmp 66) c86_16 .skip))))) c86_17)))))) (.seq c86_18 (.cond (.tmp 83) (.seq c86_19 .ret) .skip)))))) c86_20)))))) (.seq c86_21 .ret))))), [.cell 2 (some 4)]⟩
theorem comp86 : compFn Tryz.prog 86 = some c86 := by kernel_rfl

def c87_0 : C := .reg [⟨some 2, none, .op (.new [(.int .u8 0), (.slice none 0 0), (.slice none 0 0), (.int .i64 0)])⟩]
def c87_1 : C := .reg [⟨some 3, none, .op (.mv (.const (.bool false)))⟩]
def c87_2 : C := .reg [⟨some 10, none, .op (.mv (.tmp 0))⟩,
    ⟨some 11, none, .op (.nn (.tmp 10))⟩,
    ⟨some 12, none, .op (.fa 12 (.tmp 11))⟩,
    ⟨some 13, none, .op (.fa 0 (.tmp 12))⟩,
    ⟨some 14, none, .op (.ld none (.tmp 13))⟩,
    ⟨some 15, none, .op (.len (.tmp 14))⟩,
    ⟨some 16, none, .op (.mv (.const (.int .i64 0)))⟩]
def c87_3 : C := .reg [⟨some 17, none, .op (.bin .lss (.tmp 16) (.tmp 15))⟩]
def c87_4 : C := .reg [⟨some 18, none, .op (.ia 1 (.tmp 14) (.tmp 16))⟩,
    ⟨some 19, none, .op (.ld none (.tmp 18))⟩,
    ⟨some 5, none, .op (.mv (.tmp 19))⟩]
def c87_5 : C := .reg [⟨some 6, none, .op (.mv (.const (.slice none 0 0)))⟩]
def c87_6 : C := .reg [⟨some 20, none, .op (.mv (.tmp 5))⟩,
    ⟨some 21, none, .op (.len (.tmp 20))⟩,
    ⟨some 22, none, .op (.mv (.const (.int .i64 0)))⟩]
def c87_7 : C := .reg [⟨some 23, none, .op (.bin .lss (.tmp 22) (.tmp 21))⟩]
def c87_8 : C := .reg [⟨some 24, none, .op (.ia 1 (.tmp 20) (.tmp 22))⟩,
    ⟨some 25, none, .op (.ld none (.tmp 24))⟩,
    ⟨some 8, none, .op (.mv (.tmp 25))⟩]
def c87_9 : C := .reg [⟨some 26, none, .op (.mv (.tmp 6))⟩,
    ⟨some 27, none, .op (.mv (.tmp 0))⟩,
    ⟨some 28, none, .op (.mv (.tmp 8))⟩,
    ⟨some 29, none, .call 141 [.tmp 27, .tmp 28]⟩,
    ⟨some 30, none, .op (.un .neg (.tmp 29))⟩,
    ⟨some 31, none, .op (.mkSl (reps 1 [(.int .i64 0)]) 1 [(0, 1, .tmp 30)])⟩,
    ⟨some 32, none, .op (.app 1 8 (.tmp 26) (.tmp 31))⟩,
    ⟨some 6, none, .op (.mv (.tmp 32))⟩]
def c87_10 : C := .reg [⟨some 33, none, .op (.bin .add (.tmp 22) (.const (.int .i64 1)))⟩,
    ⟨some 22, none, .op (.mv (.tmp 33))⟩]
def c87_11 : C := .reg [⟨some 34, none, .op (.mv (.tmp 0))⟩,
    ⟨some 35, none, .op (.mv (.tmp 6))⟩,
    ⟨some 36, none, .call 142 [.tmp 34, .tmp 35]⟩,
    ⟨some 9, none, .op (.new [(.int .u8 0), (.slice none 0 0), (.slice none 0 0), (.int .i64 0)])⟩,
    ⟨none, none, .op (.st 4 (.tmp 9) (.tmp 36))⟩]
def c87_12 : C := .reg [⟨some 37, none, .op (.fa 3 (.tmp 9))⟩,
    ⟨some 38, none, .op (.ld none (.tmp 37))⟩,
    ⟨some 39, none, .op (.bin .neq (.tmp 38) (.const (.int .i64 0)))⟩,
    ⟨some 40, none, .op (.mv (.tmp 39))⟩,
    ⟨some 41, (some (40, false)), .op (.fa 0 (.tmp 9))⟩,
    ⟨some 42, (some (40, false)), .op (.ld none (.tmp 41))⟩,
    ⟨some 43, (some (40, false)), .op (.bin .eql (.tmp 42) (.const (.int .u8 2)))⟩,
    ⟨some 44, none, .op (.pick (.tmp 40) (.const (.bool true)) (.tmp 43))⟩]
def c87_13 : C := .reg [⟨some 45, none, .op (.ld (some 4) (.tmp 9))⟩,
    ⟨none, none, .op (.st 4 (.tmp 2) (.tmp 45))⟩]
def c87_14 : C := .reg [⟨some 46, none, .op (.mv (.tmp 3))⟩,
    ⟨some 47, none, .op (.mv (.tmp 46))⟩,
    ⟨some 48, (some (47, false)), .op (.fa 0 (.tmp 9))⟩,
    ⟨some 49, (some (47, false)), .op (.ld none (.tmp 48))⟩,
    ⟨some 50, (some (47, false)), .op (.bin .eql (.tmp 49) (.const (.int .u8 0)))⟩,
    ⟨some 51, none, .op (.pick (.tmp 47) (.const (.bool true)) (.tmp 50))⟩,
    ⟨some 3, none, .op (.mv (.tmp 51))⟩]
def c87_15 : C := .reg [⟨some 52, none, .op (.bin .add (.tmp 16) (.const (.int .i64 1)))⟩,
    ⟨some 16, none, .op (.mv (.tmp 52))⟩]
def c87_16 : C := .reg [⟨some 53, none, .op (.mv (.tmp 3))⟩]
def c87_17 : C := .reg [⟨some 54, none, .op (.mk [(.int .u8 0), (.slice none 0 0), (.slice none 0 0), (.int .i64 0)] [(0, 1, .const (.int .u8 0))])⟩,
    ⟨none, none, .op (.st 4 (.tmp 2) (.tmp 54))⟩]
def c87_18 : C := .reg [⟨some 55, none, .op (.mk [(.int .u8 0), (.slice none 0 0), (.slice none 0 0), (.int .i64 0)] [(0, 1, .const (.int .u8 1))])⟩,
    ⟨none, none, .op (.st 4 (.tmp 2) (.tmp 55))⟩]
def c87 : Fn' := ⟨(.seq c87_0 (.seq c87_1 (.seq (.seq c87_2 (.block 0 (.loop (.seq c87_3 (.seq (.cond (.tmp 17) .skip (.exit 0)) (.seq (.block 1 (.seq c87_4 (.seq c87_5 (.seq (.seq c87_6 (.block 2 (.loop (.seq c87_7 (.seq (.cond (.tmp 23) .skip (.exit 2)) (.seq (.block 3 (.seq c87_8 c87_9)) c87_10)))))) (.seq c87_11 (.seq (.seq c87_12 (.cond (.tmp 44) (.seq c87_13 .ret) .skip)) c87_14)))))) c87_15)))))) (.seq (.seq c87_16 (.cond (.tmp 53) (.seq c87_17 .ret) .skip)) (.seq c87_18 .ret))))), [.cell 2 (some 4)]⟩
theorem comp87 : compFn Tryz.prog 87 = some c87 := by kernel_rfl

def c88_0 : C := .reg [⟨some 2, none, .op (.new [(.int .u8 0), (.slice none 0 0), (.slice none 0 0), (.int .i64 0)])⟩]
def c88_1 : C := .regD 1 [⟨0, ⟨some 3, none, .op (.mv (.tmp 0))⟩, none, []⟩,
    ⟨1, ⟨some 4, none, .op (.mv (.tmp 0))⟩, none, []⟩,
    ⟨2, ⟨some 5, none, .op (.mv (.tmp 0))⟩, none, []⟩,
    ⟨3, ⟨some 6, none, .op (.nn (.tmp 5))⟩, none, []⟩,
    ⟨4, ⟨some 7, none, .op (.fa 0 (.tmp 6))⟩, none, []⟩,
    ⟨5, ⟨some 8, none, .op (.fa 4 (.tmp 7))⟩, none, []⟩,
    ⟨6, ⟨some 9, none, .op (.ld none (.tmp 8))⟩, none, []⟩,
    ⟨7, ⟨some 10, none, .op (.mv (.tmp 0))⟩, none, []⟩,
    ⟨8, ⟨some 11, none, .op (.nn (.tmp 10))⟩, none, []⟩,
    ⟨9, ⟨some 12, none, .op (.fa 13 (.tmp 11))⟩, none, []⟩,
    ⟨10, ⟨some 13, none, .op (.ld none (.tmp 12))⟩, none, []⟩,
    ⟨11, ⟨some 14, none, .op (.ia 1 (.tmp 9) (.tmp 13))⟩, none, []⟩,
    ⟨12, ⟨some 15, none, .op (.ld none (.tmp 14))⟩, none, []⟩,
    ⟨13, ⟨some 16, none, .call 138 [.tmp 4, .tmp 15]⟩, none, []⟩,
    ⟨14, ⟨some 17, none, .op (.mkSl (reps 1 [(.int .i64 0)]) 1 [(0, 1, .tmp 16)])⟩, some 0, []⟩,
    ⟨15, ⟨some 18, none, .call 142 [.tmp 3, .tmp 17]⟩, none, []⟩,
    ⟨16, ⟨none, none, .op (.st 4 (.tmp 2) (.tmp 18))⟩, none, []⟩]
def c88 : Fn' := ⟨(.seq c88_0 (.seq c88_1 .ret)), [.cell 2 (some 4)]⟩
theorem comp88 : compFn Tryz.prog 88 = some c88 := by kernel_rfl

def c97_0 : C := .reg [⟨some 1, none, .op (.box (.tmp 0))⟩,
    ⟨some 2, none, .op (.mv (.const (.bool false)))⟩]
def c97_1 : C := .reg [⟨some 11, none, .op (.fa 0 (.tmp 1))⟩,
    ⟨some 12, none, .op (.ld none (.tmp 11))⟩,
    ⟨some 13, none, .op (.bin .lss (.tmp 12) (.const (.int .i64 0)))⟩,
    ⟨some 14, none, .op (.mv (.tmp 13))⟩,
    ⟨some 15, (some (14, false)), .op (.fa 0 (.tmp 1))⟩,
    ⟨some 16, (some (14, false)), .op (.ld none (.tmp 15))⟩,
    ⟨some 17, (some (14, false)), .op (.bin .gtr (.tmp 16) (.const (.int .i64 16384)))⟩,
    ⟨some 18, none, .op (.pick (.tmp 14) (.const (.bool true)) (.tmp 17))⟩,
    ⟨some 19, none, .op (.mv (.tmp 18))⟩,
    ⟨some 20, (some (19, false)), .op (.ld (some 6) (.tmp 1))⟩,
    ⟨some 21, (some (19, false)), .call 144 [.tmp 20]⟩,
    ⟨some 22, (some (19, false)), .op (.bin .gtr (.tmp 21) (.const (.int .i64 16384)))⟩,
    ⟨some 23, none, .op (.pick (.tmp 19) (.const (.bool true)) (.tmp 22))⟩]
def c97_2 : C := .reg [⟨some 2, none, .op (.mv (.const (.bool false)))⟩]
def c97_3 : C := .reg [⟨some 24, none, .op (.fn 145 [] [.tmp 1])⟩,
    ⟨some 3, none, .op (.mv (.tmp 24))⟩]
def c97_4 : C := .reg [⟨some 25, none, .op (.fa 3 (.tmp 1))⟩,
    ⟨some 26, none, .op (.ld none (.tmp 25))⟩,
    ⟨some 27, none, .op (.fa 4 (.tmp 1))⟩,
    ⟨some 28, none, .op (.ld none (.tmp 27))⟩,
    ⟨some 29, none, .op (.fa 5 (.tmp 1))⟩,
    ⟨some 30, none, .op (.ld none (.tmp 29))⟩,
    ⟨some 31, none, .op (.mkSl (reps 3 [(.slice none 0 0)]) 3 [(0, 1, .tmp 26), (1, 1, .tmp 28), (2, 1, .tmp 30)])⟩,
    ⟨some 32, none, .op (.len (.tmp 31))⟩,
    ⟨some 33, none, .op (.mv (.const (.int .i64 0)))⟩]
def c97_5 : C := .reg [⟨some 34, none, .op (.bin .lss (.tmp 33) (.tmp 32))⟩]
def c97_6 : C := .reg [⟨some 35, none, .op (.ia 1 (.tmp 31) (.tmp 33))⟩,
    ⟨some 36, none, .op (.ld none (.tmp 35))⟩,
    ⟨some 5, none, .op (.mv (.tmp 36))⟩]
def c97_7 : C := .reg [⟨some 37, none, .op (.mv (.tmp 5))⟩,
    ⟨some 38, none, .op (.len (.tmp 37))⟩,
    ⟨some 39, none, .op (.bin .gtr (.tmp 38) (.const (.int .i64 1024)))⟩,
    ⟨some 40, none, .op (.mv (.tmp 39))⟩,
    ⟨some 41, (some (40, false)), .op (.mv (.tmp 5))⟩,
    ⟨some 42, (some (40, false)), .op (.mv (.tmp 3))⟩,
    ⟨some 43, (some (40, false)), .call 132 [.tmp 41, .tmp 42]⟩,
    ⟨some 44, none, .op (.pick (.tmp 40) (.const (.bool true)) (.tmp 43))⟩]
def c97_8 : C := .reg [⟨some 2, none, .op (.mv (.const (.bool false)))⟩]
def c97_9 : C := .reg [⟨some 45, none, .op (.bin .add (.tmp 33) (.const (.int .i64 1)))⟩,
    ⟨some 33, none, .op (.mv (.tmp 45))⟩]
def c97_10 : C := .reg [⟨some 46, none, .op (.fa 1 (.tmp 1))⟩,
    ⟨some 47, none, .op (.ld none (.tmp 46))⟩,
    ⟨some 48, none, .op (.len (.tmp 47))⟩,
    ⟨some 49, none, .op (.mv (.const (.int .i64 0)))⟩]
def c97_11 : C := .reg [⟨some 50, none, .op (.bin .lss (.tmp 49) (.tmp 48))⟩]
def c97_12 : C := .reg [⟨some 51, none, .op (.ia 2 (.tmp 47) (.tmp 49))⟩,
    ⟨some 52, none, .op (.ld (some 2) (.tmp 51))⟩,
    ⟨some 7, none, .op (.new [(.int .u32 0), (.int .u8 0)])⟩,
    ⟨none, none, .op (.st 2 (.tmp 7) (.tmp 52))⟩]
def c97_13 : C := .reg [⟨some 53, none, .op (.fa 1 (.tmp 7))⟩,
    ⟨some 54, none, .op (.ld none (.tmp 53))⟩,
    ⟨some 55, none, .op (.bin .gtr (.tmp 54) (.const (.int .u8 2)))⟩,
    ⟨some 56, none, .op (.mv (.tmp 55))⟩,
    ⟨some 57, (some (56, false)), .op (.mv (.tmp 3))⟩,
    ⟨some 58, (some (56, false)), .op (.fa 0 (.tmp 7))⟩,
    ⟨some 59, (some (56, false)), .op (.ld none (.tmp 58))⟩,
    ⟨some 60, (some (56, false)), .callv (.tmp 57) [.tmp 59]⟩,
    ⟨some 61, none, .op (.pick (.tmp 56) (.const (.bool true)) (.tmp 60))⟩]
def c97_14 : C := .reg [⟨some 2, none, .op (.mv (.const (.bool false)))⟩]
def c97_15 : C := .reg [⟨some 62, none, .op (.bin .add (.tmp 49) (.const (.int .i64 1)))⟩,
    ⟨some 49, none, .op (.mv (.tmp 62))⟩]
def c97_16 : C := .reg [⟨some 63, none, .op (.fa 0 (.tmp 1))⟩,
    ⟨some 64, none, .op (.ld none (.tmp 63))⟩,
    ⟨some 65, none, .op (.fa 1 (.tmp 1))⟩,
    ⟨some 66, none, .op (.ld none (.tmp 65))⟩,
    ⟨some 67, none, .op (.len (.tmp 66))⟩,
    ⟨some 68, none, .op (.bin .add (.tmp 64) (.tmp 67))⟩,
    ⟨some 69, none, .op (.conv .u32 (.tmp 68))⟩,
    ⟨some 8, none, .op (.mv (.tmp 69))⟩]
def c97_17 : C := .reg [⟨some 70, none, .op (.fa 2 (.tmp 1))⟩,
    ⟨some 71, none, .op (.ld none (.tmp 70))⟩,
    ⟨some 72, none, .op (.len (.tmp 71))⟩,
    ⟨some 73, none, .op (.mv (.const (.int .i64 0)))⟩]
def c97_18 : C := .reg [⟨some 74, none, .op (.bin .lss (.tmp 73) (.tmp 72))⟩]
def c97_19 : C := .reg [⟨some 75, none, .op (.ia 2 (.tmp 71) (.tmp 73))⟩,
    ⟨some 76, none, .op (.ld (some 2) (.tmp 75))⟩,
    ⟨some 10, none, .op (.new [(.int .u32 0), (.int .u32 0)])⟩,
    ⟨none, none, .op (.st 2 (.tmp 10) (.tmp 76))⟩]
def c97_20 : C := .reg [⟨some 77, none, .op (.mv (.tmp 8))⟩,
    ⟨some 78, none, .op (.bin .add (.tmp 77) (.const (.int .u32 1)))⟩,
    ⟨some 8, none, .op (.mv (.tmp 78))⟩]
def c97_21 : C := .reg [⟨some 79, none, .op (.fa 0 (.tmp 10))⟩,
    ⟨some 80, none, .op (.ld none (.tmp 79))⟩,
    ⟨some 81, none, .op (.bin .shr (.tmp 80) (.const (.int .u64 1)))⟩,
    ⟨some 82, none, .op (.mv (.tmp 8))⟩,
    ⟨some 83, none, .op (.bin .geq (.tmp 81) (.tmp 82))⟩,
    ⟨some 84, none, .op (.mv (.tmp 83))⟩,
    ⟨some 85, (some (84, false)), .op (.fa 0 (.tmp 10))⟩,
    ⟨some 86, (some (84, false)), .op (.ld none (.tmp 85))⟩,
    ⟨some 87, (some (84, false)), .op (.fa 1 (.tmp 10))⟩,
    ⟨some 88, (some (84, false)), .op (.ld none (.tmp 87))⟩,
    ⟨some 89, (some (84, false)), .op (.bin .lss (.tmp 86) (.tmp 88))⟩,
    ⟨some 90, none, .op (.pick (.tmp 84) (.const (.bool true)) (.tmp 89))⟩]
def c97_22 : C := .reg [⟨some 2, none, .op (.mv (.const (.bool false)))⟩]
def c97_23 : C := .reg [⟨some 91, none, .op (.bin .add (.tmp 73) (.const (.int .i64 1)))⟩,
    ⟨some 73, none, .op (.mv (.tmp 91))⟩]
def c97_24 : C := .reg [⟨some 2, none, .op (.mv (.const (.bool true)))⟩]
def c97 : Fn' := ⟨(.seq c97_0 (.seq (.seq c97_1 (.cond (.tmp 23) (.seq c97_2 .ret) .skip)) (.seq c97_3 (.seq (.seq c97_4 (.block 0 (.loop (.seq c97_5 (.seq (.cond (.tmp 34) .skip (.exit 0)) (.seq (.block 1 (.seq c97_6 (.seq c97_7 (.cond (.tmp 44) (.seq c97_8 .ret) .skip)))) c97_9)))))) (.seq (.seq c97_10 (.block 2 (.loop (.seq c97_11 (.seq (.cond (.tmp 50) .skip (.exit 2)) (.seq (.block 3 (.seq c97_12 (.seq c97_13 (.cond (.tmp 61) (.seq c97_14 .ret) .skip)))) c97_15)))))) (.seq c97_16 (.seq (.seq c97_17 (.block 4 (.loop (.seq c97_18 (.seq (.cond (.tmp 74) .skip (.exit 4)) (.seq (.block 5 (.seq c97_19 (.seq c97_20 (.seq c97_21 (.cond (.tmp 90) (.seq c97_22 .ret) .skip))))) c97_23)))))) (.seq c97_24 .ret)))))))), [.tmp 2]⟩
theorem comp97 : compFn Tryz.prog 97 = some c97 := by kernel_rfl

def c100_0 : C := .reg [⟨some 4, none, .op (.mv (.const (.bool false)))⟩]
def c100_1 : C := .reg [⟨some 5, none, .op (.mv (.tmp 0))⟩,
    ⟨some 6, none, .op (.mv (.tmp 1))⟩,
    ⟨some 7, none, .call 152 [.tmp 5, .tmp 6]⟩,
    ⟨some 8, none, .op (.bin .geq (.tmp 7) (.const (.int .i64 0)))⟩,
    ⟨some 4, none, .op (.mv (.tmp 8))⟩]
def c100 : Fn' := ⟨(.seq c100_0 (.seq c100_1 .ret)), [.tmp 4]⟩
theorem comp100 : compFn Tryz.prog 100 = some c100 := by kernel_rfl

def c130_0 : C := .reg [⟨some 4, none, .op (.mv (.const (.bool false)))⟩]
def c130_1 : C := .reg [⟨some 5, none, .op (.mv (.tmp 0))⟩,
    ⟨some 6, none, .op (.bin .shr (.tmp 5) (.const (.int .u64 1)))⟩,
    ⟨some 7, none, .op (.conv .i64 (.tmp 6))⟩,
    ⟨some 8, none, .op (.ld none (.tmp 1))⟩,
    ⟨some 9, none, .op (.bin .lss (.tmp 7) (.tmp 8))⟩,
    ⟨some 10, none, .op (.mv (.tmp 9))⟩,
    ⟨some 11, (some (10, false)), .op (.mv (.tmp 0))⟩,
    ⟨some 12, (some (10, false)), .op (.bin .shr (.tmp 11) (.const (.int .u64 1)))⟩,
    ⟨some 13, (some (10, false)), .op (.conv .i64 (.tmp 12))⟩,
    ⟨some 14, (some (10, false)), .op (.ld none (.tmp 2))⟩,
    ⟨some 15, (some (10, false)), .op (.bin .gtr (.tmp 13) (.tmp 14))⟩,
    ⟨some 16, none, .op (.pick (.tmp 10) (.const (.bool true)) (.tmp 15))⟩,
    ⟨some 4, none, .op (.mv (.tmp 16))⟩]
def c130 : Fn' := ⟨(.seq c130_0 (.seq c130_1 .ret)), [.tmp 4]⟩
theorem comp130 : compFn Tryz.prog 130 = some c130 := by kernel_rfl

def c131_0 : C := .reg [⟨some 3, none, .op (.mv (.const (.bool false)))⟩]
def c131_1 : C := .reg [⟨some 4, none, .op (.mv (.tmp 0))⟩,
    ⟨some 5, none, .op (.len (.tmp 4))⟩,
    ⟨some 6, none, .op (.bin .gtr (.tmp 5) (.const (.int .i64 4096)))⟩,
    ⟨some 7, none, .op (.mv (.tmp 6))⟩,
    ⟨some 8, (some (7, false)), .op (.mv (.tmp 0))⟩,
    ⟨some 9, (some (7, false)), .op (.ld none (.tmp 1))⟩,
    ⟨some 10, (some (7, false)), .call 132 [.tmp 8, .tmp 9]⟩,
    ⟨some 11, none, .op (.pick (.tmp 7) (.const (.bool true)) (.tmp 10))⟩,
    ⟨some 3, none, .op (.mv (.tmp 11))⟩]
def c131 : Fn' := ⟨(.seq c131_0 (.seq c131_1 .ret)), [.tmp 3]⟩
theorem comp131 : compFn Tryz.prog 131 = some c131 := by kernel_rfl

def c132_0 : C := .reg [⟨some 4, none, .op (.mv (.const (.bool false)))⟩]
def c132_1 : C := .reg [⟨some 5, none, .op (.mv (.tmp 0))⟩,
    ⟨some 6, none, .op (.mv (.tmp 1))⟩,
    ⟨some 7, none, .call 171 [.tmp 5, .tmp 6]⟩,
    ⟨some 8, none, .op (.bin .geq (.tmp 7) (.const (.int .i64 0)))⟩,
    ⟨some 4, none, .op (.mv (.tmp 8))⟩]
def c132 : Fn' := ⟨(.seq c132_0 (.seq c132_1 .ret)), [.tmp 4]⟩
theorem comp132 : compFn Tryz.prog 132 = some c132 := by kernel_rfl

def c133_0 : C := .reg [⟨some 2, none, .op (.mv (.const (.slice none 0 0)))⟩]
def c133_1 : C := .reg [⟨some 3, none, .op (.mv (.tmp 0))⟩,
    ⟨some 4, none, .op (.nil 1 false (.tmp 3) (.const (.slice none 0 0)))⟩]
def c133_2 : C := .reg [⟨some 2, none, .op (.mv (.const (.slice none 0 0)))⟩]
def c133_3 : C := .reg [⟨some 5, none, .op (.mkSl (reps 0 [(.int .u32 0), (.int .u8 0)]) 0 [])⟩,
    ⟨some 6, none, .op (.mv (.tmp 0))⟩,
    ⟨some 7, none, .op (.app 2 8 (.tmp 5) (.tmp 6))⟩,
    ⟨some 2, none, .op (.mv (.tmp 7))⟩]
def c133 : Fn' := ⟨(.seq c133_0 (.seq (.seq c133_1 (.cond (.tmp 4) (.seq c133_2 .ret) .skip)) (.seq c133_3 .ret))), [.tmp 2]⟩
theorem comp133 : compFn Tryz.prog 133 = some c133 := by kernel_rfl

def c134_0 : C := .reg [⟨some 2, none, .op (.mv (.const (.slice none 0 0)))⟩]
def c134_1 : C := .reg [⟨some 3, none, .op (.mv (.tmp 0))⟩,
    ⟨some 4, none, .op (.nil 1 false (.tmp 3) (.const (.slice none 0 0)))⟩]
def c134_2 : C := .reg [⟨some 2, none, .op (.mv (.const (.slice none 0 0)))⟩]
def c134_3 : C := .reg [⟨some 5, none, .op (.mkSl (reps 0 [(.int .u32 0), (.int .u32 0)]) 0 [])⟩,
    ⟨some 6, none, .op (.mv (.tmp 0))⟩,
    ⟨some 7, none, .op (.app 2 8 (.tmp 5) (.tmp 6))⟩,
    ⟨some 2, none, .op (.mv (.tmp 7))⟩]
def c134 : Fn' := ⟨(.seq c134_0 (.seq (.seq c134_1 (.cond (.tmp 4) (.seq c134_2 .ret) .skip)) (.seq c134_3 .ret))), [.tmp 2]⟩
theorem comp134 : compFn Tryz.prog 134 = some c134 := by kernel_rfl

def c135_0 : C := .reg [⟨some 2, none, .op (.mv (.const (.slice none 0 0)))⟩]
def c135_1 : C := .reg [⟨some 3, none, .op (.mv (.tmp 0))⟩,
    ⟨some 4, none, .op (.nil 1 false (.tmp 3) (.const (.slice none 0 0)))⟩]
def c135_2 : C := .reg [⟨some 2, none, .op (.mv (.const (.slice none 0 0)))⟩]
def c135_3 : C := .reg [⟨some 5, none, .op (.mkSl (reps 0 [(.int .u32 0)]) 0 [])⟩,
    ⟨some 6, none, .op (.mv (.tmp 0))⟩,
    ⟨some 7, none, .op (.app 1 4 (.tmp 5) (.tmp 6))⟩,
    ⟨some 2, none, .op (.mv (.tmp 7))⟩]
def c135 : Fn' := ⟨(.seq c135_0 (.seq (.seq c135_1 (.cond (.tmp 4) (.seq c135_2 .ret) .skip)) (.seq c135_3 .ret))), [.tmp 2]⟩
theorem comp135 : compFn Tryz.prog 135 = some c135 := by kernel_rfl

def c136_0 : C := .reg [⟨some 2, none, .op (.box (.tmp 0))⟩,
    ⟨some 4, none, .op (.mv (.const (.slice none 0 0)))⟩,
    ⟨some 5, none, .op (.mv (.const (.int .i64 0)))⟩]
def c136_1 : C := .reg [⟨some 6, none, .op (.ld (some 6) (.tmp 2))⟩,
    ⟨some 7, none, .op (.mv (.tmp 1))⟩,
    ⟨some 8, none, .call 172 [.tmp 6, .tmp 7, .func 173]⟩,
    ⟨some 9, none, .op (.ext (.tmp 8) 0)⟩,
    ⟨some 10, none, .op (.ext (.tmp 8) 1)⟩,
    ⟨some 4, none, .op (.mv (.tmp 9))⟩,
    ⟨some 5, none, .op (.mv (.tmp 10))⟩]
def c136 : Fn' := ⟨(.seq c136_0 (.seq c136_1 .ret)), [.tmp 4, .tmp 5]⟩
theorem comp136 : compFn Tryz.prog 136 = some c136 := by kernel_rfl

def c137_0 : C := .reg [⟨some 2, none, .op (.box (.tmp 0))⟩,
    ⟨some 4, none, .op (.mv (.const (.int .i64 0)))⟩,
    ⟨some 5, none, .op (.mv (.const (.int .i64 0)))⟩]
def c137_1 : C := .reg [⟨some 6, none, .op (.ld (some 6) (.tmp 2))⟩,
    ⟨some 7, none, .op (.mv (.tmp 1))⟩,
    ⟨some 8, none, .call 174 [.tmp 6, .tmp 7]⟩,
    ⟨some 9, none, .op (.un .not (.tmp 8))⟩]
def c137_2 : C := .reg [⟨some 4, none, .op (.mv (.const (.int .i64 0)))⟩,
    ⟨some 5, none, .op (.mv (.const (.int .i64 2)))⟩]
def c137_3 : C := .reg [⟨some 10, none, .op (.mv (.tmp 1))⟩,
    ⟨some 11, none, .op (.ld (some 6) (.tmp 2))⟩,
    ⟨some 12, none, .call 175 [.tmp 11]⟩,
    ⟨some 13, none, .op (.bin .mul (.tmp 10) (.tmp 12))⟩,
    ⟨some 14, none, .op (.bin .add (.const (.int .i64 1)) (.tmp 13))⟩,
    ⟨some 4, none, .op (.mv (.tmp 14))⟩,
    ⟨some 5, none, .op (.mv (.const (.int .i64 0)))⟩]
def c137 : Fn' := ⟨(.seq c137_0 (.seq (.seq c137_1 (.cond (.tmp 9) (.seq c137_2 .ret) .skip)) (.seq c137_3 .ret))), [.tmp 4, .tmp 5]⟩
theorem comp137 : compFn Tryz.prog 137 = some c137 := by kernel_rfl

def c138_0 : C := .reg [⟨some 4, none, .op (.mv (.const (.int .i64 0)))⟩]
def c138_1 : C := .reg [⟨some 8, none, .op (.mv (.tmp 0))⟩,
    ⟨some 9, none, .op (.nn (.tmp 8))⟩,
    ⟨some 10, none, .op (.fa 6 (.tmp 9))⟩,
    ⟨some 11, none, .op (.ld (some 6) (.tmp 10))⟩,
    ⟨some 12, none, .op (.mv (.tmp 1))⟩,
    ⟨some 13, none, .call 176 [.tmp 11, .tmp 12, .const (.int .i64 0)]⟩,
    ⟨some 7, none, .op (.mv (.tmp 13))⟩,
    ⟨some 14, none, .op (.ext (.tmp 7) 0)⟩,
    ⟨some 15, none, .op (.ext (.tmp 7) 1)⟩,
    ⟨some 5, none, .op (.mv (.tmp 14))⟩,
    ⟨some 6, none, .op (.mv (.tmp 15))⟩]
def c138_2 : C := .reg [⟨some 16, none, .op (.mv (.tmp 5))⟩,
    ⟨some 4, none, .op (.mv (.tmp 16))⟩]
def c138 : Fn' := ⟨(.seq c138_0 (.seq c138_1 (.seq c138_2 .ret))), [.tmp 4]⟩
theorem comp138 : compFn Tryz.prog 138 = some c138 := by kernel_rfl

def c139_0 : C := .reg [⟨some 2, none, .op (.mv (.const (.slice none 0 0)))⟩]
def c139_1 : C := .reg [⟨some 3, none, .op (.mv (.tmp 0))⟩,
    ⟨some 4, none, .op (.nil 1 false (.tmp 3) (.const (.slice none 0 0)))⟩]
def c139_2 : C := .reg [⟨some 2, none, .op (.mv (.const (.slice none 0 0)))⟩]
def c139_3 : C := .reg [⟨some 5, none, .op (.mkSl (reps 0 [(.int .u8 0)]) 0 [])⟩,
    ⟨some 6, none, .op (.mv (.tmp 0))⟩,
    ⟨some 7, none, .op (.app 1 1 (.tmp 5) (.tmp 6))⟩,
    ⟨some 2, none, .op (.mv (.tmp 7))⟩]
def c139 : Fn' := ⟨(.seq c139_0 (.seq (.seq c139_1 (.cond (.tmp 4) (.seq c139_2 .ret) .skip)) (.seq c139_3 .ret))), [.tmp 2]⟩
theorem comp139 : compFn Tryz.prog 139 = some c139 := by kernel_rfl

def c140_0 : C := .reg [⟨some 3, none, .op (.box (.tmp 0))⟩,
    ⟨some 4, none, .op (.box (.tmp 1))⟩,
    ⟨some 5, none, .op (.box (.tmp 2))⟩,
    ⟨some 6, none, .op (.mv (.const (.bool false)))⟩]
def c140_1 : C := .reg [⟨some 8, none, .op (.fn 177 [] [.tmp 3, .tmp 5])⟩,
    ⟨some 7, none, .op (.mv (.tmp 8))⟩]
def c140_2 : C := .reg [⟨some 9, none, .op (.fa 0 (.tmp 4))⟩,
    ⟨some 10, none, .op (.ld none (.tmp 9))⟩,
    ⟨some 11, none, .op (.mv (.tmp 7))⟩,
    ⟨some 12, none, .call 100 [.tmp 10, .tmp 11]⟩,
    ⟨some 13, none, .op (.un .not (.tmp 12))⟩,
    ⟨some 6, none, .op (.mv (.tmp 13))⟩]
def c140 : Fn' := ⟨(.seq c140_0 (.seq c140_1 (.seq c140_2 .ret))), [.tmp 6]⟩
theorem comp140 : compFn Tryz.prog 140 = some c140 := by kernel_rfl

def c141_0 : C := .reg [⟨some 4, none, .op (.mv (.const (.int .i64 0)))⟩]
def c141_1 : C := .regD 0 [⟨0, ⟨some 5, none, .op (.mv (.tmp 0))⟩, none, []⟩,
    ⟨1, ⟨some 6, none, .op (.mv (.tmp 0))⟩, none, []⟩,
    ⟨2, ⟨some 7, none, .op (.nn (.tmp 6))⟩, none, []⟩,
    ⟨3, ⟨some 8, none, .op (.fa 0 (.tmp 7))⟩, none, []⟩,
    ⟨4, ⟨some 9, none, .op (.fa 1 (.tmp 8))⟩, none, []⟩,
    ⟨5, ⟨some 10, none, .op (.ld none (.tmp 9))⟩, none, []⟩,
    ⟨6, ⟨some 11, none, .op (.mv (.tmp 1))⟩, none, []⟩,
    ⟨7, ⟨some 12, none, .op (.bin .shr (.tmp 11) (.const (.int .u64 1)))⟩, none, []⟩,
    ⟨8, ⟨some 13, none, .op (.conv .i64 (.tmp 12))⟩, none, []⟩,
    ⟨9, ⟨some 14, none, .op (.bin .sub (.tmp 13) (.const (.int .i64 1)))⟩, none, []⟩,
    ⟨10, ⟨some 15, none, .op (.mv (.tmp 0))⟩, none, []⟩,
    ⟨11, ⟨some 16, none, .op (.nn (.tmp 15))⟩, none, []⟩,
    ⟨12, ⟨some 17, none, .op (.fa 0 (.tmp 16))⟩, none, []⟩,
    ⟨13, ⟨some 18, none, .op (.fa 0 (.tmp 17))⟩, none, []⟩,
    ⟨14, ⟨some 19, none, .op (.ld none (.tmp 18))⟩, none, []⟩,
    ⟨15, ⟨some 20, none, .op (.bin .sub (.tmp 14) (.tmp 19))⟩, none, []⟩,
    ⟨16, ⟨some 21, none, .op (.ia 2 (.tmp 10) (.tmp 20))⟩, none, []⟩,
    ⟨17, ⟨some 22, none, .op (.fa 0 (.tmp 21))⟩, none, []⟩,
    ⟨18, ⟨some 23, none, .op (.ld none (.tmp 22))⟩, none, []⟩,
    ⟨19, ⟨some 24, none, .op (.mv (.tmp 1))⟩, none, []⟩,
    ⟨20, ⟨some 25, none, .op (.bin .and (.tmp 24) (.const (.int .u32 1)))⟩, none, []⟩,
    ⟨21, ⟨some 26, none, .op (.bin .xor (.tmp 23) (.tmp 25))⟩, none, []⟩,
    ⟨22, ⟨some 27, none, .call 138 [.tmp 5, .tmp 26]⟩, none, []⟩,
    ⟨23, ⟨some 4, none, .op (.mv (.tmp 27))⟩, none, []⟩]
def c141 : Fn' := ⟨(.seq c141_0 (.seq c141_1 .ret)), [.tmp 4]⟩
theorem comp141 : compFn Tryz.prog 141 = some c141 := by kernel_rfl

def c142_0 : C := .reg [⟨some 4, none, .op (.new [(.int .u8 0), (.slice none 0 0), (.slice none 0 0), (.int .i64 0)])⟩]
def c142_1 : C := .regD 0 [⟨0, ⟨some 10, none, .op (.mv (.tmp 0))⟩, none, []⟩,
    ⟨1, ⟨some 11, none, .op (.nn (.tmp 10))⟩, none, []⟩,
    ⟨2, ⟨some 12, none, .op (.fa 15 (.tmp 11))⟩, none, []⟩,
    ⟨3, ⟨some 13, none, .op (.ld none (.tmp 12))⟩, none, []⟩,
    ⟨4, ⟨some 14, none, .op (.mv (.tmp 1))⟩, none, []⟩,
    ⟨5, ⟨some 15, none, .op (.mv (.tmp 0))⟩, none, []⟩,
    ⟨6, ⟨some 16, none, .op (.nn (.tmp 15))⟩, none, []⟩,
    ⟨7, ⟨some 17, none, .op (.fa 14 (.tmp 16))⟩, none, []⟩,
    ⟨8, ⟨some 18, none, .op (.ld none (.tmp 17))⟩, none, []⟩,
    ⟨9, ⟨some 19, none, .call 23 [.tmp 13, .tmp 14, .tmp 18]⟩, none, []⟩,
    ⟨10, ⟨some 9, none, .op (.mv (.tmp 19))⟩, none, []⟩,
    ⟨11, ⟨some 20, none, .op (.ext (.tmp 9) 0)⟩, none, []⟩,
    ⟨12, ⟨some 21, none, .op (.ext (.tmp 9) 1)⟩, none, []⟩,
    ⟨13, ⟨some 5, none, .op (.mv (.tmp 20))⟩, none, []⟩,
    ⟨14, ⟨some 6, none, .op (.mv (.tmp 21))⟩, none, []⟩]
def c142_2 : C := .reg [⟨some 23, none, .op (.mv (.tmp 6))⟩,
    ⟨some 24, none, .op (.bin .neq (.tmp 23) (.const (.int .i64 0)))⟩,
    ⟨some 22, none, .op (.mv (.tmp 24))⟩]
def c142_3 : C := .reg [⟨some 25, none, .op (.mk [(.int .u8 0), (.slice none 0 0), (.slice none 0 0), (.int .i64 0)] [(3, 1, .const (.int .i64 3))])⟩,
    ⟨none, none, .op (.st 4 (.tmp 4) (.tmp 25))⟩]
def c142_4 : C := .reg [⟨some 27, none, .op (.mv (.tmp 5))⟩,
    ⟨some 28, none, .op (.bin .eql (.tmp 27) (.const (.int .u8 2)))⟩,
    ⟨some 26, none, .op (.mv (.tmp 28))⟩]
def c142_5 : C := .reg [⟨some 29, none, .op (.mk [(.int .u8 0), (.slice none 0 0), (.slice none 0 0), (.int .i64 0)] [(0, 1, .const (.int .u8 1))])⟩,
    ⟨none, none, .op (.st 4 (.tmp 4) (.tmp 29))⟩]
def c142_6 : C := .reg [⟨some 31, none, .op (.mv (.tmp 5))⟩,
    ⟨some 32, none, .op (.bin .eql (.tmp 31) (.const (.int .u8 0)))⟩,
    ⟨some 30, none, .op (.mv (.tmp 32))⟩]
def c142_7 : C := .reg [⟨some 33, none, .op (.mk [(.int .u8 0), (.slice none 0 0), (.slice none 0 0), (.int .i64 0)] [(0, 1, .const (.int .u8 0))])⟩,
    ⟨none, none, .op (.st 4 (.tmp 4) (.tmp 33))⟩]
def c142_8 : C := .regD 1 [⟨0, ⟨some 35, none, .op (.mv (.tmp 0))⟩, none, []⟩,
    ⟨1, ⟨some 36, none, .op (.nn (.tmp 35))⟩, none, []⟩,
    ⟨2, ⟨some 37, none, .op (.fa 6 (.tmp 36))⟩, none, []⟩,
    ⟨3, ⟨some 38, none, .op (.ld (some 6) (.tmp 37))⟩, none, []⟩,
    ⟨4, ⟨some 39, none, .op (.mv (.tmp 0))⟩, none, []⟩,
    ⟨5, ⟨some 40, none, .op (.nn (.tmp 39))⟩, none, []⟩,
    ⟨6, ⟨some 41, none, .op (.fa 13 (.tmp 40))⟩, none, []⟩,
    ⟨7, ⟨some 42, none, .op (.ld none (.tmp 41))⟩, none, []⟩,
    ⟨8, ⟨some 43, none, .op (.mv (.tmp 0))⟩, none, []⟩,
    ⟨9, ⟨some 44, none, .op (.nn (.tmp 43))⟩, none, []⟩,
    ⟨10, ⟨some 45, none, .op (.fa 15 (.tmp 44))⟩, none, []⟩,
    ⟨11, ⟨some 46, none, .op (.ld none (.tmp 45))⟩, none, []⟩,
    ⟨12, ⟨some 47, none, .call 26 [.tmp 46]⟩, none, [(none, .tmp 41, 42, none), (some 6, .tmp 37, 38, none)]⟩,
    ⟨13, ⟨some 48, none, .call 180 [.tmp 38, .tmp 42, .const (.int .i64 1), .tmp 47]⟩, none, []⟩,
    ⟨14, ⟨some 34, none, .op (.mv (.tmp 48))⟩, none, []⟩,
    ⟨15, ⟨some 49, none, .op (.ext (.tmp 34) 0)⟩, none, []⟩,
    ⟨16, ⟨some 50, none, .op (.ext (.tmp 34) 1)⟩, none, []⟩,
    ⟨17, ⟨some 7, none, .op (.new [(.int .i64 0), (.slice none 0 0), (.slice none 0 0)])⟩, some 0, []⟩,
    ⟨18, ⟨none, none, .op (.st 3 (.tmp 7) (.tmp 49))⟩, none, []⟩,
    ⟨19, ⟨some 8, none, .op (.mv (.tmp 50))⟩, none, []⟩]
def c142_9 : C := .regD 0 [⟨0, ⟨some 51, none, .op (.fa 1 (.tmp 7))⟩, none, []⟩,
    ⟨1, ⟨some 52, none, .op (.ld none (.tmp 51))⟩, none, []⟩,
    ⟨2, ⟨some 53, none, .op (.fa 2 (.tmp 7))⟩, none, []⟩,
    ⟨3, ⟨some 54, none, .op (.ld none (.tmp 53))⟩, none, []⟩,
    ⟨4, ⟨some 55, none, .op (.ia 1 (.tmp 54) (.const (.int .i64 0)))⟩, none, []⟩,
    ⟨5, ⟨some 56, none, .op (.ld none (.tmp 55))⟩, none, []⟩,
    ⟨6, ⟨some 57, none, .op (.mk [(.int .u8 0), (.slice none 0 0), (.slice none 0 0), (.int .i64 0)] [(0, 1, .const (.int .u8 2)), (1, 1, .tmp 52), (2, 1, .tmp 56)])⟩, none, []⟩,
    ⟨7, ⟨none, none, .op (.st 4 (.tmp 4) (.tmp 57))⟩, none, []⟩]
def c142 : Fn' := ⟨(.seq c142_0 (.seq c142_1 (.seq (.block 0 (.seq c142_2 (.cond (.tmp 22) (.seq c142_3 .ret) (.seq c142_4 (.cond (.tmp 26) (.seq c142_5 .ret) (.seq c142_6 (.cond (.tmp 30) (.seq c142_7 .ret) .skip))))))) (.seq c142_8 (.seq c142_9 .ret))))), [.cell 4 (some 4)]⟩
theorem comp142 : compFn Tryz.prog 142 = some c142 := by kernel_rfl

def c144_0 : C := .reg [⟨some 1, none, .op (.box (.tmp 0))⟩,
    ⟨some 2, none, .op (.mv (.const (.int .i64 0)))⟩]
def c144_1 : C := .reg [⟨some 3, none, .op (.fa 0 (.tmp 1))⟩,
    ⟨some 4, none, .op (.ld none (.tmp 3))⟩,
    ⟨some 5, none, .op (.fa 1 (.tmp 1))⟩,
    ⟨some 6, none, .op (.ld none (.tmp 5))⟩,
    ⟨some 7, none, .op (.len (.tmp 6))⟩,
    ⟨some 8, none, .op (.bin .add (.tmp 4) (.tmp 7))⟩,
    ⟨some 9, none, .op (.fa 2 (.tmp 1))⟩,
    ⟨some 10, none, .op (.ld none (.tmp 9))⟩,
    ⟨some 11, none, .op (.len (.tmp 10))⟩,
    ⟨some 12, none, .op (.bin .add (.tmp 8) (.tmp 11))⟩,
    ⟨some 2, none, .op (.mv (.tmp 12))⟩]
def c144 : Fn' := ⟨(.seq c144_0 (.seq c144_1 .ret)), [.tmp 2]⟩
theorem comp144 : compFn Tryz.prog 144 = some c144 := by kernel_rfl

def c145_0 : C := .reg [⟨some 3, none, .op (.mv (.const (.bool false)))⟩]
def c145_1 : C := .reg [⟨some 4, none, .op (.mv (.tmp 0))⟩,
    ⟨some 5, none, .op (.bin .shr (.tmp 4) (.const (.int .u64 1)))⟩,
    ⟨some 6, none, .op (.conv .i64 (.tmp 5))⟩,
    ⟨some 7, none, .op (.ld (some 6) (.tmp 1))⟩,
    ⟨some 8, none, .call 144 [.tmp 7]⟩,
    ⟨some 9, none, .op (.bin .gtr (.tmp 6) (.tmp 8))⟩,
    ⟨some 3, none, .op (.mv (.tmp 9))⟩]
def c145 : Fn' := ⟨(.seq c145_0 (.seq c145_1 .ret)), [.tmp 3]⟩
theorem comp145 : compFn Tryz.prog 145 = some c145 := by kernel_rfl

def c152_0 : C := .reg [⟨some 4, none, .op (.mv (.const (.int .i64 0)))⟩]
def c152_1 : C := .reg [⟨some 6, none, .op (.mv (.tmp 0))⟩,
    ⟨some 7, none, .op (.len (.tmp 6))⟩,
    ⟨some 8, none, .op (.mv (.const (.int .i64 0)))⟩]
def c152_2 : C := .reg [⟨some 9, none, .op (.bin .lss (.tmp 8) (.tmp 7))⟩]
def c152_3 : C := .reg [⟨some 10, none, .op (.mv (.tmp 8))⟩,
    ⟨some 5, none, .op (.mv (.tmp 10))⟩]
def c152_4 : C := .reg [⟨some 11, none, .op (.mv (.tmp 1))⟩,
    ⟨some 12, none, .op (.mv (.tmp 0))⟩,
    ⟨some 13, none, .op (.mv (.tmp 5))⟩,
    ⟨some 14, none, .op (.ia 1 (.tmp 12) (.tmp 13))⟩,
    ⟨some 15, none, .op (.ld none (.tmp 14))⟩,
    ⟨some 16, none, .callv (.tmp 11) [.tmp 15]⟩]
def c152_5 : C := .reg [⟨some 17, none, .op (.mv (.tmp 5))⟩,
    ⟨some 4, none, .op (.mv (.tmp 17))⟩]
def c152_6 : C := .reg [⟨some 18, none, .op (.bin .add (.tmp 8) (.const (.int .i64 1)))⟩,
    ⟨some 8, none, .op (.mv (.tmp 18))⟩]
def c152_7 : C := .reg [⟨some 4, none, .op (.mv (.const (.int .i64 (-1))))⟩]
def c152 : Fn' := ⟨(.seq c152_0 (.seq (.seq c152_1 (.block 0 (.loop (.seq c152_2 (.seq (.cond (.tmp 9) .skip (.exit 0)) (.seq (.block 1 (.seq c152_3 (.seq c152_4 (.cond (.tmp 16) (.seq c152_5 .ret) .skip)))) c152_6)))))) (.seq c152_7 .ret))), [.tmp 4]⟩
theorem comp152 : compFn Tryz.prog 152 = some c152 := by kernel_rfl

def c171_0 : C := .reg [⟨some 4, none, .op (.mv (.const (.int .i64 0)))⟩]
def c171_1 : C := .reg [⟨some 6, none, .op (.mv (.tmp 0))⟩,
    ⟨some 7, none, .op (.len (.tmp 6))⟩,
    ⟨some 8, none, .op (.mv (.const (.int .i64 0)))⟩]
def c171_2 : C := .reg [⟨some 9, none, .op (.bin .lss (.tmp 8) (.tmp 7))⟩]
def c171_3 : C := .reg [⟨some 10, none, .op (.mv (.tmp 8))⟩,
    ⟨some 5, none, .op (.mv (.tmp 10))⟩]
def c171_4 : C := .reg [⟨some 11, none, .op (.mv (.tmp 1))⟩,
    ⟨some 12, none, .op (.mv (.tmp 0))⟩,
    ⟨some 13, none, .op (.mv (.tmp 5))⟩,
    ⟨some 14, none, .op (.ia 1 (.tmp 12) (.tmp 13))⟩,
    ⟨some 15, none, .op (.ld none (.tmp 14))⟩,
    ⟨some 16, none, .callv (.tmp 11) [.tmp 15]⟩]
def c171_5 : C := .reg [⟨some 17, none, .op (.mv (.tmp 5))⟩,
    ⟨some 4, none, .op (.mv (.tmp 17))⟩]
def c171_6 : C := .reg [⟨some 18, none, .op (.bin .add (.tmp 8) (.const (.int .i64 1)))⟩,
    ⟨some 8, none, .op (.mv (.tmp 18))⟩]
def c171_7 : C := .reg [⟨some 4, none, .op (.mv (.const (.int .i64 (-1))))⟩]
def c171 : Fn' := ⟨(.seq c171_0 (.seq (.seq c171_1 (.block 0 (.loop (.seq c171_2 (.seq (.cond (.tmp 9) .skip (.exit 0)) (.seq (.block 1 (.seq c171_3 (.seq c171_4 (.cond (.tmp 16) (.seq c171_5 .ret) .skip)))) c171_6)))))) (.seq c171_7 .ret))), [.tmp 4]⟩
theorem comp171 : compFn Tryz.prog 171 = some c171 := by kernel_rfl

def c172_0 : C := .reg [⟨some 3, none, .op (.box (.tmp 0))⟩,
    ⟨some 5, none, .op (.box (.tmp 2))⟩,
    ⟨some 6, none, .op (.mv (.const (.slice none 0 0)))⟩,
    ⟨some 7, none, .op (.mv (.const (.int .i64 0)))⟩]
def c172_1 : C := .reg [⟨some 12, none, .op (.ld (some 6) (.tmp 3))⟩,
    ⟨some 13, none, .call 202 [.tmp 12]⟩,
    ⟨some 8, none, .op (.new [(.int .i64 0), (.slice none 0 0), (.slice none 0 0), (.slice none 0 0), (.slice none 0 0), (.slice none 0 0), (.int .i64 0)])⟩,
    ⟨none, none, .op (.st 7 (.tmp 8) (.tmp 13))⟩]
def c172_2 : C := .reg [⟨some 14, none, .op (.ld (some 7) (.tmp 8))⟩,
    ⟨some 15, none, .op (.mv (.tmp 1))⟩,
    ⟨some 16, none, .call 203 [.tmp 14, .tmp 15]⟩,
    ⟨some 9, none, .op (.mv (.tmp 16))⟩]
def c172_3 : C := .reg [⟨some 17, none, .op (.mv (.tmp 9))⟩,
    ⟨some 18, none, .op (.bin .neq (.tmp 17) (.const (.int .i64 0)))⟩]
def c172_4 : C := .reg [⟨some 19, none, .op (.mv (.tmp 9))⟩,
    ⟨some 6, none, .op (.mv (.const (.slice none 0 0)))⟩,
    ⟨some 7, none, .op (.mv (.tmp 19))⟩]
def c172_5 : C := .reg [⟨some 20, none, .op (.mkSl (reps 1 [(.int .i64 0)]) 1 [(0, 1, .const (.int .i64 1))])⟩,
    ⟨some 21, none, .op (.mkSl (reps 1 [(.slice none 0 0)]) 1 [(0, 1, .tmp 20)])⟩,
    ⟨some 10, none, .op (.new [(.slice none 0 0)])⟩,
    ⟨none, none, .op (.st 1 (.tmp 10) (.tmp 21))⟩]
def c172_6 : C := .reg [⟨some 22, none, .op (.mv (.tmp 1))⟩,
    ⟨some 23, none, .op (.mv (.const (.int .i64 0)))⟩]
def c172_7 : C := .reg [⟨some 24, none, .op (.bin .lss (.tmp 23) (.tmp 22))⟩]
def c172_8 : C := .reg [⟨some 25, none, .op (.mv (.tmp 23))⟩,
    ⟨some 11, none, .op (.mv (.tmp 25))⟩]
def c172_9 : C := .reg [⟨some 26, none, .op (.ld (some 7) (.tmp 8))⟩,
    ⟨some 27, none, .op (.mv (.tmp 11))⟩,
    ⟨some 28, none, .op (.fn 205 [] [.tmp 10])⟩,
    ⟨some 29, none, .call 204 [.tmp 26, .tmp 27, .tmp 28]⟩]
def c172_10 : C := .reg [⟨some 30, none, .op (.ld (some 7) (.tmp 8))⟩,
    ⟨some 31, none, .op (.mv (.tmp 11))⟩,
    ⟨some 32, none, .op (.fn 207 [] [.tmp 10, .tmp 5])⟩,
    ⟨some 33, none, .call 206 [.tmp 30, .tmp 31, .tmp 32]⟩]
def c172_11 : C := .reg [⟨some 34, none, .op (.bin .add (.tmp 23) (.const (.int .i64 1)))⟩,
    ⟨some 23, none, .op (.mv (.tmp 34))⟩]
def c172_12 : C := .reg [⟨some 35, none, .op (.ld none (.tmp 10))⟩,
    ⟨some 6, none, .op (.mv (.tmp 35))⟩,
    ⟨some 7, none, .op (.mv (.const (.int .i64 0)))⟩]
def c172 : Fn' := ⟨(.seq c172_0 (.seq c172_1 (.seq (.seq c172_2 (.seq c172_3 (.cond (.tmp 18) (.seq c172_4 .ret) .skip))) (.seq c172_5 (.seq (.seq c172_6 (.block 0 (.loop (.seq c172_7 (.seq (.cond (.tmp 24) .skip (.exit 0)) (.seq (.block 1 (.seq c172_8 (.seq c172_9 c172_10))) c172_11)))))) (.seq c172_12 .ret)))))), [.tmp 6, .tmp 7]⟩
theorem comp172 : compFn Tryz.prog 172 = some c172 := by kernel_rfl

def c173_0 : C := .reg [⟨some 2, none, .op (.mv (.const (.slice none 0 0)))⟩]
def c173_1 : C := .reg [⟨some 2, none, .op (.mv (.const (.slice none 0 0)))⟩]
def c173 : Fn' := ⟨(.seq c173_0 (.seq c173_1 .ret)), [.tmp 2]⟩
theorem comp173 : compFn Tryz.prog 173 = some c173 := by kernel_rfl

def c174_0 : C := .reg [⟨some 2, none, .op (.box (.tmp 0))⟩,
    ⟨some 4, none, .op (.mv (.const (.bool false)))⟩]
def c174_1 : C := .reg [⟨some 5, none, .op (.ld (some 6) (.tmp 2))⟩,
    ⟨some 6, none, .call 97 [.tmp 5]⟩,
    ⟨some 7, none, .op (.mv (.tmp 6))⟩,
    ⟨some 8, (some (7, true)), .op (.mv (.tmp 1))⟩,
    ⟨some 9, (some (7, true)), .op (.bin .gtr (.tmp 8) (.const (.int .i64 0)))⟩,
    ⟨some 10, none, .op (.pick (.tmp 7) (.tmp 9) (.const (.bool false)))⟩,
    ⟨some 11, none, .op (.mv (.tmp 10))⟩,
    ⟨some 12, (some (11, true)), .op (.mv (.tmp 1))⟩,
    ⟨some 13, (some (11, true)), .op (.bin .leq (.tmp 12) (.const (.int .i64 256)))⟩,
    ⟨some 14, none, .op (.pick (.tmp 11) (.tmp 13) (.const (.bool false)))⟩,
    ⟨some 4, none, .op (.mv (.tmp 14))⟩]
def c174 : Fn' := ⟨(.seq c174_0 (.seq c174_1 .ret)), [.tmp 4]⟩
theorem comp174 : compFn Tryz.prog 174 = some c174 := by kernel_rfl

def c175_0 : C := .reg [⟨some 1, none, .op (.box (.tmp 0))⟩,
    ⟨some 2, none, .op (.mv (.const (.int .i64 0)))⟩]
def c175_1 : C := .reg [⟨some 3, none, .op (.ld (some 6) (.tmp 1))⟩,
    ⟨some 4, none, .call 97 [.tmp 3]⟩,
    ⟨some 5, none, .op (.un .not (.tmp 4))⟩]
def c175_2 : C := .reg [⟨some 2, none, .op (.mv (.const (.int .i64 0)))⟩]
def c175_3 : C := .reg [⟨some 6, none, .op (.ld (some 6) (.tmp 1))⟩,
    ⟨some 7, none, .call 144 [.tmp 6]⟩,
    ⟨some 2, none, .op (.mv (.tmp 7))⟩]
def c175 : Fn' := ⟨(.seq c175_0 (.seq (.seq c175_1 (.cond (.tmp 5) (.seq c175_2 .ret) .skip)) (.seq c175_3 .ret))), [.tmp 2]⟩
theorem comp175 : compFn Tryz.prog 175 = some c175 := by kernel_rfl

def c176_0 : C := .reg [⟨some 3, none, .op (.box (.tmp 0))⟩,
    ⟨some 6, none, .op (.mv (.const (.int .i64 0)))⟩,
    ⟨some 7, none, .op (.mv (.const (.int .i64 0)))⟩]
def c176_1 : C := .reg [⟨some 9, none, .op (.ld (some 6) (.tmp 3))⟩,
    ⟨some 10, none, .call 202 [.tmp 9]⟩,
    ⟨some 8, none, .op (.new [(.int .i64 0), (.slice none 0 0), (.slice none 0 0), (.slice none 0 0), (.slice none 0 0), (.slice none 0 0), (.int .i64 0)])⟩,
    ⟨none, none, .op (.st 7 (.tmp 8) (.tmp 10))⟩]
def c176_2 : C := .reg [⟨some 11, none, .op (.ld (some 6) (.tmp 3))⟩,
    ⟨some 12, none, .call 97 [.tmp 11]⟩,
    ⟨some 13, none, .op (.un .not (.tmp 12))⟩,
    ⟨some 14, none, .op (.mv (.tmp 13))⟩,
    ⟨some 15, (some (14, false)), .op (.mv (.tmp 2))⟩,
    ⟨some 16, (some (14, false)), .op (.bin .lss (.tmp 15) (.const (.int .i64 0)))⟩,
    ⟨some 17, none, .op (.pick (.tmp 14) (.const (.bool true)) (.tmp 16))⟩,
    ⟨some 18, none, .op (.mv (.tmp 17))⟩,
    ⟨some 19, (some (18, false)), .op (.mv (.tmp 2))⟩,
    ⟨some 20, (some (18, false)), .op (.bin .geq (.tmp 19) (.const (.int .i64 256)))⟩,
    ⟨some 21, none, .op (.pick (.tmp 18) (.const (.bool true)) (.tmp 20))⟩,
    ⟨some 22, none, .op (.mv (.tmp 21))⟩,
    ⟨some 23, (some (22, false)), .op (.mv (.tmp 1))⟩,
    ⟨some 24, (some (22, false)), .op (.bin .shr (.tmp 23) (.const (.int .u64 1)))⟩,
    ⟨some 25, (some (22, false)), .op (.conv .i64 (.tmp 24))⟩,
    ⟨some 26, (some (22, false)), .op (.fa 6 (.tmp 8))⟩,
    ⟨some 27, (some (22, false)), .op (.ld none (.tmp 26))⟩,
    ⟨some 28, (some (22, false)), .op (.bin .gtr (.tmp 25) (.tmp 27))⟩,
    ⟨some 29, none, .op (.pick (.tmp 22) (.const (.bool true)) (.tmp 28))⟩]
def c176_3 : C := .reg [⟨some 6, none, .op (.mv (.const (.int .i64 0)))⟩,
    ⟨some 7, none, .op (.mv (.const (.int .i64 2)))⟩]
def c176_4 : C := .reg [⟨some 30, none, .op (.ld (some 7) (.tmp 8))⟩,
    ⟨some 31, none, .op (.mv (.tmp 1))⟩,
    ⟨some 32, none, .op (.mv (.tmp 2))⟩,
    ⟨some 33, none, .call 208 [.tmp 30, .tmp 31, .tmp 32]⟩,
    ⟨some 6, none, .op (.mv (.tmp 33))⟩,
    ⟨some 7, none, .op (.mv (.const (.int .i64 0)))⟩]
def c176 : Fn' := ⟨(.seq c176_0 (.seq c176_1 (.seq (.seq c176_2 (.cond (.tmp 29) (.seq c176_3 .ret) .skip)) (.seq c176_4 .ret)))), [.tmp 6, .tmp 7]⟩
theorem comp176 : compFn Tryz.prog 176 = some c176 := by kernel_rfl

def c177_0 : C := .reg [⟨some 4, none, .op (.mv (.const (.bool false)))⟩]
def c177_1 : C := .reg [⟨some 5, none, .op (.mv (.tmp 0))⟩,
    ⟨some 6, none, .op (.fn 178 [] [.tmp 1, .tmp 2])⟩,
    ⟨some 7, none, .call 132 [.tmp 5, .tmp 6]⟩,
    ⟨some 8, none, .op (.un .not (.tmp 7))⟩,
    ⟨some 4, none, .op (.mv (.tmp 8))⟩]
def c177 : Fn' := ⟨(.seq c177_0 (.seq c177_1 .ret)), [.tmp 4]⟩
theorem comp177 : compFn Tryz.prog 177 = some c177 := by kernel_rfl

def c178_0 : C := .reg [⟨some 4, none, .op (.mv (.const (.bool false)))⟩]
def c178_1 : C := .reg [⟨some 5, none, .op (.ld (some 6) (.tmp 1))⟩,
    ⟨some 6, none, .op (.ld none (.tmp 2))⟩,
    ⟨some 7, none, .op (.mv (.tmp 0))⟩,
    ⟨some 8, none, .call 179 [.tmp 5, .tmp 6, .tmp 7]⟩,
    ⟨some 9, none, .op (.bin .eql (.tmp 8) (.const (.int .u8 1)))⟩,
    ⟨some 4, none, .op (.mv (.tmp 9))⟩]
def c178 : Fn' := ⟨(.seq c178_0 (.seq c178_1 .ret)), [.tmp 4]⟩
theorem comp178 : compFn Tryz.prog 178 = some c178 := by kernel_rfl

def c179_0 : C := .reg [⟨some 3, none, .op (.box (.tmp 0))⟩,
    ⟨some 6, none, .op (.mv (.const (.int .u8 0)))⟩]
def c179_1 : C := .reg [⟨some 7, none, .op (.mv (.tmp 1))⟩,
    ⟨some 8, none, .op (.mv (.tmp 2))⟩,
    ⟨some 9, none, .op (.bin .shr (.tmp 8) (.const (.int .u64 1)))⟩,
    ⟨some 10, none, .op (.conv .i64 (.tmp 9))⟩,
    ⟨some 11, none, .op (.bin .sub (.tmp 10) (.const (.int .i64 1)))⟩,
    ⟨some 12, none, .op (.fa 0 (.tmp 3))⟩,
    ⟨some 13, none, .op (.ld none (.tmp 12))⟩,
    ⟨some 14, none, .op (.bin .sub (.tmp 11) (.tmp 13))⟩,
    ⟨some 15, none, .op (.ia 1 (.tmp 7) (.tmp 14))⟩,
    ⟨some 16, none, .op (.ld none (.tmp 15))⟩,
    ⟨some 17, none, .op (.mv (.tmp 2))⟩,
    ⟨some 18, none, .op (.bin .and (.tmp 17) (.const (.int .u32 1)))⟩,
    ⟨some 19, none, .op (.conv .u8 (.tmp 18))⟩,
    ⟨some 20, none, .op (.bin .xor (.tmp 16) (.tmp 19))⟩,
    ⟨some 6, none, .op (.mv (.tmp 20))⟩]
def c179 : Fn' := ⟨(.seq c179_0 (.seq c179_1 .ret)), [.tmp 6]⟩
theorem comp179 : compFn Tryz.prog 179 = some c179 := by kernel_rfl

def c180_0 : C := .reg [⟨some 4, none, .op (.box (.tmp 0))⟩,
    ⟨some 7, none, .op (.box (.tmp 3))⟩,
    ⟨some 8, none, .op (.new [(.int .i64 0), (.slice none 0 0), (.slice none 0 0)])⟩,
    ⟨some 9, none, .op (.mv (.const (.int .i64 0)))⟩]
def c180_1 : C := .reg [⟨some 20, none, .op (.ld (some 6) (.tmp 4))⟩,
    ⟨some 21, none, .op (.mv (.tmp 2))⟩,
    ⟨some 22, none, .call 137 [.tmp 20, .tmp 21]⟩,
    ⟨some 19, none, .op (.mv (.tmp 22))⟩,
    ⟨some 23, none, .op (.ext (.tmp 19) 0)⟩,
    ⟨some 24, none, .op (.ext (.tmp 19) 1)⟩,
    ⟨some 10, none, .op (.mv (.tmp 23))⟩,
    ⟨some 9, none, .op (.mv (.tmp 24))⟩]
def c180_2 : C := .reg [⟨some 25, none, .op (.mv (.tmp 9))⟩,
    ⟨some 26, none, .op (.bin .neq (.tmp 25) (.const (.int .i64 0)))⟩,
    ⟨some 27, none, .op (.mv (.tmp 26))⟩,
    ⟨some 28, (some (27, false)), .op (.mv (.tmp 1))⟩,
    ⟨some 29, (some (27, false)), .op (.bin .lss (.tmp 28) (.const (.int .i64 0)))⟩,
    ⟨some 30, none, .op (.pick (.tmp 27) (.const (.bool true)) (.tmp 29))⟩,
    ⟨some 31, none, .op (.mv (.tmp 30))⟩,
    ⟨some 32, (some (31, false)), .op (.mv (.tmp 1))⟩,
    ⟨some 33, (some (31, false)), .op (.fa 4 (.tmp 4))⟩,
    ⟨some 34, (some (31, false)), .op (.ld none (.tmp 33))⟩,
    ⟨some 35, (some (31, false)), .op (.len (.tmp 34))⟩,
    ⟨some 36, (some (31, false)), .op (.bin .geq (.tmp 32) (.tmp 35))⟩,
    ⟨some 37, none, .op (.pick (.tmp 31) (.const (.bool true)) (.tmp 36))⟩,
    ⟨some 38, none, .op (.mv (.tmp 37))⟩,
    ⟨some 39, (some (38, false)), .op (.ld none (.tmp 7))⟩,
    ⟨some 40, (some (38, false)), .op (.len (.tmp 39))⟩,
    ⟨some 41, (some (38, false)), .op (.mv (.tmp 10))⟩,
    ⟨some 42, (some (38, false)), .op (.bin .leq (.tmp 40) (.tmp 41))⟩,
    ⟨some 43, none, .op (.pick (.tmp 38) (.const (.bool true)) (.tmp 42))⟩]
def c180_3 : C := .reg [⟨some 44, none, .op (.ld (some 3) (.tmp 8))⟩,
    ⟨none, none, .op (.st 3 (.tmp 8) (.tmp 44))⟩,
    ⟨some 9, none, .op (.mv (.const (.int .i64 2)))⟩]
def c180_4 : C := .reg [⟨some 45, none, .op (.ld (some 6) (.tmp 4))⟩,
    ⟨some 46, none, .call 202 [.tmp 45]⟩,
    ⟨some 11, none, .op (.new [(.int .i64 0), (.slice none 0 0), (.slice none 0 0), (.slice none 0 0), (.slice none 0 0), (.slice none 0 0), (.int .i64 0)])⟩,
    ⟨none, none, .op (.st 7 (.tmp 11) (.tmp 46))⟩]
def c180_5 : C := .reg [⟨some 47, none, .op (.fn 209 [] [.tmp 7, .tmp 11])⟩,
    ⟨some 12, none, .op (.mv (.tmp 47))⟩]
def c180_6 : C := .reg [⟨some 48, none, .op (.mv (.tmp 1))⟩,
    ⟨some 49, none, .op (.fa 0 (.tmp 8))⟩,
    ⟨none, none, .op (.st 1 (.tmp 49) (.tmp 48))⟩]
def c180_7 : C := .reg [⟨some 50, none, .op (.fa 1 (.tmp 4))⟩,
    ⟨some 51, none, .op (.ld none (.tmp 50))⟩,
    ⟨some 52, none, .op (.len (.tmp 51))⟩,
    ⟨some 53, none, .op (.mv (.const (.int .i64 0)))⟩]
def c180_8 : C := .reg [⟨some 54, none, .op (.bin .lss (.tmp 53) (.tmp 52))⟩]
def c180_9 : C := .reg [⟨some 55, none, .op (.mv (.tmp 53))⟩,
    ⟨some 56, none, .op (.ia 2 (.tmp 51) (.tmp 53))⟩,
    ⟨some 57, none, .op (.ld (some 2) (.tmp 56))⟩,
    ⟨some 14, none, .op (.new [(.int .u32 0), (.int .u8 0)])⟩,
    ⟨some 13, none, .op (.mv (.tmp 55))⟩,
    ⟨none, none, .op (.st 2 (.tmp 14) (.tmp 57))⟩]
def c180_10 : C := .reg [⟨some 58, none, .op (.fa 1 (.tmp 14))⟩,
    ⟨some 59, none, .op (.ld none (.tmp 58))⟩,
    ⟨some 15, none, .op (.mv (.tmp 59))⟩]
def c180_11 : C := .reg [⟨some 60, none, .op (.mv (.tmp 15))⟩,
    ⟨some 61, none, .op (.bin .eql (.tmp 60) (.const (.int .u8 2)))⟩]
def c180_12 : C := .reg [⟨some 62, none, .op (.mv (.tmp 12))⟩,
    ⟨some 63, none, .op (.ld (some 7) (.tmp 11))⟩,
    ⟨some 64, none, .op (.mv (.tmp 13))⟩,
    ⟨some 65, none, .call 210 [.tmp 63, .tmp 64]⟩,
    ⟨some 66, none, .callv (.tmp 62) [.tmp 65, .const (.int .i64 0)]⟩,
    ⟨some 15, none, .op (.mv (.tmp 66))⟩]
def c180_13 : C := .reg [⟨some 67, none, .op (.fa 1 (.tmp 8))⟩,
    ⟨some 68, none, .op (.ld none (.tmp 67))⟩,
    ⟨some 69, none, .op (.mv (.tmp 15))⟩,
    ⟨some 70, none, .op (.mkSl (reps 1 [(.int .u8 0)]) 1 [(0, 1, .tmp 69)])⟩,
    ⟨some 71, none, .op (.app 1 1 (.tmp 68) (.tmp 70))⟩,
    ⟨some 72, none, .op (.fa 1 (.tmp 8))⟩,
    ⟨none, none, .op (.st 1 (.tmp 72) (.tmp 71))⟩]
def c180_14 : C := .reg [⟨some 73, none, .op (.bin .add (.tmp 53) (.const (.int .i64 1)))⟩,
    ⟨some 53, none, .op (.mv (.tmp 73))⟩]
def c180_15 : C := .reg [⟨some 74, none, .op (.mv (.tmp 2))⟩,
    ⟨some 75, none, .op (.mv (.const (.int .i64 0)))⟩]
def c180_16 : C := .reg [⟨some 76, none, .op (.bin .lss (.tmp 75) (.tmp 74))⟩]
def c180_17 : C := .reg [⟨some 77, none, .op (.mv (.tmp 75))⟩,
    ⟨some 16, none, .op (.mv (.tmp 77))⟩]
def c180_18 : C := .reg [⟨some 17, none, .op (.mv (.const (.slice none 0 0)))⟩]
def c180_19 : C := .reg [⟨some 78, none, .op (.fa 0 (.tmp 4))⟩,
    ⟨some 79, none, .op (.ld none (.tmp 78))⟩,
    ⟨some 80, none, .op (.mv (.const (.int .i64 0)))⟩]
def c180_20 : C := .reg [⟨some 81, none, .op (.bin .lss (.tmp 80) (.tmp 79))⟩]
def c180_21 : C := .reg [⟨some 82, none, .op (.mv (.tmp 80))⟩,
    ⟨some 18, none, .op (.mv (.tmp 82))⟩]
def c180_22 : C := .reg [⟨some 83, none, .op (.mv (.tmp 17))⟩,
    ⟨some 84, none, .op (.mv (.tmp 12))⟩,
    ⟨some 85, none, .op (.mv (.tmp 18))⟩,
    ⟨some 86, none, .op (.bin .add (.const (.int .i64 1)) (.tmp 85))⟩,
    ⟨some 87, none, .op (.conv .u32 (.tmp 86))⟩,
    ⟨some 88, none, .op (.bin .shl (.tmp 87) (.const (.int .u64 1)))⟩,
    ⟨some 89, none, .op (.mv (.tmp 16))⟩,
    ⟨some 90, none, .callv (.tmp 84) [.tmp 88, .tmp 89]⟩,
    ⟨some 91, none, .op (.mkSl (reps 1 [(.int .u8 0)]) 1 [(0, 1, .tmp 90)])⟩,
    ⟨some 92, none, .op (.app 1 1 (.tmp 83) (.tmp 91))⟩,
    ⟨some 17, none, .op (.mv (.tmp 92))⟩]
def c180_23 : C := .reg [⟨some 93, none, .op (.bin .add (.tmp 80) (.const (.int .i64 1)))⟩,
    ⟨some 80, none, .op (.mv (.tmp 93))⟩]
def c180_24 : C := .reg [⟨some 94, none, .op (.fa 2 (.tmp 8))⟩,
    ⟨some 95, none, .op (.ld none (.tmp 94))⟩,
    ⟨some 96, none, .op (.mv (.tmp 17))⟩,
    ⟨some 97, none, .op (.mkSl (reps 1 [(.slice none 0 0)]) 1 [(0, 1, .tmp 96)])⟩,
    ⟨some 98, none, .op (.app 1 24 (.tmp 95) (.tmp 97))⟩,
    ⟨some 99, none, .op (.fa 2 (.tmp 8))⟩,
    ⟨none, none, .op (.st 1 (.tmp 99) (.tmp 98))⟩]
def c180_25 : C := .reg [⟨some 100, none, .op (.bin .add (.tmp 75) (.const (.int .i64 1)))⟩,
    ⟨some 75, none, .op (.mv (.tmp 100))⟩]
def c180_26 : C := .reg [⟨some 101, none, .op (.ld (some 3) (.tmp 8))⟩,
    ⟨none, none, .op (.st 3 (.tmp 8) (.tmp 101))⟩,
    ⟨some 9, none, .op (.mv (.const (.int .i64 0)))⟩]
def c180 : Fn' := ⟨(.seq c180_0 (.seq c180_1 (.seq (.seq c180_2 (.cond (.tmp 43) (.seq c180_3 .ret) .skip)) (.seq c180_4 (.seq c180_5 (.seq c180_6 (.seq (.seq c180_7 (.block 0 (.loop (.seq c180_8 (.seq (.cond (.tmp 54) .skip (.exit 0)) (.seq (.block 1 (.seq c180_9 (.seq c180_10 (.seq (.seq c180_11 (.cond (.tmp 61) c180_12 .skip)) c180_13)))) c180_14)))))) (.seq (.seq c180_15 (.block 2 (.loop (.seq c180_16 (.seq (.cond (.tmp 76) .skip (.exit 2)) (.seq (.block 3 (.seq c180_17 (.seq c180_18 (.seq (.seq c180_19 (.block 4 (.loop (.seq c180_20 (.seq (.cond (.tmp 81) .skip (.exit 4)) (.seq (.block 5 (.seq c180_21 c180_22)) c180_23)))))) c180_24)))) c180_25)))))) (.seq c180_26 .ret))))))))), [.cell 8 (some 3), .tmp 9]⟩
theorem comp180 : compFn Tryz.prog 180 = some c180 := by kernel_rfl

def c202_0 : C := .reg [⟨some 1, none, .op (.box (.tmp 0))⟩,
    ⟨some 2, none, .op (.new [(.int .i64 0), (.slice none 0 0), (.slice none 0 0), (.slice none 0 0), (.slice none 0 0), (.slice none 0 0), (.int .i64 0)])⟩]
def c202_1 : C := .regD 0 [⟨0, ⟨some 3, none, .op (.ld (some 6) (.tmp 1))⟩, none, []⟩,
    ⟨1, ⟨some 4, none, .op (.ld (some 6) (.tmp 1))⟩, none, []⟩,
    ⟨2, ⟨some 5, none, .call 175 [.tmp 4]⟩, none, [(some 6, .tmp 1, 3, none)]⟩,
    ⟨3, ⟨some 6, none, .op (.mk [(.int .i64 0), (.slice none 0 0), (.slice none 0 0), (.slice none 0 0), (.slice none 0 0), (.slice none 0 0), (.int .i64 0)] [(0, 6, .tmp 3), (6, 1, .tmp 5)])⟩, none, []⟩,
    ⟨4, ⟨none, none, .op (.st 7 (.tmp 2) (.tmp 6))⟩, none, []⟩]
def c202 : Fn' := ⟨(.seq c202_0 (.seq c202_1 .ret)), [.cell 2 (some 7)]⟩
theorem comp202 : compFn Tryz.prog 202 = some c202 := by kernel_rfl

def c203_0 : C := .reg [⟨some 2, none, .op (.box (.tmp 0))⟩,
    ⟨some 4, none, .op (.mv (.const (.int .i64 0)))⟩]
def c203_1 : C := .reg [⟨some 6, none, .op (.fa 0 (.tmp 2))⟩,
    ⟨some 7, none, .op (.ld (some 6) (.tmp 6))⟩,
    ⟨some 8, none, .op (.mv (.tmp 1))⟩,
    ⟨some 9, none, .call 174 [.tmp 7, .tmp 8]⟩,
    ⟨some 10, none, .op (.un .not (.tmp 9))⟩]
def c203_2 : C := .reg [⟨some 4, none, .op (.mv (.const (.int .i64 2)))⟩]
def c203_3 : C := .reg [⟨some 11, none, .op (.mv (.tmp 1))⟩,
    ⟨some 12, none, .op (.bin .mul (.const (.int .i64 3)) (.tmp 11))⟩,
    ⟨some 13, none, .op (.fa 0 (.tmp 2))⟩,
    ⟨some 14, none, .op (.fa 2 (.tmp 13))⟩,
    ⟨some 15, none, .op (.ld none (.tmp 14))⟩,
    ⟨some 16, none, .op (.len (.tmp 15))⟩,
    ⟨some 17, none, .op (.bin .mul (.tmp 12) (.tmp 16))⟩,
    ⟨some 18, none, .op (.bin .add (.const (.int .i64 1)) (.tmp 17))⟩,
    ⟨some 19, none, .op (.mv (.tmp 1))⟩,
    ⟨some 20, none, .op (.bin .sub (.tmp 19) (.const (.int .i64 1)))⟩,
    ⟨some 21, none, .op (.bin .mul (.const (.int .i64 2)) (.tmp 20))⟩,
    ⟨some 22, none, .op (.fa 0 (.tmp 2))⟩,
    ⟨some 23, none, .op (.fa 1 (.tmp 22))⟩,
    ⟨some 24, none, .op (.ld none (.tmp 23))⟩,
    ⟨some 25, none, .op (.len (.tmp 24))⟩,
    ⟨some 26, none, .op (.bin .mul (.tmp 21) (.tmp 25))⟩,
    ⟨some 27, none, .op (.bin .add (.tmp 18) (.tmp 26))⟩,
    ⟨some 5, none, .op (.new [(.int .i64 0)])⟩,
    ⟨none, none, .op (.st 1 (.tmp 5) (.tmp 27))⟩]
def c203_4 : C := .reg [⟨some 28, none, .op (.ld (some 7) (.tmp 2))⟩,
    ⟨some 29, none, .op (.fn 244 [] [.tmp 5])⟩,
    ⟨some 30, none, .call 204 [.tmp 28, .const (.int .i64 0), .tmp 29]⟩]
def c203_5 : C := .reg [⟨some 31, none, .op (.ld none (.tmp 5))⟩,
    ⟨some 32, none, .op (.bin .gtr (.tmp 31) (.const (.int .i64 1048576)))⟩]
def c203_6 : C := .reg [⟨some 4, none, .op (.mv (.const (.int .i64 3)))⟩]
def c203_7 : C := .reg [⟨some 4, none, .op (.mv (.const (.int .i64 0)))⟩]
def c203 : Fn' := ⟨(.seq c203_0 (.seq (.seq c203_1 (.cond (.tmp 10) (.seq c203_2 .ret) .skip)) (.seq c203_3 (.seq c203_4 (.seq (.seq c203_5 (.cond (.tmp 32) (.seq c203_6 .ret) .skip)) (.seq c203_7 .ret)))))), [.tmp 4]⟩
theorem comp203 : compFn Tryz.prog 203 = some c203 := by kernel_rfl

def c204_0 : C := .reg [⟨some 3, none, .op (.box (.tmp 0))⟩]
def c204_1 : C := .reg [⟨some 10, none, .op (.fa 0 (.tmp 3))⟩,
    ⟨some 11, none, .op (.fa 1 (.tmp 10))⟩,
    ⟨some 12, none, .op (.ld none (.tmp 11))⟩,
    ⟨some 13, none, .op (.len (.tmp 12))⟩,
    ⟨some 14, none, .op (.mv (.const (.int .i64 0)))⟩]
def c204_2 : C := .reg [⟨some 15, none, .op (.bin .lss (.tmp 14) (.tmp 13))⟩]
def c204_3 : C := .reg [⟨some 16, none, .op (.mv (.tmp 14))⟩,
    ⟨some 17, none, .op (.ia 2 (.tmp 12) (.tmp 14))⟩,
    ⟨some 18, none, .op (.ld (some 2) (.tmp 17))⟩,
    ⟨some 7, none, .op (.new [(.int .u32 0), (.int .u8 0)])⟩,
    ⟨some 6, none, .op (.mv (.tmp 16))⟩,
    ⟨none, none, .op (.st 2 (.tmp 7) (.tmp 18))⟩]
def c204_4 : C := .regD 0 [⟨0, ⟨some 19, none, .op (.ld (some 7) (.tmp 3))⟩, none, []⟩,
    ⟨1, ⟨some 20, none, .op (.ld (some 7) (.tmp 3))⟩, none, []⟩,
    ⟨2, ⟨some 21, none, .op (.mv (.tmp 6))⟩, none, []⟩,
    ⟨4, ⟨some 23, none, .op (.mv (.tmp 1))⟩, none, []⟩,
    ⟨3, ⟨some 22, none, .call 210 [.tmp 20, .tmp 21]⟩, none, [(some 7, .tmp 3, 19, none)]⟩,
    ⟨5, ⟨some 24, none, .call 208 [.tmp 19, .tmp 22, .tmp 23]⟩, none, []⟩,
    ⟨6, ⟨some 8, none, .op (.mv (.tmp 24))⟩, none, []⟩]
def c204_5 : C := .reg [⟨some 26, none, .op (.mv (.tmp 1))⟩,
    ⟨some 27, none, .op (.bin .gtr (.tmp 26) (.const (.int .i64 0)))⟩,
    ⟨some 25, none, .op (.mv (.tmp 27))⟩]
def c204_6 : C := .reg [⟨some 28, none, .op (.ld (some 7) (.tmp 3))⟩,
    ⟨some 29, none, .op (.fa 0 (.tmp 7))⟩,
    ⟨some 30, none, .op (.ld none (.tmp 29))⟩,
    ⟨some 31, none, .op (.mv (.tmp 1))⟩,
    ⟨some 32, none, .op (.bin .sub (.tmp 31) (.const (.int .i64 1)))⟩,
    ⟨some 33, none, .call 208 [.tmp 28, .tmp 30, .tmp 32]⟩,
    ⟨some 9, none, .op (.mv (.tmp 33))⟩]
def c204_7 : C := .reg [⟨some 34, none, .op (.mv (.tmp 2))⟩,
    ⟨some 35, none, .op (.mv (.tmp 8))⟩,
    ⟨some 36, none, .op (.un .neg (.tmp 35))⟩,
    ⟨some 37, none, .op (.mv (.tmp 9))⟩,
    ⟨some 38, none, .op (.mkSl (reps 2 [(.int .i64 0)]) 2 [(0, 1, .tmp 36), (1, 1, .tmp 37)])⟩,
    ⟨some 39, none, .callv (.tmp 34) [.tmp 38]⟩]
def c204_8 : C := .reg [⟨some 40, none, .op (.mv (.tmp 2))⟩,
    ⟨some 41, none, .op (.mv (.tmp 8))⟩,
    ⟨some 42, none, .op (.mv (.tmp 9))⟩,
    ⟨some 43, none, .op (.un .neg (.tmp 42))⟩,
    ⟨some 44, none, .op (.mkSl (reps 2 [(.int .i64 0)]) 2 [(0, 1, .tmp 41), (1, 1, .tmp 43)])⟩,
    ⟨some 45, none, .callv (.tmp 40) [.tmp 44]⟩]
def c204_9 : C := .reg [⟨some 47, none, .op (.fa 1 (.tmp 7))⟩,
    ⟨some 48, none, .op (.ld none (.tmp 47))⟩,
    ⟨some 49, none, .op (.bin .eql (.tmp 48) (.const (.int .u8 0)))⟩,
    ⟨some 46, none, .op (.mv (.tmp 49))⟩]
def c204_10 : C := .reg [⟨some 50, none, .op (.mv (.tmp 2))⟩,
    ⟨some 51, none, .op (.mv (.tmp 8))⟩,
    ⟨some 52, none, .op (.un .neg (.tmp 51))⟩,
    ⟨some 53, none, .op (.mkSl (reps 1 [(.int .i64 0)]) 1 [(0, 1, .tmp 52)])⟩,
    ⟨some 54, none, .callv (.tmp 50) [.tmp 53]⟩]
def c204_11 : C := .reg [⟨some 56, none, .op (.fa 1 (.tmp 7))⟩,
    ⟨some 57, none, .op (.ld none (.tmp 56))⟩,
    ⟨some 58, none, .op (.bin .eql (.tmp 57) (.const (.int .u8 1)))⟩,
    ⟨some 55, none, .op (.mv (.tmp 58))⟩]
def c204_12 : C := .reg [⟨some 59, none, .op (.mv (.tmp 2))⟩,
    ⟨some 60, none, .op (.mv (.tmp 8))⟩,
    ⟨some 61, none, .op (.mkSl (reps 1 [(.int .i64 0)]) 1 [(0, 1, .tmp 60)])⟩,
    ⟨some 62, none, .callv (.tmp 59) [.tmp 61]⟩]
def c204_13 : C := .reg [⟨some 63, none, .op (.bin .add (.tmp 14) (.const (.int .i64 1)))⟩,
    ⟨some 14, none, .op (.mv (.tmp 63))⟩]
def c204 : Fn' := ⟨(.seq c204_0 (.seq c204_1 (.block 0 (.loop (.seq c204_2 (.seq (.cond (.tmp 15) .skip (.exit 0)) (.seq (.block 1 (.seq c204_3 (.seq c204_4 (.block 2 (.seq c204_5 (.cond (.tmp 25) (.seq c204_6 (.seq c204_7 c204_8)) (.seq c204_9 (.cond (.tmp 46) c204_10 (.seq c204_11 (.cond (.tmp 55) c204_12 .skip)))))))))) c204_13))))))), []⟩
theorem comp204 : compFn Tryz.prog 204 = some c204 := by kernel_rfl

def c205_0 : C := .reg [⟨some 3, none, .op (.ld none (.tmp 1))⟩,
    ⟨some 4, none, .op (.mv (.tmp 0))⟩,
    ⟨some 5, none, .op (.mkSl (reps 1 [(.slice none 0 0)]) 1 [(0, 1, .tmp 4)])⟩,
    ⟨some 6, none, .op (.app 1 24 (.tmp 3) (.tmp 5))⟩,
    ⟨none, none, .op (.st 1 (.tmp 1) (.tmp 6))⟩]
def c205 : Fn' := ⟨c205_0, []⟩
theorem comp205 : compFn Tryz.prog 205 = some c205 := by kernel_rfl

def c206_0 : C := .reg [⟨some 3, none, .op (.box (.tmp 0))⟩]
def c206_1 : C := .reg [⟨some 11, none, .op (.fa 0 (.tmp 3))⟩,
    ⟨some 12, none, .op (.fa 2 (.tmp 11))⟩,
    ⟨some 13, none, .op (.ld none (.tmp 12))⟩,
    ⟨some 14, none, .op (.len (.tmp 13))⟩,
    ⟨some 15, none, .op (.mv (.const (.int .i64 0)))⟩]
def c206_2 : C := .reg [⟨some 16, none, .op (.bin .lss (.tmp 15) (.tmp 14))⟩]
def c206_3 : C := .reg [⟨some 17, none, .op (.mv (.tmp 15))⟩,
    ⟨some 18, none, .op (.ia 2 (.tmp 13) (.tmp 15))⟩,
    ⟨some 19, none, .op (.ld (some 2) (.tmp 18))⟩,
    ⟨some 7, none, .op (.new [(.int .u32 0), (.int .u32 0)])⟩,
    ⟨some 6, none, .op (.mv (.tmp 17))⟩,
    ⟨none, none, .op (.st 2 (.tmp 7) (.tmp 19))⟩]
def c206_4 : C := .regD 0 [⟨0, ⟨some 20, none, .op (.ld (some 7) (.tmp 3))⟩, none, []⟩,
    ⟨1, ⟨some 21, none, .op (.ld (some 7) (.tmp 3))⟩, none, []⟩,
    ⟨2, ⟨some 22, none, .op (.mv (.tmp 6))⟩, none, []⟩,
    ⟨4, ⟨some 24, none, .op (.mv (.tmp 1))⟩, none, []⟩,
    ⟨6, ⟨some 26, none, .op (.ld (some 7) (.tmp 3))⟩, none, []⟩,
    ⟨7, ⟨some 27, none, .op (.fa 0 (.tmp 7))⟩, none, []⟩,
    ⟨8, ⟨some 28, none, .op (.ld none (.tmp 27))⟩, none, []⟩,
    ⟨9, ⟨some 29, none, .op (.mv (.tmp 1))⟩, none, []⟩,
    ⟨11, ⟨some 31, none, .op (.ld (some 7) (.tmp 3))⟩, none, []⟩,
    ⟨12, ⟨some 32, none, .op (.fa 1 (.tmp 7))⟩, none, []⟩,
    ⟨13, ⟨some 33, none, .op (.ld none (.tmp 32))⟩, none, []⟩,
    ⟨14, ⟨some 34, none, .op (.mv (.tmp 1))⟩, none, []⟩,
    ⟨3, ⟨some 23, none, .call 245 [.tmp 21, .tmp 22]⟩, none, [(none, .tmp 32, 33, none), (some 7, .tmp 3, 31, none), (none, .tmp 27, 28, none), (some 7, .tmp 3, 26, none), (some 7, .tmp 3, 20, none)]⟩,
    ⟨5, ⟨some 25, none, .call 208 [.tmp 20, .tmp 23, .tmp 24]⟩, none, [(none, .tmp 32, 33, none), (some 7, .tmp 3, 31, none), (none, .tmp 27, 28, none), (some 7, .tmp 3, 26, none)]⟩,
    ⟨10, ⟨some 30, none, .call 208 [.tmp 26, .tmp 28, .tmp 29]⟩, none, [(none, .tmp 32, 33, none), (some 7, .tmp 3, 31, none)]⟩,
    ⟨15, ⟨some 35, none, .call 208 [.tmp 31, .tmp 33, .tmp 34]⟩, none, []⟩,
    ⟨16, ⟨some 8, none, .op (.mv (.tmp 25))⟩, none, []⟩,
    ⟨17, ⟨some 9, none, .op (.mv (.tmp 30))⟩, none, []⟩,
    ⟨18, ⟨some 10, none, .op (.mv (.tmp 35))⟩, none, []⟩]
def c206_5 : C := .reg [⟨some 36, none, .op (.mv (.tmp 2))⟩,
    ⟨some 37, none, .op (.mv (.tmp 6))⟩,
    ⟨some 38, none, .op (.mv (.tmp 8))⟩,
    ⟨some 39, none, .op (.un .neg (.tmp 38))⟩,
    ⟨some 40, none, .op (.mv (.tmp 9))⟩,
    ⟨some 41, none, .op (.mkSl (reps 2 [(.int .i64 0)]) 2 [(0, 1, .tmp 39), (1, 1, .tmp 40)])⟩,
    ⟨some 42, none, .callv (.tmp 36) [.tmp 37, .tmp 41]⟩]
def c206_6 : C := .reg [⟨some 43, none, .op (.mv (.tmp 2))⟩,
    ⟨some 44, none, .op (.mv (.tmp 6))⟩,
    ⟨some 45, none, .op (.mv (.tmp 8))⟩,
    ⟨some 46, none, .op (.un .neg (.tmp 45))⟩,
    ⟨some 47, none, .op (.mv (.tmp 10))⟩,
    ⟨some 48, none, .op (.mkSl (reps 2 [(.int .i64 0)]) 2 [(0, 1, .tmp 46), (1, 1, .tmp 47)])⟩,
    ⟨some 49, none, .callv (.tmp 43) [.tmp 44, .tmp 48]⟩]
def c206_7 : C := .reg [⟨some 50, none, .op (.mv (.tmp 2))⟩,
    ⟨some 51, none, .op (.mv (.tmp 6))⟩,
    ⟨some 52, none, .op (.mv (.tmp 8))⟩,
    ⟨some 53, none, .op (.mv (.tmp 9))⟩,
    ⟨some 54, none, .op (.un .neg (.tmp 53))⟩,
    ⟨some 55, none, .op (.mv (.tmp 10))⟩,
    ⟨some 56, none, .op (.un .neg (.tmp 55))⟩,
    ⟨some 57, none, .op (.mkSl (reps 3 [(.int .i64 0)]) 3 [(0, 1, .tmp 52), (1, 1, .tmp 54), (2, 1, .tmp 56)])⟩,
    ⟨some 58, none, .callv (.tmp 50) [.tmp 51, .tmp 57]⟩]
def c206_8 : C := .reg [⟨some 59, none, .op (.bin .add (.tmp 15) (.const (.int .i64 1)))⟩,
    ⟨some 15, none, .op (.mv (.tmp 59))⟩]
def c206 : Fn' := ⟨(.seq c206_0 (.seq c206_1 (.block 0 (.loop (.seq c206_2 (.seq (.cond (.tmp 16) .skip (.exit 0)) (.seq (.block 1 (.seq c206_3 (.seq c206_4 (.seq c206_5 (.seq c206_6 c206_7))))) c206_8))))))), []⟩
theorem comp206 : compFn Tryz.prog 206 = some c206 := by kernel_rfl

def c207_0 : C := .regD 1 [⟨0, ⟨some 6, none, .op (.ld none (.tmp 2))⟩, none, []⟩,
    ⟨1, ⟨some 7, none, .op (.mv (.tmp 1))⟩, none, []⟩,
    ⟨2, ⟨some 8, none, .op (.ld none (.tmp 3))⟩, none, []⟩,
    ⟨3, ⟨some 9, none, .op (.mv (.tmp 0))⟩, none, []⟩,
    ⟨4, ⟨some 10, none, .callv (.tmp 8) [.tmp 9]⟩, none, [(none, .tmp 2, 6, none)]⟩,
    ⟨5, ⟨some 11, none, .op (.app 1 8 (.tmp 7) (.tmp 10))⟩, none, [(none, .tmp 2, 6, none)]⟩,
    ⟨6, ⟨some 12, none, .op (.mkSl (reps 1 [(.slice none 0 0)]) 1 [(0, 1, .tmp 11)])⟩, some 0, []⟩,
    ⟨7, ⟨some 13, none, .op (.app 1 24 (.tmp 6) (.tmp 12))⟩, none, []⟩,
    ⟨8, ⟨none, none, .op (.st 1 (.tmp 2) (.tmp 13))⟩, none, []⟩]
def c207 : Fn' := ⟨c207_0, []⟩
theorem comp207 : compFn Tryz.prog 207 = some c207 := by kernel_rfl

def c208_0 : C := .reg [⟨some 3, none, .op (.box (.tmp 0))⟩,
    ⟨some 6, none, .op (.mv (.const (.int .i64 0)))⟩]
def c208_1 : C := .reg [⟨some 7, none, .op (.mv (.const (.int .i64 (-1))))⟩]
def c208_2 : C := .reg [⟨some 9, none, .op (.mv (.tmp 1))⟩,
    ⟨some 10, none, .op (.bin .shr (.tmp 9) (.const (.int .u64 1)))⟩,
    ⟨some 11, none, .op (.conv .i64 (.tmp 10))⟩,
    ⟨some 8, none, .op (.mv (.tmp 11))⟩]
def c208_3 : C := .reg [⟨some 12, none, .op (.mv (.tmp 8))⟩,
    ⟨some 13, none, .op (.bin .gtr (.tmp 12) (.const (.int .i64 0)))⟩]
def c208_4 : C := .reg [⟨some 14, none, .op (.mv (.tmp 2))⟩,
    ⟨some 15, none, .op (.fa 6 (.tmp 3))⟩,
    ⟨some 16, none, .op (.ld none (.tmp 15))⟩,
    ⟨some 17, none, .op (.bin .mul (.tmp 14) (.tmp 16))⟩,
    ⟨some 18, none, .op (.bin .add (.const (.int .i64 1)) (.tmp 17))⟩,
    ⟨some 19, none, .op (.mv (.tmp 8))⟩,
    ⟨some 20, none, .op (.bin .add (.tmp 18) (.tmp 19))⟩,
    ⟨some 7, none, .op (.mv (.tmp 20))⟩]
def c208_5 : C := .reg [⟨some 21, none, .op (.mv (.tmp 1))⟩,
    ⟨some 22, none, .op (.bin .and (.tmp 21) (.const (.int .u32 1)))⟩,
    ⟨some 23, none, .op (.bin .gtr (.tmp 22) (.const (.int .u32 0)))⟩]
def c208_6 : C := .reg [⟨some 24, none, .op (.mv (.tmp 7))⟩,
    ⟨some 25, none, .op (.un .neg (.tmp 24))⟩,
    ⟨some 6, none, .op (.mv (.tmp 25))⟩]
def c208_7 : C := .reg [⟨some 26, none, .op (.mv (.tmp 7))⟩,
    ⟨some 6, none, .op (.mv (.tmp 26))⟩]
def c208 : Fn' := ⟨(.seq c208_0 (.seq c208_1 (.seq (.seq c208_2 (.seq c208_3 (.cond (.tmp 13) c208_4 .skip))) (.seq (.seq c208_5 (.cond (.tmp 23) (.seq c208_6 .ret) .skip)) (.seq c208_7 .ret))))), [.tmp 6]⟩
theorem comp208 : compFn Tryz.prog 208 = some c208 := by kernel_rfl

def c209_0 : C := .reg [⟨some 6, none, .op (.mv (.const (.int .u8 0)))⟩]
def c209_1 : C := .regD 0 [⟨0, ⟨some 7, none, .op (.ld none (.tmp 2))⟩, none, []⟩,
    ⟨1, ⟨some 8, none, .op (.ld (some 7) (.tmp 3))⟩, none, []⟩,
    ⟨2, ⟨some 9, none, .op (.mv (.tmp 0))⟩, none, []⟩,
    ⟨3, ⟨some 10, none, .op (.mv (.tmp 1))⟩, none, []⟩,
    ⟨4, ⟨some 11, none, .call 208 [.tmp 8, .tmp 9, .tmp 10]⟩, none, [(none, .tmp 2, 7, none)]⟩,
    ⟨5, ⟨some 12, none, .op (.ia 1 (.tmp 7) (.tmp 11))⟩, none, []⟩,
    ⟨6, ⟨some 13, none, .op (.ld none (.tmp 12))⟩, none, []⟩]
def c209_2 : C := .reg [⟨some 6, none, .op (.mv (.const (.int .u8 1)))⟩]
def c209_3 : C := .reg [⟨some 6, none, .op (.mv (.const (.int .u8 0)))⟩]
def c209 : Fn' := ⟨(.seq c209_0 (.seq (.seq c209_1 (.cond (.tmp 13) (.seq c209_2 .ret) .skip)) (.seq c209_3 .ret))), [.tmp 6]⟩
theorem comp209 : compFn Tryz.prog 209 = some c209 := by kernel_rfl

def c210_0 : C := .reg [⟨some 2, none, .op (.box (.tmp 0))⟩,
    ⟨some 4, none, .op (.mv (.const (.int .u32 0)))⟩]
def c210_1 : C := .reg [⟨some 5, none, .op (.fa 0 (.tmp 2))⟩,
    ⟨some 6, none, .op (.fa 0 (.tmp 5))⟩,
    ⟨some 7, none, .op (.ld none (.tmp 6))⟩,
    ⟨some 8, none, .op (.bin .add (.const (.int .i64 1)) (.tmp 7))⟩,
    ⟨some 9, none, .op (.mv (.tmp 1))⟩,
    ⟨some 10, none, .op (.bin .add (.tmp 8) (.tmp 9))⟩,
    ⟨some 11, none, .op (.conv .u32 (.tmp 10))⟩,
    ⟨some 12, none, .op (.bin .shl (.tmp 11) (.const (.int .u64 1)))⟩,
    ⟨some 4, none, .op (.mv (.tmp 12))⟩]
def c210 : Fn' := ⟨(.seq c210_0 (.seq c210_1 .ret)), [.tmp 4]⟩
theorem comp210 : compFn Tryz.prog 210 = some c210 := by kernel_rfl

def c244_0 : C := .reg [⟨some 3, none, .op (.ld none (.tmp 1))⟩,
    ⟨some 4, none, .op (.bin .add (.tmp 3) (.const (.int .i64 1)))⟩,
    ⟨none, none, .op (.st 1 (.tmp 1) (.tmp 4))⟩]
def c244 : Fn' := ⟨c244_0, []⟩
theorem comp244 : compFn Tryz.prog 244 = some c244 := by kernel_rfl

def c245_0 : C := .reg [⟨some 2, none, .op (.box (.tmp 0))⟩,
    ⟨some 4, none, .op (.mv (.const (.int .u32 0)))⟩]
def c245_1 : C := .reg [⟨some 5, none, .op (.ld (some 7) (.tmp 2))⟩,
    ⟨some 6, none, .op (.fa 0 (.tmp 2))⟩,
    ⟨some 7, none, .op (.fa 1 (.tmp 6))⟩,
    ⟨some 8, none, .op (.ld none (.tmp 7))⟩,
    ⟨some 9, none, .op (.len (.tmp 8))⟩,
    ⟨some 10, none, .op (.mv (.tmp 1))⟩,
    ⟨some 11, none, .op (.bin .add (.tmp 9) (.tmp 10))⟩,
    ⟨some 12, none, .call 210 [.tmp 5, .tmp 11]⟩,
    ⟨some 4, none, .op (.mv (.tmp 12))⟩]
def c245 : Fn' := ⟨(.seq c245_0 (.seq c245_1 .ret)), [.tmp 4]⟩
theorem comp245 : compFn Tryz.prog 245 = some c245 := by kernel_rfl

end Go.Proofs.YtmmpnmekiplhfaaGreat
