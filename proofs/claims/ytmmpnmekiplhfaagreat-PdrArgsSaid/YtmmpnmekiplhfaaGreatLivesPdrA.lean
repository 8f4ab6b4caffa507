/-
  The prover that the document tells of: run by the kernel, once, in two parts.
-/
import Derived.Test.YtmmpnmekiplhfaaGreatAeCut
import Derived.Test.YtmmpnmekiplhfaaGreatIrSatTab
import Derived.Test.YtmmpnmekiplhfaaGreatIrCertTab
import Derived.Test.YtmmpnmekiplhfaaGreatIrPdrTab
namespace Go.Proofs.YtmmpnmekiplhfaaGreat
open Go Go.Ae Go.RowKit

def pdrTab : FuncId → Option Fn' := orTab irpdrTab (orTab ircertTab irsatTab)
theorem pdrTab_ok : ∀ f c, pdrTab f = some c → compFn Tryz.prog f = some c := orTab_ok irpdrTab_ok (orTab_ok ircertTab_ok irsatTab_ok)

def fstC : Code → Code
  | .seq a _ => a
  | c => c
def sndC : Code → Code
  | .seq _ b => b
  | c => c
noncomputable def code49 : Code := match Tryz.f49.body with
  | some c => c
  | none => .skip
theorem body49 : Tryz.f49.body = some (.seq (fstC code49) (.seq (fstC (sndC code49)) (sndC (sndC code49)))) := by kernel_rfl
theorem p1 : compC Tryz.prog Tryz.f49.ntmps (fstC code49) = some c49_0 := by kernel_rfl
theorem p2 : compC Tryz.prog Tryz.f49.ntmps (fstC (sndC code49)) = some c49_1 := by kernel_rfl
theorem p3 : compC Tryz.prog Tryz.f49.ntmps (sndC (sndC code49)) = some (.seq c49_2 (.seq c49_3 .ret)) := by kernel_rfl
theorem pres : compRs Tryz.prog Tryz.f49.results.toList = some [.tmp 0] := by kernel_rfl

def t49 : Tm := Tr.nil.put 0 (.bool false)
/-- What is known behind the first half: it was proved, without an error. -/
def u49 : Tm := (((((((((((t49.put 10 junk).put 11 junk).put 9 junk).put 12 junk).put 13 junk).put 14 junk).put 15 junk).put 2 junk).put 3 junk).put 1 (.int .u8 1)).put 4 (.int .i64 0))
theorem q1 : evC (evFn ⟨pdrTab, noSpec⟩ 100) 100 c49_0 .nil H0 = some (.normal, t49, H0) := by kernel_rfl
theorem q2 : cutB u49 100000 (evC (evFn ⟨pdrTab, noSpec⟩ 100) 100 c49_1 t49 H0) = true := by kernel_rfl
end Go.Proofs.YtmmpnmekiplhfaaGreat
