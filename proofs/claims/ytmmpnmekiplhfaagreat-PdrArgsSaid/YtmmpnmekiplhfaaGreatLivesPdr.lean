/-
  The prover that the document tells of: the second half of the run.
-/
import Derived.Test.YtmmpnmekiplhfaaGreatLivesPdrA
namespace Go.Proofs.YtmmpnmekiplhfaaGreat
open Go Go.Ae Go.RowKit

theorem q3 : endsTrue [.tmp 0] (evC (evFn ⟨pdrTab, noSpec⟩ 100) 100 (.seq c49_2 (.seq c49_3 .ret)) u49 (Hn 100000)) = true := by kernel_rfl
theorem livesPdr_calls (w : World) : Calls Tryz.prog 49 #[] w fun e w' => e = .returned (.bool true) ∧ Below w.heap.size w w' :=
  cut_true pdrTab_ok Tryz.func49 body49 p1 p2 p3 pres q1 q2 q3 w
theorem livesPdr_ok : SpecOk Tryz.prog (trueSpec 49) := trueSpec_ok ⟨Tryz.f49, Tryz.func49, by kernel_rfl⟩ livesPdr_calls
end Go.Proofs.YtmmpnmekiplhfaaGreat
