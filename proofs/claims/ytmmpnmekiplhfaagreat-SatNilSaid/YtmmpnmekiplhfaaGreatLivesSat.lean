/-
  The solver that the document tells of: run by the kernel, once.
-/
import Derived.Test.YtmmpnmekiplhfaaGreatIrSatTab
namespace Go.Proofs.YtmmpnmekiplhfaaGreat
open Go Go.Ae Go.RowKit

theorem livesSat_says : saysTrue (evFn ⟨irsatTab, noSpec⟩ 60 19 [] H0) = true := by kernel_rfl
theorem livesSat_calls (w : World) : Calls Tryz.prog 19 #[] w fun e w' => e = .returned (.bool true) ∧ Below w.heap.size w w' :=
  table_true irsatTab_ok (args := []) (by simp) livesSat_says w
theorem livesSat_ok : SpecOk Tryz.prog (trueSpec 19) := trueSpec_ok ⟨Tryz.f19, Tryz.func19, by kernel_rfl⟩ livesSat_calls
end Go.Proofs.YtmmpnmekiplhfaaGreat
