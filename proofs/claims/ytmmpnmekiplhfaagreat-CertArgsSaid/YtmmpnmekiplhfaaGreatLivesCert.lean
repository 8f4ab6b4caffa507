/-
  The certificates that the document tells of: run by the kernel, once.
-/
import Derived.Test.YtmmpnmekiplhfaaGreatIrSatTab
import Derived.Test.YtmmpnmekiplhfaaGreatIrCertTab
namespace Go.Proofs.YtmmpnmekiplhfaaGreat
open Go Go.Ae Go.RowKit

def certTab : FuncId → Option Fn' := orTab ircertTab irsatTab
theorem certTab_ok : ∀ f c, certTab f = some c → compFn Tryz.prog f = some c := orTab_ok ircertTab_ok irsatTab_ok
theorem livesCert_says : saysTrue (evFn ⟨certTab, noSpec⟩ 60 34 [] H0) = true := by kernel_rfl
theorem livesCert_calls (w : World) : Calls Tryz.prog 34 #[] w fun e w' => e = .returned (.bool true) ∧ Below w.heap.size w w' :=
  table_true certTab_ok (args := []) (by simp) livesCert_says w
theorem livesCert_ok : SpecOk Tryz.prog (trueSpec 34) := trueSpec_ok ⟨Tryz.f34, Tryz.func34, by kernel_rfl⟩ livesCert_calls
end Go.Proofs.YtmmpnmekiplhfaaGreat
