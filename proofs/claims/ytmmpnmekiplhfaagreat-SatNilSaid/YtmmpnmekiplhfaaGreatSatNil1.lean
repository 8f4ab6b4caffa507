/-
  Of a solver that is none, and of a zero one: what the evaluator says.
-/
import Derived.Test.YtmmpnmekiplhfaaGreatLivesSat
import Derived.Test.YtmmpnmekiplhfaaGreatIrSatNil
namespace Go.Proofs.YtmmpnmekiplhfaaGreat.satNil
open Go Go.Ae Go.ChangeShapes Go.WideShapes Go.ChangeAt Go.RowKit

def tab : FuncId → Option Fn'
  | 6 => some c6
  | 27 => some c27
  | 29 => some c29
  | 31 => some c31
  | f => irsatTab f
theorem tab_ok (f : FuncId) (c : Fn') (h : tab f = some c) : compFn Tryz.prog f = some c := by
  unfold tab at h
  split at h
  · cases h; exact comp6
  · cases h; exact comp27
  · cases h; exact comp29
  · cases h; exact comp31
  · exact irsatTab_ok f c h
theorem says_true : ∀ a1 : Int, saysTrue (evFn ⟨tab, trueSpec 19⟩ 60 6 [junk, .int .i64 a1, .bool true] H0) = true := fun a1 => by kernel_rfl
theorem says_false : ∀ a1 : Int, saysTrue (evFn ⟨tab, trueSpec 19⟩ 60 6 [junk, .int .i64 a1, .bool false] H0) = true := fun a1 => by kernel_rfl

theorem walk (v : Value) (a1 : Int) (a2 : Bool) (w : World) :
    Calls Tryz.prog 6 #[v, .int .i64 a1, .bool a2] w fun e w' => e = .returned (.bool true) ∧ Below w.heap.size w w' := by
  have hv : ∀ b : Bool, VRs (fun _ => none) [junk, .int .i64 a1, .bool b] [v, .int .i64 a1, .bool b] := fun b => .cons (.junk _) (.cons (.int _ _) (.cons (.bool _) (.nil _)))
  cases a2
  · exact call_true (E := ⟨tab, trueSpec 19⟩) tab_ok livesSat_ok (says_false a1) (Sim.empty w) (fun _ _ => rfl) (fun b _ => Owns.empty b) (hv false)
  · exact call_true (E := ⟨tab, trueSpec 19⟩) tab_ok livesSat_ok (says_true a1) (Sim.empty w) (fun _ _ => rfl) (fun b _ => Owns.empty b) (hv true)

end Go.Proofs.YtmmpnmekiplhfaaGreat.satNil
