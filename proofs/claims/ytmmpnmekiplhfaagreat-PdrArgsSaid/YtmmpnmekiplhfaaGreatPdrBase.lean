/-
  The program's functions, with the contract of 'lives' that the kernel ran.
-/
import Derived.Test.YtmmpnmekiplhfaaGreatAeWp
import Derived.Test.YtmmpnmekiplhfaaGreatLivesPdr
namespace Go.Proofs.YtmmpnmekiplhfaaGreat
open Go Go.Ae Go.RowKit

/-- The program's functions, with that contract. -/
noncomputable def E : Env := env Tryz.prog (trueSpec 49)
theorem E_spec {f : FuncId} (h : f ≠ 49) (xs : List Value) (hp : H) : E.spec f xs hp = none := by
  cases xs with
  | nil => simp [E, env, trueSpec, Tr.cond_beq, h]
  | cons x xs => rfl
theorem E_fns : E.fns = compFn Tryz.prog := by simp only [E, env]
theorem E_fn {f : FuncId} {c : Fn'} (h : compFn Tryz.prog f = some c) : E.fns f = some c := (congrFun E_fns f).trans h
theorem E_lives (h : H) : AF E 49 [] h fun v h' => v = .bool true ∧ h' = h := AF.of_spec (v := .bool true) (h' := h) rfl ⟨rfl, rfl⟩
theorem lives_ok : SpecOk Tryz.prog (trueSpec 49) := livesPdr_ok
end Go.Proofs.YtmmpnmekiplhfaaGreat
