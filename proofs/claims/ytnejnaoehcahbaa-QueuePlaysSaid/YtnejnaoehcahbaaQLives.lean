/-
  The queue that the document tells of: run by the kernel, once; a contract for the laws of queue.
-/
import Derived.Test.YtnejnaoehcahbaaAeWp
import Derived.Test.YtnejnaoehcahbaaQIr
namespace Go.Proofs.Ytnejnaoehcahbaa.q
open Go Go.Ae Go.RowKit

theorem lives_says : saysTrue (evFn (env Try.prog noSpec) 60 20 [] H0) = true := by kernel_rfl
theorem lives_calls (w : World) : Calls Try.prog 20 #[] w fun e w' => e = .returned (.bool true) ∧ Below w.heap.size w w' :=
  plain_true noSpec_ok (args := []) (by simp) lives_says w
theorem lives_ok : CallOk Try.prog (trueSpec 20) := trueSpec_ok ⟨Try.f20, Try.func20, by kernel_rfl⟩ lives_calls

/-- The program's functions, with that contract. -/
noncomputable def E : Env := env Try.prog (trueSpec 20)
theorem E_spec {f : FuncId} (h : f ≠ 20) (xs : List Value) (hp : H) : E.spec f xs hp = none := by
  cases xs with
  | nil => simp [E, env, trueSpec, Tr.cond_beq, h]
  | cons x xs => rfl
theorem E_fns : E.fns = compFn Try.prog := by simp only [E, env]
theorem E_fn {f : FuncId} {c : Fn'} (h : compFn Try.prog f = some c) : E.fns f = some c := (congrFun E_fns f).trans h
theorem E_lives (h : H) : AF E 20 [] h fun v h' => v = .bool true ∧ h' = h := AF.of_spec (v := .bool true) (h' := h) rfl ⟨rfl, rfl⟩
end Go.Proofs.Ytnejnaoehcahbaa.q
