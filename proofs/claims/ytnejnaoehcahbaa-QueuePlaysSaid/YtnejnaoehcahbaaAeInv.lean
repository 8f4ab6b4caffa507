/-
  Calls through interfaces.
-/
import Derived.Test.YtnejnaoehcahbaaAeData
namespace Go.Ae
open Go

def findV (E : Env) (fm : Option (FuncId × Option (Option Nat))) (v : Value) (xs : List Value) (d : Option Nat) (os : List O) (T : Tm) (h : H) (fs : List Fm) (Q : Ex → Tm → H → Prop) : Prop :=
  ∃ f m, fm = some (f, m) ∧ match m with
    | none => callV E f (v :: xs) d os T h fs Q
    | some n => ∃ i o, adr v = some (i, o) ∧ match n with
      | none => ∃ u, h.ld i o = some u ∧ callV E f (u :: xs) d os T h fs Q
      | some n => ∃ us, h.lds i o n = some us ∧ callV E f (.agg us.toArray :: xs) d os T h fs Q
def invV (E : Env) (x : Value) (tab : List (TypeId × FuncId × Option (Option Nat))) (xs : List Value) (d : Option Nat) (os : List O) (T : Tm) (h : H) (fs : List Fm) (Q : Ex → Tm → H → Prop) : Prop :=
  ∃ t v, x = .iface t v ∧ findV E (findT tab t) v xs d os T h fs Q

section
variable {E : Env} {T : Tm} {h : H} {fs : List Fm} {Q : Ex → Tm → H → Prop} {d : Option Nat} {os : List O}
theorem Ops.invV {x : Operand} {tab : List (TypeId × FuncId × Option (Option Nat))} {xs : List Operand} : Ops E (⟨d, none, .inv x tab xs⟩ :: os) T h fs Q = Ae.invV E (rho T x) tab (xs.map (rho T)) d os T h fs Q := by
  apply propext; constructor
  · rintro ⟨b, hb, _, w⟩; cases hb
    obtain ⟨t, v, f, m, hx, hf, w⟩ := w rfl
    exact ⟨t, v, hx, f, m, hf, w⟩
  · rintro ⟨t, v, hx, f, m, hf, w⟩
    exact ⟨true, rfl, fun e => (by cases e), fun _ => ⟨t, v, f, m, hx, hf, w⟩⟩
theorem invV.mk {t : TypeId} {v : Value} {tab : List (TypeId × FuncId × Option (Option Nat))} {xs : List Value} : Ae.invV E (.iface t v) tab xs d os T h fs Q = findV E (findT tab t) v xs d os T h fs Q := by
  apply propext; constructor
  · rintro ⟨t', v', e, w⟩; cases e; exact w
  · intro w; exact ⟨t, v, rfl, w⟩
theorem findV.mk {f : FuncId} {v : Value} {xs : List Value} : findV E (some (f, none)) v xs d os T h fs Q = callV E f (v :: xs) d os T h fs Q := by
  apply propext; constructor
  · rintro ⟨f', m, e, w⟩; cases e; exact w
  · intro w; exact ⟨f, none, rfl, w⟩
end
end Go.Ae
