/-
  Loops: what a round does not write stays.
-/
import Derived.Test.YtmmpnmekiplhfaaGreatAeData
namespace Go.Ae
open Go

/-- But for the temporaries W, all are as they were. -/
def Kt (W : List Nat) (T0 T : Tm) : Prop := ∀ k, W.contains k = false → g T k = g T0 k
theorem Kt.refl (W : List Nat) (T : Tm) : Kt W T T := fun _ _ => rfl
theorem Kt.put {W : List Nat} {T0 T : Tm} {a : Nat} {v : Value} (h : W.contains a = true) (k : Kt W T0 T) : Kt W T0 (T.put a v) := fun i hi => by
  rw [g_put, if_neg (fun e => by subst e; rw [h] at hi; cases hi)]; exact k i hi
theorem Kt.at {W : List Nat} {T0 T : Tm} (k : Kt W T0 T) (i : Nat) (h : W.contains i = false) : g T i = g T0 i := k i h
theorem Kt.trans {W : List Nat} {T0 T1 T2 : Tm} (a : Kt W T0 T1) (b : Kt W T1 T2) : Kt W T0 T2 := fun i hi => (b i hi).trans (a i hi)

theorem Kt.mono {W W2 : List Nat} {T0 T : Tm} (h : W2.all (fun k => W.contains k) = true) (k : Kt W2 T0 T) : Kt W T0 T := fun i hi => k i (by
  cases hc : W2.contains i with
  | false => rfl
  | true =>
    rw [List.all_eq_true] at h
    rw [h i (by simpa using hc)] at hi
    cases hi)

/-- A loop, by an invariant and a measure; what a round does not write stays. -/
theorem At.loopK {E : Env} {fs : List Fm} {Q : Ex → Tm → H → Prop} {c : C} {T0 : Tm} {h : H} (W : List Nat) (Inv : Nat → Tm → H → Prop)
    (step : ∀ k T h', Kt W T0 T → Inv k T h' → At E c T h' [] (stepQ (fun k T h => Kt W T0 T ∧ Inv k T h) k (contQ E fs Q))) (k : Nat) (h0 : Inv k T0 h) : At E (.loop c) T0 h fs Q :=
  At.loop (fun k T h => Kt W T0 T ∧ Inv k T h) (fun k T h' hi => step k T h' hi.1 hi.2) k ⟨Kt.refl _ _, h0⟩
theorem AJ.loopK {E : Env} {fs : List Fm} {Q : Ex → Tm → H → Prop} {l : Nat} {b : C} {T0 : Tm} {h : H} (W : List Nat) (Inv : Nat → Tm → H → Prop)
    (step : ∀ k T h', Kt W T0 T → Inv k T h' → At E b T h' (.jmp l (fun T h => ∃ k', k' < k ∧ Kt W T0 T ∧ Inv k' T h) :: fs) Q) (k : Nat) (h0 : Inv k T0 h) : AJ E l b T0 h (contQ E fs Q) :=
  AJ.loop (fun k T h => Kt W T0 T ∧ Inv k T h) (fun k T h' hi => step k T h' hi.1 hi.2) k ⟨Kt.refl _ _, h0⟩

theorem wrap_succ {i : Nat} (h : i < 9223372036854775807) : IntKind.i64.wrap ((i : Int) + 1) = ((i + 1 : Nat) : Int) := by
  rw [wrap_id (by omega) (by omega)]; omega
end Go.Ae
