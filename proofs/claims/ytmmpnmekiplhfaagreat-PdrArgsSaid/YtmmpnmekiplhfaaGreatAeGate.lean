/-
  What a guard says; what stands behind an exit.
-/
import Derived.Test.YtmmpnmekiplhfaaGreatAeSound
import Derived.Test.YtmmpnmekiplhfaaGreatAeFrame
namespace Go.Ae
open Go

variable {P : Program}

theorem gate_bool {v : Value} {b : Bool} (h : gate v = some (some b)) : v = .bool b := by
  unfold gate at h
  split at h
  · simp at h; rw [h]
  · split at h <;> simp at h
  · cases h
theorem gate_none {v : Value} (h : gate v = some none) : v = .tuple #[] := by
  unfold gate at h
  split at h
  · simp at h
  · rename_i xs
    split at h
    · rename_i he
      have : xs = #[] := by simpa using he
      rw [this]
    · cases h
  · cases h

theorem wanted_of {φ : Emb} {T : Tm} {a : Act} (hT : TR φ T a.tmps) {ops : Array Oper} {o : Oper} {gd : Option (Nat × Bool)} (hg : compG ops o.guard = some gd) :
    (gd = none → Region.wanted o (yielded ops a.tmps) = true) ∧
    (∀ d want b, gd = some (d, want) → g T d = .bool b → Region.wanted o (yielded ops a.tmps) = (b == want)) ∧
    (∀ d want, gd = some (d, want) → g T d = .tuple #[] → Region.wanted o (yielded ops a.tmps) = false) := by
  unfold compG at hg
  cases hgu : o.guard with
  | none =>
    simp only [hgu] at hg
    cases hg
    exact ⟨fun _ => by simp [Region.wanted, hgu], (fun d want b h => by cases h), (fun d want h => by cases h)⟩
  | some jw =>
    obtain ⟨j, want⟩ := jw
    simp only [hgu] at hg
    cases hd : (ops[j]?).bind (·.dst) with
    | none => simp [hd] at hg
    | some d =>
      simp only [hd, Option.map_some, Option.some.injEq] at hg
      subst hg
      have hy := hT d
      refine ⟨(fun h => by cases h), (fun d' want' b h hb => ?_), (fun d' want' h hb => ?_)⟩
      · cases h
        rw [hb] at hy
        have := hy.bool_inv
        have h2 : a.tmps[d]? = some (.bool b) := by
          simp only [Array.getD_eq_getD_getElem?] at this
          cases ht : a.tmps[d]? with
          | none => simp [ht, undef] at this
          | some v => simp [ht] at this; rw [this]
        simp [Region.wanted, hgu, yielded, hd, h2]
      · cases h
        rw [hb] at hy
        generalize hv : a.tmps.getD d undef = v at hy
        cases hy with
        | tuple hs hi =>
          rename_i ys
          have h2 : a.tmps[d]? = none ∨ a.tmps[d]? = some (.tuple ys) := by
            simp only [Array.getD_eq_getD_getElem?] at hv
            cases ht : a.tmps[d]? with
            | none => exact .inl rfl
            | some v => simp [ht] at hv; rw [hv]; exact .inr rfl
          rcases h2 with h2 | h2 <;> simp [Region.wanted, hgu, yielded, hd, h2]

theorem wanted_dec {φ : Emb} {T : Tm} {a : Act} (hT : TR φ T a.tmps) {ops : Array Oper} {o : Oper} {gd : Option (Nat × Bool)} (hg : compG ops o.guard = some gd) {b : Bool} (hd : dec T gd = some b) :
    Region.wanted o (yielded ops a.tmps) = b := by
  obtain ⟨w1, w2, w3⟩ := wanted_of hT hg
  unfold dec at hd
  split at hd
  · cases hd; exact w1 rfl
  · rename_i d want
    split at hd
    · rename_i c hc
      cases hd
      exact w2 d want c rfl (gate_bool hc)
    · rename_i hc
      cases hd
      exact w3 d want rfl (gate_none hc)
    · cases hd

/-- What stands behind an exit. -/
def toExit : Ex → Exit
  | .normal => .normal
  | .exit id => .exit id
  | .ret => .ret
  | .goto l => .goto l

end Go.Ae
