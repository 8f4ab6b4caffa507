/-
  The law TallyBuilds, its last part: all models of the variables below.
-/
import Derived.Test.YtnejnaoehcahbaaAeMore
import Derived.Test.YtnejnaoehcahbaaTally8
import Derived.Test.YtnejnaoehcahbaaPlain15
import Derived.Test.YtnejnaoehcahbaaModel
import Derived.Test.YtnejnaoehcahbaaSaid
import Derived.Test.YtnejnaoehcahbaaRef00
namespace Go.Proofs.Ytnejnaoehcahbaa
open Go Go.Ae Go.Ae.Sat13
set_option linter.unusedSimpArgs false

/-- An assignment out of a row of bools. -/
def asg (m : List Bool) (v : Int) : Bool := m.getD v.toNat false

theorem trueB_lit {m : List Bool} {V : Nat} {x : Int} (hm : m.length = V + 1) (hV : V ≤ 1000) (hx : x ≠ 0 ∧ -((V : Int) + 1) < x ∧ x < (V : Int) + 1) : trueB x m = litT (asg m) x := by
  unfold trueB litT asg
  by_cases h : x < 0
  · have : neg x = -x := neg_of (n := (V : Int) + 1) (by omega) hx.2
    simp only [if_true, this, show 0 < -x by omega, show -x < (m.length : Int) by omega, decide_true, Bool.true_and, h]
    cases m.getD (-x).toNat false <;> rfl
  · simp only [if_false, show 0 < x by omega, show x < (m.length : Int) by omega, decide_true, Bool.true_and, h, decide_false]
    cases m.getD x.toNat false <;> rfl

theorem holdN_cnt {m : List Bool} {V : Nat} {ls : List Int} (hm : m.length = V + 1) (hV : V ≤ 1000) (hb : Bel ((V : Int) + 1) ls) : holdN ls m = cnt (asg m) ls := by
  unfold holdN cnt
  congr 1
  exact List.filter_congr fun x hx => trueB_lit hm hV (hb x hx)

theorem mem_said {m : List Bool} {V : Nat} {x : Int} : x ∈ saidL m V ↔ ∃ j : Nat, j < V ∧ x = if m.getD (j + 1) false = true then (j : Int) + 1 else -((j : Int) + 1) := by
  simp only [saidL, List.mem_map, List.mem_range]
  constructor
  · rintro ⟨j, hj, rfl⟩; exact ⟨j, hj, rfl⟩
  · rintro ⟨j, hj, rfl⟩; exact ⟨j, hj, rfl⟩

/-- What is said of a model is what it says. -/
theorem said_sat {m : List Bool} {V : Nat} {a : Int → Bool} : (∀ x ∈ saidL m V, litT a x = true) ↔ ∀ v : Int, 1 ≤ v → v < (V : Int) + 1 → a v = asg m v := by
  constructor
  · intro h v h1 h2
    have := h _ (mem_said.2 ⟨(v - 1).toNat, by omega, rfl⟩)
    have e1 : (((v - 1).toNat : Nat) : Int) + 1 = v := by omega
    have e2 : (v - 1).toNat + 1 = v.toNat := by omega
    rw [e1, e2] at this
    unfold litT at this
    unfold asg
    cases hm : m.getD v.toNat false
    · rw [hm] at this
      simp only [Bool.false_eq_true, if_false] at this
      rw [if_pos (by omega), Int.neg_neg] at this
      simpa using this
    · rw [hm] at this
      simp only [if_true] at this
      rwa [if_neg (by omega)] at this
  · intro h x hx
    obtain ⟨j, hj, rfl⟩ := mem_said.1 hx
    have h2 := h ((j : Int) + 1) (by omega) (by omega)
    unfold asg at h2
    rw [show ((j : Int) + 1).toNat = j + 1 by omega] at h2
    unfold litT
    cases hm : m.getD (j + 1) false
    · simp only [Bool.false_eq_true, if_false]
      rw [if_pos (by omega), Int.neg_neg, h2, hm]; rfl
    · simp only [if_true]
      rw [if_neg (by omega), h2, hm]

theorem litT_congr1 {t t' : Int → Bool} {n x : Int} (h : ∀ v, 1 ≤ v → v < n → t' v = t v) (hx : x ≠ 0 ∧ -n < x ∧ x < n) : litT t' x = litT t x := by
  unfold litT; split
  · rw [h _ (by omega) (by omega)]
  · rw [h _ (by omega) (by omega)]
theorem cnt_congr1 {t t' : Int → Bool} {n : Int} {ls : List Int} (h : ∀ v, 1 ≤ v → v < n → t' v = t v) (b : Bel n ls) : cnt t' ls = cnt t ls := by
  unfold cnt
  congr 1
  exact List.filter_congr fun x hx => litT_congr1 h (b x hx)

theorem bel_one {n : Int} {c : List Int} (hb : Bel n c) (hl : c.length ≤ 4096) (hn : n ≤ 4000) : oneB c (n - 1) = true := by
  unfold oneB
  rw [Bool.and_eq_true, List.all_eq_true, decide_eq_true_eq]
  refine ⟨fun x hx => ?_, hl⟩
  have := hb x hx
  unfold litB
  rw [decide_eq_true_eq]
  omega

section
variable {ls out : List Int} {C : List (List Int)} {V : Nat} {n' : Int} {o : Nat} {m : List Bool}

theorem law_may (L : Law o ls ((V : Int) + 1) out C n') (hn : n' ≤ 4000) (hC : C.length ≤ 1048576) : mayB C (n' - 1) = true := by
  have := L.le
  unfold mayB
  rw [Bool.and_eq_true, List.all_eq_true, decide_eq_true_eq]
  exact ⟨fun c hc => bel_one (L.cl c hc).1 (by have := (L.cl c hc).2; omega) hn, hC, by omega, by omega⟩

/-- Whatever the variables below are, there is a model. -/
theorem law_has (L : Law o ls ((V : Int) + 1) out C n') (m : List Bool) : ∃ a, Sat C (saidL m V) a := by
  obtain ⟨t, h1, h2⟩ := L.has (asg m)
  exact ⟨t, h2, said_sat.2 fun v _ hv => h1 v hv⟩

theorem said_one (m : List Bool) (hV : (V : Int) + 1 ≤ n') (hn : n' ≤ 4000) : oneB (saidL m V) (n' - 1) = true := by
  refine bel_one (fun x hx => ?_) (by simp [saidL]; omega) hn
  obtain ⟨j, hj, rfl⟩ := mem_said.1 hx
  split <;> omega

/-- In each model the i-th out holds just where more than i of the literals hold. -/
theorem law_tells (L : Law o ls ((V : Int) + 1) out C n') (hb : Bel ((V : Int) + 1) ls) (hm : m.length = V + 1) (hV : V ≤ 1000) {g : List Int} {a : Int → Bool} (hs : Sat C (saidL m V ++ g) a) {i : Nat} (hi : i < out.length) :
    litT a out[i] = decide (i < holdN ls m) := by
  have h1 := said_sat.1 fun x hx => hs.2 x (List.mem_append_left _ hx)
  rw [L.tells a hs.1 i hi, holdN_cnt hm hV hb, cnt_congr1 h1 hb]

end
end Go.Proofs.Ytnejnaoehcahbaa
