/-
  Small binary tries over natural numbers, for an evaluator that the kernel runs: a lookup behind a store answers what was stored.
-/
namespace Go.Ae

/-- A trie: the value at 0, the odd places on the left, the even ones on the right. -/
inductive Tr (α : Type) where
  | nil
  | node (l : Tr α) (v : Option α) (r : Tr α)

namespace Tr
variable {α : Type}

def getF : Nat → Tr α → Nat → Option α
  | 0, _, _ => none
  | _ + 1, .nil, _ => none
  | f + 1, .node l v r, i => cond (Nat.beq i 0) v (cond (Nat.beq (i % 2) 1) (getF f l (i / 2)) (getF f r (i / 2 - 1)))

def putF : Nat → Tr α → Nat → α → Tr α
  | 0, t, _, _ => t
  | f + 1, .nil, i, x => cond (Nat.beq i 0) (.node .nil (some x) .nil)
      (cond (Nat.beq (i % 2) 1) (.node (putF f .nil (i / 2) x) none .nil) (.node .nil none (putF f .nil (i / 2 - 1) x)))
  | f + 1, .node l v r, i, x => cond (Nat.beq i 0) (.node l (some x) r)
      (cond (Nat.beq (i % 2) 1) (.node (putF f l (i / 2) x) v r) (.node l v (putF f r (i / 2 - 1) x)))

def get (t : Tr α) (i : Nat) : Option α := getF (i + 1) t i
def put (t : Tr α) (i : Nat) (x : α) : Tr α := putF (i + 1) t i x

theorem cond_beq {β : Type} (i j : Nat) (a b : β) : cond (Nat.beq i j) a b = if i = j then a else b := by
  by_cases h : i = j
  · subst h; simp
  · have : Nat.beq i j = false := by
      cases hb : Nat.beq i j
      · rfl
      · exact absurd (Nat.eq_of_beq_eq_true hb) h
    simp [this, h]

theorem getF_nil (f i : Nat) : getF f (.nil : Tr α) i = none := by cases f <;> rfl

theorem getF_fuel : ∀ (f g : Nat) (t : Tr α) (i : Nat), i < f → i < g → getF f t i = getF g t i := by
  intro f
  induction f with
  | zero => intro g t i h; omega
  | succ f ih =>
    intro g t i hf hg
    obtain ⟨g, rfl⟩ : ∃ m, g = m + 1 := ⟨g - 1, by omega⟩
    cases t with
    | nil => rfl
    | node l v r =>
      simp only [getF, cond_beq]
      by_cases h0 : i = 0
      · simp [h0]
      · simp only [h0, if_false]
        by_cases h1 : i % 2 = 1
        · simp only [h1, if_true]; exact ih g l (i / 2) (by omega) (by omega)
        · simp only [h1, if_false]; exact ih g r (i / 2 - 1) (by omega) (by omega)

theorem getF_putF : ∀ (f : Nat) (t : Tr α) (i j : Nat) (x : α), i < f → j < f →
    getF f (putF f t i x) j = if j = i then some x else getF f t j := by
  intro f
  induction f with
  | zero => intro t i j x h; omega
  | succ f ih =>
    intro t i j x hi hj
    have key : ∀ (l : Tr α) (v : Option α) (r : Tr α),
        getF (f + 1) (cond (Nat.beq i 0) (.node l (some x) r)
          (cond (Nat.beq (i % 2) 1) (.node (putF f l (i / 2) x) v r) (.node l v (putF f r (i / 2 - 1) x)))) j =
        if j = i then some x else getF (f + 1) (.node l v r) j := by
      intro l v r
      simp only [cond_beq]
      by_cases h0 : i = 0
      · subst h0
        simp only [if_true, getF, cond_beq]
        by_cases hj0 : j = 0 <;> simp [hj0]
      · simp only [h0, if_false]
        by_cases h1 : i % 2 = 1
        · simp only [h1, if_true, getF, cond_beq]
          by_cases hj0 : j = 0
          · simp [hj0, Ne.symm h0]
          · simp only [hj0, if_false]
            by_cases hj1 : j % 2 = 1
            · simp only [hj1, if_true]
              rw [ih l (i / 2) (j / 2) x (by omega) (by omega)]
              by_cases e : j = i
              · subst e; simp
              · rw [if_neg e, if_neg (by omega)]
            · simp only [hj1, if_false]
              rw [if_neg (by omega)]
        · simp only [h1, if_false, getF, cond_beq]
          by_cases hj0 : j = 0
          · simp [hj0, Ne.symm h0]
          · simp only [hj0, if_false]
            by_cases hj1 : j % 2 = 1
            · simp only [hj1, if_true]
              rw [if_neg (by omega)]
            · simp only [hj1, if_false]
              rw [ih r (i / 2 - 1) (j / 2 - 1) x (by omega) (by omega)]
              by_cases e : j = i
              · subst e; simp
              · rw [if_neg e, if_neg (by omega)]
    cases t with
    | node l v r => exact key l v r
    | nil =>
      have h := key .nil none .nil
      have hn : getF (f + 1) (.node .nil none .nil : Tr α) j = none := by
        simp only [getF, cond_beq, getF_nil]; split <;> simp
      rw [hn] at h
      rw [getF_nil]
      exact h

theorem get_put (t : Tr α) (i j : Nat) (x : α) : (t.put i x).get j = if j = i then some x else t.get j := by
  unfold get put
  let m := i + j + 1
  have hp : ∀ (f g : Nat) (t : Tr α) (i : Nat), i < f → i < g → putF f t i x = putF g t i x := by
    intro f
    induction f with
    | zero => intro g t i h; omega
    | succ f ih =>
      intro g t i hf hg
      obtain ⟨g, rfl⟩ : ∃ m, g = m + 1 := ⟨g - 1, by omega⟩
      cases t <;> simp only [putF, cond_beq] <;> by_cases h0 : i = 0 <;> simp only [h0, if_true, if_false] <;>
        by_cases h1 : i % 2 = 1 <;> simp only [h1, if_true, if_false] <;>
        first
          | rw [ih g _ (i / 2) (by omega) (by omega)]
          | rw [ih g _ (i / 2 - 1) (by omega) (by omega)]
          | skip
  rw [hp (i + 1) (m + 1) t i (by omega) (by omega), getF_fuel (j + 1) (m + 1) _ j (by omega) (by omega),
    getF_fuel (j + 1) (m + 1) t j (by omega) (by omega)]
  exact getF_putF (m + 1) t i j x (by omega) (by omega)

theorem get_nil (i : Nat) : (.nil : Tr α).get i = none := getF_nil _ _

/-- All that a trie holds, with its number. -/
def All (p : Nat → α → Prop) : Tr α → Prop
  | .nil => True
  | .node l v r => (∀ x, v = some x → p 0 x) ∧ All (fun j => p (2 * j + 1)) l ∧ All (fun j => p (2 * j + 2)) r
theorem all_getF : ∀ (f : Nat) (t : Tr α) (p : Nat → α → Prop) (i : Nat) (x : α), t.All p → getF f t i = some x → p i x := by
  intro f
  induction f with
  | zero => intro t p i x _ e; cases e
  | succ f ih =>
    intro t p i x ha e
    cases t with
    | nil => cases e
    | node l v r =>
      obtain ⟨h0, h1, h2⟩ := ha
      simp only [getF, cond_beq] at e
      split at e
      · rename_i h; subst h; exact h0 x e
      · split at e
        · rename_i h; have := ih l _ _ x h1 e; rw [show 2 * (i / 2) + 1 = i by omega] at this; exact this
        · rename_i g h; have := ih r _ _ x h2 e; rw [show 2 * (i / 2 - 1) + 2 = i by omega] at this; exact this
theorem all_get {t : Tr α} {p : Nat → α → Prop} (ha : t.All p) {i : Nat} {x : α} (e : t.get i = some x) : p i x := all_getF _ t p i x ha e
end Tr
end Go.Ae
