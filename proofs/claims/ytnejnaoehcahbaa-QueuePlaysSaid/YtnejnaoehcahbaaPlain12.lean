/-
  THE PLAIN LAW of heaps: what swaps do to the order. No program is run.
-/
import Derived.Test.YtnejnaoehcahbaaQ1
namespace Go.Proofs.Ytnejnaoehcahbaa.q
open Go Go.Ae

/-- a comes ahead of c. -/
def lt (sc : Int → Int) (a c : Int) : Prop := sc c < sc a ∨ (sc a = sc c ∧ a < c)
/-- c does not come ahead of a. -/
def le (sc : Int → Int) (a c : Int) : Prop := ¬ lt sc c a
theorem le_trans {sc : Int → Int} {a b c : Int} (h1 : le sc a b) (h2 : le sc b c) : le sc a c := by unfold le lt at *; omega
theorem lt_le {sc : Int → Int} {a b : Int} (h : lt sc a b) : le sc a b := by unfold le lt at *; omega
theorem le_refl (sc : Int → Int) (a : Int) : le sc a a := by unfold le lt; omega

abbrev par (j : Nat) : Nat := (j - 1) / 2
def sw (l : Nat → Int) (i k : Nat) (m : Nat) : Int := if m = i then l k else if m = k then l i else l m
theorem sw_i (l : Nat → Int) (i k : Nat) : sw l i k i = l k := by unfold sw; rw [if_pos rfl]
theorem sw_k (l : Nat → Int) (i k : Nat) : sw l i k k = l i := by unfold sw; by_cases h : k = i <;> simp [h]
theorem sw_o {l : Nat → Int} {i k m : Nat} (h1 : m ≠ i) (h2 : m ≠ k) : sw l i k m = l m := by unfold sw; rw [if_neg h1, if_neg h2]

/-- The order holds from k0 on, but for the children of i. -/
structure Gd (sc : Int → Int) (l : Nat → Int) (n k0 i : Nat) : Prop where
  ok : ∀ j, 1 ≤ j → j < n → k0 ≤ par j → par j ≠ i → le sc (l (par j)) (l j)
  gr : 1 ≤ i → k0 ≤ par i → ∀ j, 1 ≤ j → j < n → par j = i → le sc (l (par i)) (l j)
/-- The order holds from k0 on. -/
def Hp (sc : Int → Int) (l : Nat → Int) (n k0 : Nat) : Prop := ∀ j, 1 ≤ j → j < n → k0 ≤ par j → le sc (l (par j)) (l j)

theorem Gd.step {sc : Int → Int} {l : Nat → Int} {n k0 i j : Nat} (g : Gd sc l n k0 i) (hk : k0 ≤ i) (hj : j = 2 * i + 1 ∨ j = 2 * i + 2) (hjn : j < n) (hlt : lt sc (l j) (l i)) (hb : ∀ m, (m = 2 * i + 1 ∨ m = 2 * i + 2) → m < n → le sc (l j) (l m)) :
    Gd sc (sw l i j) n k0 j := by
  have hij : j ≠ i := by omega
  have hpj : par j = i := by unfold par; omega
  refine ⟨fun m h1 h2 h3 h4 => ?_, fun _ _ m h1 h2 h3 => ?_⟩
  · by_cases e : m = j
    · subst e
      rw [hpj, sw_i, sw_k]; exact lt_le hlt
    · by_cases e2 : par m = i
      · rw [e2, sw_i, sw_o (by unfold par at e2; omega) e]
        exact hb m (by unfold par at e2; omega) h2
      · by_cases e3 : m = i
        · subst e3
          rw [sw_i, sw_o e2 h4]
          exact g.gr h1 h3 j (by omega) hjn hpj
        · rw [sw_o e2 h4, sw_o e3 e]
          exact g.ok m h1 h2 h3 e2
  · rw [hpj, sw_i, sw_o (by unfold par at h3; omega) (by unfold par at h3; omega)]
    have := g.ok m h1 h2 (by omega) (by omega)
    rwa [h3] at this

theorem Gd.done {sc : Int → Int} {l : Nat → Int} {n k0 i : Nat} (g : Gd sc l n k0 i) (hc : ∀ m, (m = 2 * i + 1 ∨ m = 2 * i + 2) → m < n → le sc (l i) (l m)) : Hp sc l n k0 := fun j h1 h2 h3 => by
  by_cases e : par j = i
  · rw [e]; exact hc j (by unfold par at e; omega) h2
  · exact g.ok j h1 h2 h3 e

/-- The order holds, but for j and its parent. -/
structure Gu (sc : Int → Int) (l : Nat → Int) (n j : Nat) : Prop where
  ok : ∀ m, 1 ≤ m → m < n → m ≠ j → le sc (l (par m)) (l m)
  gr : 1 ≤ j → ∀ m, 1 ≤ m → m < n → par m = j → le sc (l (par j)) (l m)

theorem Gu.step {sc : Int → Int} {l : Nat → Int} {n j : Nat} (g : Gu sc l n j) (hj : 1 ≤ j) (hjn : j < n) (hlt : lt sc (l j) (l (par j))) : Gu sc (sw l (par j) j) n (par j) := by
  have hne : par j ≠ j := by unfold par; omega
  refine ⟨fun m h1 h2 h3 => ?_, fun h0 m h1 h2 h3 => ?_⟩
  · by_cases e : m = j
    · subst e
      rw [sw_i, sw_k]; exact lt_le hlt
    · rw [sw_o h3 e]
      by_cases e2 : par m = par j
      · rw [e2, sw_i]
        have := g.ok m h1 h2 e
        rw [e2] at this
        exact le_trans (lt_le hlt) this
      · by_cases e3 : par m = j
        · rw [e3, sw_k]
          have := g.gr hj m h1 h2 e3
          exact this
        · rw [sw_o e2 e3]
          exact g.ok m h1 h2 e
  · have hpp : par (par j) ≠ par j := by unfold par at *; omega
    have hpj : par (par j) ≠ j := by unfold par at *; omega
    have hpl : par j ≤ j := by unfold par; omega
    have g1 := g.ok (par j) h0 (by omega) hne
    rw [sw_o hpp hpj]
    by_cases e : m = j
    · subst e; rw [sw_k]; exact g1
    · rw [sw_o (by intro e2; rw [e2] at h3; exact hpp h3) e]
      have := g.ok m h1 h2 e
      rw [h3] at this
      exact le_trans g1 this

theorem Gu.done {sc : Int → Int} {l : Nat → Int} {n j : Nat} (g : Gu sc l n j) (hj : 1 ≤ j → le sc (l (par j)) (l j)) : Hp sc l n 0 := fun m h1 h2 _ => by
  by_cases e : m = j
  · subst e; exact hj h1
  · exact g.ok m h1 h2 e

/-- The first comes ahead of all. -/
theorem Hp.root {sc : Int → Int} {l : Nat → Int} {n : Nat} (h : Hp sc l n 0) : ∀ m, m < n → le sc (l 0) (l m) := by
  intro m
  induction m using Nat.strongRecOn with
  | _ m ih =>
    intro hm
    by_cases h0 : m = 0
    · subst h0; exact le_refl _ _
    · exact le_trans (ih (par m) (by unfold par; omega) (by unfold par; omega)) (h m (by omega) hm (Nat.zero_le _))

theorem lessB_lt {q : QS} {a c : Int} : lessB q a c = true ↔ lt q.sc a c := by unfold lessB lt; rw [decide_eq_true_eq]
theorem lessB_le {q : QS} {a c : Int} : lessB q a c = false ↔ le q.sc c a := by rw [← Bool.not_eq_true, lessB_lt]; rfl

theorem swap_l {q : QS} {i k : Nat} (hi : i < q.L.length) (hk : k < q.L.length) (m : Nat) : (q.swap i k).l m = sw q.l i k m := by
  unfold QS.l QS.swap sw
  simp only
  by_cases hm : m < q.L.length
  · rw [getD_at (by simpa using hm), List.getElem_set]
    by_cases e : k = m
    · subst e
      rw [if_pos rfl]
      by_cases e2 : k = i
      · subst e2; simp [QS.l]
      · rw [if_neg e2, if_pos rfl]; rfl
    · rw [if_neg e, List.getElem_set]
      by_cases e2 : i = m
      · subst e2; rw [if_pos rfl, if_pos rfl]; rfl
      · rw [if_neg e2, if_neg (Ne.symm e2), if_neg (Ne.symm e), ← getD_at hm]
  · have e1 : m ≠ i := by omega
    have e2 : m ≠ k := by omega
    rw [if_neg e1, if_neg e2]
    simp [List.getD_eq_getElem?_getD, show q.L.length ≤ m by omega]

/-- Places are right: of the variables below N. -/
structure Pos (q : QS) : Prop where
  at_ : ∀ k, k < q.L.length → q.pi (q.l k) = k
  of : ∀ v : Int, 1 ≤ v → v < q.P.length → q.pi v = -1 ∨ (0 ≤ q.pi v ∧ q.pi v < q.L.length ∧ q.l (q.pi v).toNat = v)

theorem swap_pi {q : QS} (I : In q) {i k : Nat} (hi : i < q.L.length) (hk : k < q.L.length) {v : Int} (h1 : 1 ≤ v) (h2 : v < q.P.length) :
    (q.swap i k).pi v = if v = q.l i then (k : Int) else if v = q.l k then (i : Int) else q.pi v := by
  have a1 := I.l hi
  have a2 := I.l hk
  unfold QS.pi QS.swap
  simp only
  rw [getD_at (by simp; omega), List.getElem_set]
  by_cases e : v = q.l i
  · subst e; rw [if_pos rfl, if_pos rfl]
  · rw [if_neg (by omega), if_neg e, List.getElem_set]
    by_cases e2 : v = q.l k
    · subst e2; rw [if_pos rfl, if_pos rfl]
    · rw [if_neg (by omega), if_neg e2, ← getD_at (by omega)]

theorem swap_in {q : QS} (I : In q) {i k : Nat} (hi : i < q.L.length) (hk : k < q.L.length) : In (q.swap i k) := by
  have a1 := I.l hi
  have a2 := I.l hk
  refine ⟨by simp [QS.swap, I.ps], fun x hx => ?_, by simp only [QS.swap, List.length_set]; exact I.sz, by simp only [QS.swap, List.length_set]; exact I.ln⟩
  simp only [QS.swap, List.length_set] at hx ⊢
  rcases List.mem_or_eq_of_mem_set hx with hx | rfl
  · rcases List.mem_or_eq_of_mem_set hx with hx | rfl
    · exact I.v x hx
    · exact a2
  · exact a1

theorem swap_pos {q : QS} (I : In q) (p : Pos q) {i k : Nat} (hi : i < q.L.length) (hk : k < q.L.length) : Pos (q.swap i k) := by
  have inj : ∀ a c, a < q.L.length → c < q.L.length → q.l a = q.l c → a = c := fun a c ha hc e => by
    have := p.at_ a ha; have := p.at_ c hc; rw [e] at *; omega
  have hlen : (q.swap i k).L.length = q.L.length := by simp [QS.swap]
  have hpl : (q.swap i k).P.length = q.P.length := by simp [QS.swap]
  refine ⟨fun m hm => ?_, fun v h1 h2 => ?_⟩
  · rw [hlen] at hm
    rw [swap_l hi hk]
    have hl : 1 ≤ sw q.l i k m ∧ sw q.l i k m < q.P.length := by unfold sw; split; exact I.l hk; split; exact I.l hi; exact I.l hm
    rw [swap_pi I hi hk hl.1 hl.2]
    unfold sw
    by_cases e1 : m = i
    · subst e1
      simp only [if_true]
      by_cases e3 : q.l k = q.l m
      · rw [if_pos e3]; have := inj _ _ hk hm e3; omega
      · rw [if_neg e3]
    · by_cases e2 : m = k
      · subst e2
        rw [if_neg e1, if_pos rfl, if_pos rfl]
      · rw [if_neg e1, if_neg e2, if_neg (fun e => e1 (inj _ _ hm hi e)), if_neg (fun e => e2 (inj _ _ hm hk e))]
        exact p.at_ m hm
  · rw [hpl] at h2
    rw [hlen, swap_pi I hi hk h1 h2]
    by_cases e : v = q.l i
    · rw [if_pos e]
      refine .inr ⟨by omega, by omega, ?_⟩
      rw [swap_l hi hk, Int.toNat_natCast, sw_k, e]
    · rw [if_neg e]
      by_cases e2 : v = q.l k
      · rw [if_pos e2]
        refine .inr ⟨by omega, by omega, ?_⟩
        rw [swap_l hi hk, Int.toNat_natCast, sw_i, e2]
      · rw [if_neg e2]
        rcases p.of v h1 h2 with h | ⟨h3, h4, h5⟩
        · exact .inl h
        · refine .inr ⟨h3, h4, ?_⟩
          rw [swap_l hi hk, sw_o, h5]
          · intro e3; rw [e3] at h5; exact e h5.symm
          · intro e3; rw [e3] at h5; exact e2 h5.symm

/-- Who waits is not changed by a swap. -/
theorem swap_waits {q : QS} (I : In q) (p : Pos q) {i k : Nat} (hi : i < q.L.length) (hk : k < q.L.length) {v : Int} (h1 : 1 ≤ v) (h2 : v < q.P.length) : 0 ≤ (q.swap i k).pi v ↔ 0 ≤ q.pi v := by
  rw [swap_pi I hi hk h1 h2]
  split
  · rename_i e; rw [e, p.at_ i hi]; omega
  · split
    · rename_i e; rw [e, p.at_ k hk]; omega
    · rfl
end Go.Proofs.Ytnejnaoehcahbaa.q
