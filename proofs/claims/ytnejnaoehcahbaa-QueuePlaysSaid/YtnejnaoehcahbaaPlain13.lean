/-
  THE PLAIN LAW of what must hold: literals, models, and lists of literals that each model says. No program.
-/
import Derived.KernelRfl
namespace Go.Ae.Sat13

/-- Does a literal hold, of an assignment of the variables? -/
def litT (a : Int → Bool) (x : Int) : Bool := if x < 0 then !a (-x) else a x
theorem litT_neg {a : Int → Bool} {x : Int} (h : x ≠ 0) : litT a (-x) = !litT a x := by
  unfold litT
  by_cases h1 : x < 0
  · rw [if_neg (by omega), if_pos h1]; simp
  · rw [if_pos (by omega), if_neg h1]; simp

/-- Clauses and given literals all hold. -/
def Sat (lss : List (List Int)) (gs : List Int) (a : Int → Bool) : Prop := (∀ c ∈ lss, ∃ x ∈ c, litT a x = true) ∧ ∀ x ∈ gs, litT a x = true

def lit (vars x : Int) : Prop := x ≠ 0 ∧ x ≤ vars ∧ -vars ≤ x

structure Good (lss : List (List Int)) (gs : List Int) (vars : Int) (ms : List Int) : Prop where
  lit : ∀ x ∈ ms, lit vars x
  nod : ms.Nodup
  con : ∀ x ∈ ms, -x ∉ ms
  ent : ∀ a, Sat lss gs a → ∀ x ∈ ms, litT a x = true

theorem Good.nil (lss : List (List Int)) (gs : List Int) (vars : Int) : Good lss gs vars [] := ⟨by simp, List.nodup_nil, by simp, by simp⟩

theorem Good.cons {lss : List (List Int)} {gs : List Int} {vars y : Int} {ms ms' : List Int} (G : Good lss gs vars ms) (hl : Sat13.lit vars y) (h1 : y ∉ ms) (h2 : -y ∉ ms) (he : ∀ a, Sat lss gs a → litT a y = true) (hp : ms'.Perm (y :: ms)) : Good lss gs vars ms' where
  lit := fun x hx => by
    rcases List.mem_cons.1 (hp.mem_iff.1 hx) with rfl | hx
    · exact hl
    · exact G.lit x hx
  nod := hp.nodup_iff.2 (List.nodup_cons.2 ⟨h1, G.nod⟩)
  con := fun x hx hn => by
    have hx := List.mem_cons.1 (hp.mem_iff.1 hx)
    have hn := List.mem_cons.1 (hp.mem_iff.1 hn)
    rcases hx with rfl | hx
    · rcases hn with e | hn
      · have := hl.1; omega
      · exact h2 hn
    · rcases hn with e | hn
      · exact h2 (by rw [← e]; simpa using hx)
      · exact G.con x hx hn
  ent := fun a ha x hx => by
    rcases List.mem_cons.1 (hp.mem_iff.1 hx) with rfl | hx
    · exact he a ha
    · exact G.ent a ha x hx

/-- What a clause says where all its other literals are denied. -/
theorem Good.unit {lss : List (List Int)} {gs : List Int} {vars y : Int} {ms : List Int} (G : Good lss gs vars ms) {c : List Int} (hc : c ∈ lss) (hall : ∀ x ∈ c, x = y ∨ -x ∈ ms) (hlit : ∀ x ∈ c, x ≠ 0) (a : Int → Bool) (ha : Sat lss gs a) : litT a y = true := by
  obtain ⟨x, hx, ht⟩ := ha.1 c hc
  rcases hall x hx with rfl | hn
  · exact ht
  · have := G.ent a ha _ hn
    rw [litT_neg (hlit x hx), ht] at this
    cases this

theorem Good.none {lss : List (List Int)} {gs : List Int} {vars : Int} {ms : List Int} (G : Good lss gs vars ms) {c : List Int} (hc : c ∈ lss) (hall : ∀ x ∈ c, -x ∈ ms) (hlit : ∀ x ∈ c, x ≠ 0) (a : Int → Bool) : ¬ Sat lss gs a := by
  intro ha
  obtain ⟨x, hx, ht⟩ := ha.1 c hc
  have := G.ent a ha _ (hall x hx)
  rw [litT_neg (hlit x hx), ht] at this
  cases this

theorem nodup_lt : ∀ (n : Nat) (l : List Nat), l.Nodup → (∀ x ∈ l, x < n) → l.length ≤ n := by
  intro n
  induction n with
  | zero => intro l _ h; cases l with | nil => simp | cons x l => exact absurd (h x (by simp)) (by omega)
  | succ n ih =>
    intro l hn h
    by_cases hm : n ∈ l
    · have h1 := ih (l.erase n) (hn.erase n) fun x hx => by
        have h2 := h x (List.mem_of_mem_erase hx)
        have h3 : x ≠ n := fun e => by subst e; exact (hn.not_mem_erase) hx
        omega
      rw [List.length_erase_of_mem hm] at h1
      omega
    · have := ih l hn fun x hx => by
        have h2 := h x hx
        have h3 : x ≠ n := fun e => by subst e; exact hm hx
        omega
      omega

theorem nodup_sub : ∀ (l l' : List Int), l.Nodup → (∀ x ∈ l, x ∈ l') → l.length ≤ l'.length
  | [], _, _, _ => Nat.zero_le _
  | x :: l, l', hn, h => by
    rw [List.nodup_cons] at hn
    have hx := h x (by simp)
    have := nodup_sub l (l'.erase x) hn.2 fun y hy => (List.mem_erase_of_ne (fun e => hn.1 (by rw [← e]; exact hy))).2 (h y (by simp [hy]))
    rw [List.length_erase_of_mem hx] at this
    have := List.length_pos_of_mem hx
    simp only [List.length_cons]
    omega

theorem Good.len {lss : List (List Int)} {gs : List Int} {vars : Int} {ms : List Int} (G : Good lss gs vars ms) (hv : 0 ≤ vars) : ms.length ≤ vars.toNat := by
  have h1 : (ms.map fun x => x.natAbs - 1).Nodup := by
    have := G.nod
    have hc := G.con
    have hl := G.lit
    clear G
    induction ms with
    | nil => simp
    | cons x ms ih =>
      rw [List.nodup_cons] at this
      rw [List.map_cons, List.nodup_cons]
      refine ⟨fun hm => ?_, ih this.2 (fun y hy hn => hc y (by simp [hy]) (by simp [hn])) (fun y hy => hl y (by simp [hy]))⟩
      obtain ⟨y, hy, e⟩ := List.mem_map.1 hm
      have h1 := (hl x (by simp)).1
      have h2 := (hl y (by simp [hy])).1
      have : y = x ∨ y = -x := by omega
      rcases this with rfl | rfl
      · exact this.1 hy
      · exact hc x (by simp) (by simp [hy])
  have := nodup_lt vars.toNat _ h1 fun x hx => by
    obtain ⟨y, hy, rfl⟩ := List.mem_map.1 hx
    have := G.lit y hy
    unfold Sat13.lit at this
    omega
  simpa using this

/-- Where each variable is told, and no clause is denied as a whole, there is a model. -/
theorem Good.model {lss : List (List Int)} {gs : List Int} {vars : Int} {ms : List Int} (G : Good lss gs vars ms) (hg : ∀ x ∈ gs, x ∈ ms) (hf : ∀ v, 1 ≤ v → v ≤ vars → v ∈ ms ∨ -v ∈ ms) (hl : ∀ c ∈ lss, ∀ x ∈ c, Sat13.lit vars x)
    (hc : ∀ c ∈ lss, ∃ x ∈ c, -x ∉ ms) : ∃ a, Sat lss gs a := by
  have key : ∀ x ∈ ms, litT (fun v => decide (v ∈ ms)) x = true := fun x hx => by
    have h0 := G.lit x hx
    unfold litT
    split
    · have := G.con x hx
      simp [this]
    · simp [hx]
  refine ⟨fun v => decide (v ∈ ms), fun c hcl => ?_, fun x hx => key x (hg x hx)⟩
  obtain ⟨x, hx, hn⟩ := hc c hcl
  refine ⟨x, hx, key x ?_⟩
  have hx' := hl c hcl x hx
  unfold Sat13.lit at hx'
  by_cases h : 0 < x
  · exact (hf x (by omega) hx'.2.1).resolve_right hn
  · have := hf (-x) (by omega) (by omega)
    rw [Int.neg_neg] at this
    exact this.resolve_left hn
end Go.Ae.Sat13
