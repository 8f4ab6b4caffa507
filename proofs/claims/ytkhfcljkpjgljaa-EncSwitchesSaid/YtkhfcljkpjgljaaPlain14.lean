/-
  THE PLAIN LAW of switches: the relaxed clauses are the clauses, those of gates with one literal more. No program is run.
-/
import Derived.Test.YtkhfcljkpjgljaaEnc6
namespace Go.Proofs.Ytkhfcljkpjgljaa
open Go Go.Ae

/-- All clauses, each with the gate that it is of. -/
def gatB (c : Cir) (v f : Int) (i : Nat) : List (Option Nat × List Int) := (gatC (fun _ d => d) c v f i).map fun d => (some i, d)
def baseF (c : Cir) (f : Nat) : List (Option Nat × List Int) := (latCs c (nvars c) f c.lats.length).map (fun d => (none, d)) ++ (List.range c.gats.length).flatMap (gatB c (nvars c) f)
def baseC (c : Cir) (n : Nat) : List (Option Nat × List Int) := (none, [1]) :: (List.range n).flatMap (baseF c)
def withG (g : Nat → List Int → List Int) (p : Option Nat × List Int) : List Int := match p.1 with | none => p.2 | some i => g i p.2

theorem map_flat {α β γ : Type} (f : β → γ) (g : α → List β) (l : List α) : (l.flatMap g).map f = l.flatMap fun x => (g x).map f := by
  induction l with
  | nil => rfl
  | cons x l ih => simp [ih]

theorem allC_base (g : Nat → List Int → List Int) (c : Cir) (n : Nat) : allC g c n = (baseC c n).map (withG g) := by
  unfold allC baseC clsP
  rw [List.map_cons]
  congr 1
  rw [map_flat]
  congr 1
  funext f
  unfold baseF
  rw [List.map_append, List.map_map, map_flat]
  congr 1
  simp [Function.comp_def, withG]

/-- How many clauses are of a gate? -/
def cntG (i : Nat) (l : List (Option Nat × List Int)) : Nat := (l.filter fun p => p.1 == some i).length
theorem cntG_append (i : Nat) (l m : List (Option Nat × List Int)) : cntG i (l ++ m) = cntG i l + cntG i m := by simp [cntG]
theorem cntG_gatB (c : Cir) (v f : Int) (i j : Nat) : cntG i (gatB c v f j) = if j = i then 3 else 0 := by
  unfold cntG gatB gatC
  by_cases h : j = i <;> simp [h]
theorem cntG_range (c : Cir) (v f : Int) (i : Nat) : ∀ n, cntG i ((List.range n).flatMap (gatB c v f)) = if i < n then 3 else 0
  | 0 => by simp [cntG]
  | n + 1 => by
    have ih := cntG_range c v f i n
    rw [List.range_succ, List.flatMap_append, cntG_append, ih]
    simp only [List.flatMap_cons, List.flatMap_nil, List.append_nil, cntG_gatB]
    split <;> split <;> split <;> omega
theorem cntG_none (i : Nat) (l : List (List Int)) : cntG i (l.map fun d => (none, d)) = 0 := by
  unfold cntG
  rw [List.filter_map]
  simp [Function.comp_def]
theorem cntG_base {c : Cir} {i : Nat} (hi : i < c.gats.length) : ∀ n, cntG i (baseC c n) = 3 * n
  | 0 => by simp [cntG, baseC]
  | n + 1 => by
    have ih := cntG_base hi n
    have e : baseC c (n + 1) = baseC c n ++ baseF c n := by simp [baseC, List.range_succ]
    rw [e, cntG_append, ih]
    unfold baseF
    rw [cntG_append, cntG_none, cntG_range, if_pos hi]
    omega
/-- The gates told of are gates. -/
theorem base_gate {c : Cir} {n : Nat} {p : Option Nat × List Int} (hp : p ∈ baseC c n) {i : Nat} (hi : p.1 = some i) : i < c.gats.length := by
  unfold baseC at hp
  rcases List.mem_cons.1 hp with rfl | hp
  · cases hi
  · rw [List.mem_flatMap] at hp
    obtain ⟨f, _, hp⟩ := hp
    unfold baseF at hp
    rcases List.mem_append.1 hp with hp | hp
    · obtain ⟨d, _, rfl⟩ := List.mem_map.1 hp
      cases hi
    · rw [List.mem_flatMap] at hp
      obtain ⟨j, hj, hp⟩ := hp
      unfold gatB at hp
      obtain ⟨d, _, rfl⟩ := List.mem_map.1 hp
      cases hi
      exact List.mem_range.1 hj
theorem base_len (c : Cir) (n : Nat) (h1 : c.lats.length ≤ 16384) (h2 : c.gats.length ≤ 16384) : (baseC c n).length ≤ 1 + n * 100000 := by
  have e : (allC (fun _ d => d) c n).length = (baseC c n).length := by rw [allC_base, List.length_map]
  have := clsP_le (fun _ d => d) c n h1 h2
  rw [← e]
  unfold allC
  rw [List.length_cons]
  omega
theorem base_short {c : Cir} {n : Nat} {p : Option Nat × List Int} (hp : p ∈ baseC c n) : p.2.length ≤ 3 := by
  unfold baseC at hp
  rcases List.mem_cons.1 hp with rfl | hp
  · simp
  · rw [List.mem_flatMap] at hp
    obtain ⟨f, _, hp⟩ := hp
    unfold baseF at hp
    rcases List.mem_append.1 hp with hp | hp
    · obtain ⟨d, hd, rfl⟩ := List.mem_map.1 hp
      unfold latCs at hd
      rw [List.mem_flatMap] at hd
      obtain ⟨i, _, hd⟩ := hd
      unfold latC at hd
      split at hd
      · simp at hd; rcases hd with rfl | rfl <;> simp
      · split at hd
        · simp at hd; subst hd; simp
        · split at hd
          · simp at hd; subst hd; simp
          · cases hd
    · rw [List.mem_flatMap] at hp
      obtain ⟨j, hj, hp⟩ := hp
      unfold gatB gatC at hp
      simp at hp
      rcases hp with rfl | rfl | rfl <;> simp
end Go.Proofs.Ytkhfcljkpjgljaa
