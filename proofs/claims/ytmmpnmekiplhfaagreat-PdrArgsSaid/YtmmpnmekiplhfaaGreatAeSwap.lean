/-
  Operations of a region that may stand in either order: whichever comes first, the end is one.
-/
import Derived.Test.YtmmpnmekiplhfaaGreatAeComp
namespace Go.Ae
open Go

theorem Tr.putF_fuel {α : Type} : ∀ (f g : Nat) (t : Tr α) (i : Nat) (x : α), i < f → i < g → Tr.putF f t i x = Tr.putF g t i x := by
  intro f
  induction f with
  | zero => intro g t i x h; omega
  | succ f ih =>
    intro g t i x hf hg
    obtain ⟨g, rfl⟩ : ∃ m, g = m + 1 := ⟨g - 1, by omega⟩
    cases t <;> simp only [Tr.putF, Tr.cond_beq] <;> by_cases h0 : i = 0 <;> simp only [h0, if_true, if_false] <;>
      by_cases h1 : i % 2 = 1 <;> simp only [h1, if_true, if_false] <;>
      first
        | rw [ih g _ (i / 2) _ (by omega) (by omega)]
        | rw [ih g _ (i / 2 - 1) _ (by omega) (by omega)]
        | skip

theorem Tr.putF_comm {α : Type} : ∀ (f : Nat) (t : Tr α) (i j : Nat) (x y : α), i ≠ j → i < f → j < f →
    Tr.putF f (Tr.putF f t i x) j y = Tr.putF f (Tr.putF f t j y) i x := by
  intro f
  induction f with
  | zero => intro t i j x y _ h; omega
  | succ f ih =>
    intro t i j x y hne hi hj
    have hnil : ∀ i (x : α), Tr.putF (f + 1) (.nil : Tr α) i x = Tr.putF (f + 1) (.node .nil none .nil) i x := fun _ _ => rfl
    have key : ∀ (l : Tr α) (v : Option α) (r : Tr α), Tr.putF (f + 1) (Tr.putF (f + 1) (.node l v r) i x) j y = Tr.putF (f + 1) (Tr.putF (f + 1) (.node l v r) j y) i x := by
      intro l v r
      simp only [Tr.putF, Tr.cond_beq]
      by_cases h0 : i = 0
      · subst h0
        have hj0 : j ≠ 0 := Ne.symm hne
        by_cases h2 : j % 2 = 1 <;> simp [hj0, h2, Tr.putF, Tr.cond_beq]
      · by_cases g0 : j = 0
        · subst g0
          by_cases h1 : i % 2 = 1 <;> simp [h0, h1, Tr.putF, Tr.cond_beq]
        · by_cases h1 : i % 2 = 1 <;> by_cases h2 : j % 2 = 1 <;> simp [h0, g0, h1, h2, Tr.putF, Tr.cond_beq]
          · exact ih l (i / 2) (j / 2) x y (by omega) (by omega) (by omega)
          · exact ih r (i / 2 - 1) (j / 2 - 1) x y (by omega) (by omega) (by omega)
    cases t with
    | node l v r => exact key l v r
    | nil => rw [hnil, hnil]; exact key _ _ _

theorem Tr.put_comm {α : Type} (t : Tr α) {i j : Nat} (x y : α) (h : i ≠ j) : (t.put i x).put j y = (t.put j y).put i x := by
  unfold Tr.put
  have m1 : i < i + j + 1 := by omega
  have m2 : j < i + j + 1 := by omega
  rw [Tr.putF_fuel (i + 1) (i + j + 1) t i x (by omega) m1, Tr.putF_fuel (j + 1) (i + j + 1) _ j y (by omega) m2, Tr.putF_fuel (j + 1) (i + j + 1) t j y (by omega) m2,
    Tr.putF_fuel (i + 1) (i + j + 1) _ i x (by omega) m1]
  exact Tr.putF_comm _ t i j x y h m1 m2

theorem g_put' (T : Tm) (d : Nat) (v : Value) (i : Nat) : g (T.put d v) i = if i = d then v else g T i := by
  unfold g
  rw [Tr.get_put]
  by_cases e : i = d <;> simp [e]

theorem g_set (T : Tm) (d : Option Nat) (v : Value) (i : Nat) (h : d ≠ some i) : g (T.set d v) i = g T i := by
  cases d with
  | none => rfl
  | some d => simp only [Tm.set, g_put']; rw [if_neg (fun e => h (by rw [e]))]

theorem Tm.set_comm (T : Tm) {a b : Option Nat} (x y : Value) (h : ∀ d, a = some d → b ≠ some d) : (T.set a x).set b y = (T.set b y).set a x := by
  cases a with
  | none => rfl
  | some a =>
    cases b with
    | none => rfl
    | some b => exact Tr.put_comm T x y (fun e => h a rfl (by rw [e]))

section
variable {call : CallF} {ρ ρ' : Operand → Value} {h : H}

theorem evI_congr {i : I} (hρ : ∀ x ∈ i.opds, ρ x = ρ' x) : evI ρ h i = evI ρ' h i := by
  cases i <;> simp only [I.opds, List.mem_cons, or_false, forall_eq_or_imp, forall_eq, List.not_mem_nil] at hρ
  case mk zs ps =>
    have : parts' ρ ps = parts' ρ' ps := by
      unfold parts'
      exact List.map_congr_left fun p hp => by rw [hρ p.2.2 (List.mem_map.2 ⟨p, hp, rfl⟩)]
    simp only [evI, this]
  case mkSl zs n ps =>
    have : parts' ρ ps = parts' ρ' ps := by
      unfold parts'
      exact List.map_congr_left fun p hp => by rw [hρ p.2.2 (List.mem_map.2 ⟨p, hp, rfl⟩)]
    simp only [evI, this]
  case fn f a b =>
    have h1 : a.map ρ = a.map ρ' := List.map_congr_left fun x hx => hρ x (List.mem_append_left _ hx)
    have h2 : b.map ρ = b.map ρ' := List.map_congr_left fun x hx => hρ x (List.mem_append_right _ hx)
    simp only [evI, h1, h2]
  case slc sz x lo hi mx =>
    have h1 : lo.map ρ = lo.map ρ' := by cases lo <;> simp_all
    have h2 : hi.map ρ = hi.map ρ' := by cases hi <;> simp_all
    have h3 : mx.map ρ = mx.map ρ' := by cases mx <;> simp_all
    simp only [evI, h1, h2, h3, hρ.1]
  case mm b x xs =>
    have h1 : xs.map ρ = xs.map ρ' := List.map_congr_left fun x hx => hρ.2 x hx
    simp only [evI, h1, hρ.1]
  all_goals first
    | simp only [evI, hρ]
    | simp only [evI, hρ.1, hρ.2]
    | simp only [evI, hρ.1, hρ.2.1, hρ.2.2]
    | simp only [evI]

theorem evK_congr {k : K} (hρ : ∀ x ∈ k.opds, ρ x = ρ' x) : evK call ρ h k = evK call ρ' h k := by
  cases k with
  | op i => exact evI_congr hρ
  | call f xs =>
    have h1 : xs.map ρ = xs.map ρ' := List.map_congr_left fun x hx => hρ x hx
    simp only [evK, h1]
  | callv x xs =>
    have h1 : xs.map ρ = xs.map ρ' := List.map_congr_left fun x hx => hρ x (by simp [K.opds, hx])
    simp only [evK, h1, hρ x (by simp [K.opds])]
  | inv x em tab xs =>
    have h1 : xs.map ρ = xs.map ρ' := List.map_congr_left fun x hx => hρ x (by simp [K.opds, hx])
    simp only [evK, h1, hρ x (by simp [K.opds])]

theorem evK_quiet {k : K} (hq : k.quiet = true) : ∃ r : Option Value, ∀ h, evK call ρ h k = r.map fun v => (v, h) := by
  cases k with
  | op i =>
    refine ⟨(evI ρ ⟨.nil, fun _ => none, 0, .nil⟩ i).map (·.1), fun h => ?_⟩
    simp only [evK]
    cases i <;> simp only [K.quiet, Bool.false_eq_true] at hq <;> simp only [evI, Option.map_map, Function.comp_def, Option.map_some, Option.map_bind]
    all_goals first
      | rfl
      | (split <;> simp; done)
      | (split <;> (try split) <;> simp [Option.map_map, Function.comp_def]; done)
      | skip
  | _ => cases hq

theorem evK_alloc {k : K} (hq : k.alloc = true) : ∃ r : Option ((Nat → Value) × Blk), ∀ h, evK call ρ h k = r.map fun p => (p.1 h.next, h.new p.2) := by
  cases k with
  | op i =>
    cases i <;> simp only [K.alloc, Bool.false_eq_true] at hq
    case new zs => exact ⟨some (fun n => .pointer (some ⟨n, 0, none⟩), ⟨zs, false⟩), fun h => rfl⟩
    case box x =>
      by_cases hx : isTuple (ρ x) = true
      · exact ⟨none, fun h => by simp [evK, evI, hx]⟩
      · exact ⟨some (fun n => .pointer (some ⟨n, 0, none⟩), ⟨(ρ x).cells.toList, false⟩), fun h => by simp [evK, evI, hx]⟩
    case mkSl zs n ps =>
      exact ⟨(fill' zs (parts' ρ ps)).map fun cs => (fun k => .slice (some ⟨k, 0, none⟩) n n, ⟨cs, false⟩), fun h => by simp [evK, evI, Function.comp_def]⟩
    case mkS z bytes l c =>
      cases h1 : natOf (ρ l) with
      | none => exact ⟨none, fun h => by simp [evK, evI, h1]⟩
      | some l' =>
        cases h2 : natOf (ρ c) with
        | none => exact ⟨none, fun h => by simp [evK, evI, h1, h2]⟩
        | some c' =>
          by_cases hc : l' ≤ c' ∧ c' ≤ 2 ^ 48 ∧ bytes * c' ≤ 2 ^ 48
          · exact ⟨some (fun k => .slice (some ⟨k, 0, none⟩) l' c', ⟨reps c' z, false⟩), fun h => by simp only [evK, evI, h1, h2]; rw [if_pos hc]; rfl⟩
          · exact ⟨none, fun h => by simp only [evK, evI, h1, h2]; rw [if_neg hc]; rfl⟩
  | _ => cases hq
end
end Go.Ae
