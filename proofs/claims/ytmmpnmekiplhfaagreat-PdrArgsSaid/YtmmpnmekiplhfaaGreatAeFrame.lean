/-
  A block that nobody knows of changes nothing: what the evaluator answers, it answers with such a block beside, too.
-/
import Derived.Test.YtmmpnmekiplhfaaGreatAeSwap2
namespace Go.Ae
open Go

theorem at_get {h : H} {j i : Nat} {b : Blk} (hne : i ≠ j) : (h.at_ j b).get i = h.get i := by
  unfold H.get H.at_
  simp only [Tr.get_put]
  rw [if_neg hne]
theorem at_mget {h : H} {j i : Nat} {b : Blk} : (h.at_ j b).mget i = h.mget i := rfl
theorem at_next {h : H} {j : Nat} {b : Blk} : (h.at_ j b).next = h.next := rfl
theorem at_set {h : H} {i j : Nat} {o : Option Blk} {b : Blk} (hne : i ≠ j) : (h.at_ j b).set i o = (h.set i o).at_ j b := by
  unfold H.at_ H.set
  simp only [Tr.put_comm h.tr (some b) o (Ne.symm hne)]
theorem at_new {h : H} {j : Nat} {k b : Blk} (hlt : j < h.next) : (h.at_ j b).new k = (h.new k).at_ j b := by
  unfold H.at_ H.new
  have hne : j ≠ h.next := by omega
  simp only [Tr.put_comm h.tr (some b) (some k) hne]
theorem at_newMap {h : H} {j : Nat} {m : Mp} {b : Blk} : (h.at_ j b).newMap m = (h.newMap m).at_ j b := rfl
theorem at_setMap {h : H} {i j : Nat} {m : Mp} {b : Blk} : (h.at_ j b).setMap i m = (h.setMap i m).at_ j b := rfl

theorem at_ld {h : H} {j i o : Nat} {b : Blk} {v : Value} (hj : h.get j = none) (e : h.ld i o = some v) : (h.at_ j b).ld i o = some v := by
  unfold H.ld at e ⊢
  have hne : i ≠ j := by intro x; subst x; rw [hj] at e; cases e
  rw [at_get hne]; exact e
theorem at_lds {h : H} {j i o n : Nat} {b : Blk} {vs : List Value} (hj : h.get j = none) (e : h.lds i o n = some vs) : (h.at_ j b).lds i o n = some vs := by
  unfold H.lds at e ⊢
  have hne : i ≠ j := by intro x; subst x; rw [hj] at e; cases e
  rw [at_get hne]; exact e
theorem at_ldv {h : H} {j : Nat} {b : Blk} {n : Option Nat} {p : Nat × Nat} {v : Value} (hj : h.get j = none) (e : ldv h n p = some v) : ldv (h.at_ j b) n p = some v := by
  unfold ldv at e ⊢
  cases n with
  | none => exact at_ld hj e
  | some n =>
    simp only at e ⊢
    cases hl : h.lds p.1 p.2 n with
    | none => simp [hl] at e
    | some us => rw [at_lds hj hl]; simpa [hl] using e
theorem set_none' {h : H} {i j : Nat} {o : Option Blk} (hne : i ≠ j) (hj : h.get j = none) : (h.set i o).get j = none := by
  rw [H.get_set, if_neg (Ne.symm hne)]; exact hj
theorem new_none {h : H} {j : Nat} {k : Blk} (hlt : j < h.next) (hj : h.get j = none) : (h.new k).get j = none := by
  rw [H.get_new, if_neg (by omega)]; exact hj
theorem at_sts {h h' : H} {j i o : Nat} {b : Blk} {vs : List Value} (hj : h.get j = none) (e : h.sts i o vs = some h') : h'.get j = none ∧ h'.next = h.next ∧ (h.at_ j b).sts i o vs = some (h'.at_ j b) := by
  unfold H.sts at e ⊢
  have hne : i ≠ j := by intro x; subst x; rw [hj] at e; cases e
  rw [at_get hne]
  cases hk : h.get i with
  | none => simp [hk] at e
  | some k =>
    simp only [hk, Option.bind_some] at e ⊢
    split at e
    · rename_i hc
      cases e
      rw [if_pos hc]
      exact ⟨set_none' hne hj, rfl, by rw [at_set hne]⟩
    · cases e
theorem at_cells {h : H} {j sz n : Nat} {b : Blk} {x : Value} {cs : List Value} (hj : h.get j = none) (e : cellsOf h sz n x = some cs) : cellsOf (h.at_ j b) sz n x = some cs := by
  unfold cellsOf at e ⊢
  split at e
  · split at e
    · rename_i h0; simp only [if_pos h0]; exact e
    · rename_i h0; simp only [if_neg h0]; exact at_lds hj e
  · exact e
  · cases e

/-- What a step keeps. -/
def FrOk (f : H → Option (Value × H)) : Prop :=
  ∀ h v h' j b, f h = some (v, h') → h.get j = none → j < h.next → h'.get j = none ∧ h.next ≤ h'.next ∧ f (h.at_ j b) = some (v, h'.at_ j b)

theorem FrOk.pure {r : Option Value} : FrOk fun h => r.map fun v => (v, h) := by
  intro h v h' j b e hj hlt
  cases r with
  | none => cases e
  | some u => simp only [Option.map_some, Option.some.injEq, Prod.mk.injEq] at e; obtain ⟨rfl, rfl⟩ := e; exact ⟨hj, Nat.le_refl _, rfl⟩

theorem app_fr {sz bytes : Nat} {x y : Value} : FrOk fun h => app h sz bytes x y := by
  intro h v h' j b e hj hlt
  simp only [app] at e ⊢
  split at e
  case h_2 => cases e
  rename_i base len cap n hn
  split at e
  · rename_i h0
    rw [if_pos h0]
    split at e
    · rename_i h1; rw [if_pos h1]; cases e; exact ⟨hj, Nat.le_refl _, rfl⟩
    · cases e
  · rename_i h0
    rw [if_neg h0]
    cases hc : cellsOf h sz n y with
    | none => simp [hc] at e
    | some new =>
      rw [at_cells hj hc]
      simp only [hc, Option.bind_some] at e ⊢
      split at e
      · rename_i h1
        rw [if_pos h1]
        split at e
        · rename_i i o s
          cases hs : h.sts i (o + len * sz) new with
          | none => simp [hs] at e
          | some h1 =>
            obtain ⟨g1, g2, g3⟩ := at_sts (b := b) hj hs
            simp only [hs, Option.map_some, Option.some.injEq, Prod.mk.injEq] at e
            obtain ⟨rfl, rfl⟩ := e
            rw [g3]
            exact ⟨g1, Nat.le_of_eq g2.symm, rfl⟩
        · cases e
      · rename_i h1
        rw [if_neg h1]
        split at e
        · rename_i h2
          rw [if_pos h2]
          cases ho : cellsOf h sz len (.slice base len cap) with
          | none => simp [ho] at e
          | some old =>
            rw [at_cells hj ho]
            simp only [ho, Option.bind_some] at e ⊢
            split at e
            · rename_i i o s
              cases hk : h.get i with
              | none => simp [hk] at e
              | some k =>
                have hne : i ≠ j := by intro x; subst x; rw [hj] at hk; cases hk
                simp only [hk, Option.bind_some] at e
                split at e
                · rename_i hcnd
                  simp only [Option.some.injEq, Prod.mk.injEq] at e
                  obtain ⟨rfl, rfl⟩ := e
                  refine ⟨new_none (h := h.set i none) hlt (set_none' hne hj), Nat.le_succ _, ?_⟩
                  simp only [at_get hne, hk, Option.bind_some]
                  rw [if_pos hcnd, at_set hne, at_new (h := h.set i none) hlt]
                  rfl
                · cases e
            · rename_i hno
              simp only [Option.some.injEq, Prod.mk.injEq] at e
              obtain ⟨rfl, rfl⟩ := e
              refine ⟨new_none hlt hj, Nat.le_succ _, ?_⟩
              rw [at_new hlt]; rfl
        · cases e

theorem cpy_fr {sz : Nat} {x y : Value} : FrOk fun h => cpy h sz x y := by
  intro h v h' j b e hj hlt
  simp only [cpy] at e ⊢
  split at e
  case h_2 => cases e
  rename_i base d c m hn
  split at e
  · rename_i h0; rw [if_pos h0]; cases e; exact ⟨hj, Nat.le_refl _, rfl⟩
  · rename_i h0
    rw [if_neg h0]
    cases hc : cellsOf h sz (Nat.min m d) y with
    | none => simp [hc] at e
    | some new =>
      rw [at_cells hj hc]
      simp only [hc, Option.bind_some] at e ⊢
      split at e
      · rename_i i o s
        cases hs : h.sts i o new with
        | none => simp [hs] at e
        | some h1 =>
          obtain ⟨g1, g2, g3⟩ := at_sts (b := b) hj hs
          simp only [hs, Option.map_some, Option.some.injEq, Prod.mk.injEq] at e
          obtain ⟨rfl, rfl⟩ := e
          rw [g3]
          exact ⟨g1, Nat.le_of_eq g2.symm, rfl⟩
      · cases e

theorem mentry_fr {k : IntKind} {z m i : Value} : FrOk fun h => mentry h k z m i := by
  intro h v h' j b e hj hlt
  simp only [mentry] at e ⊢
  split at e
  · rename_i r k' n
    split at e
    · rename_i hk
      rw [if_pos hk]
      cases hm : h.mget r with
      | none => simp [hm] at e
      | some mp =>
        simp only [at_mget, hm, Option.bind_some] at e ⊢
        cases hf : mfind k n mp.es 0 with
        | none => simp [hf] at e
        | some o =>
          simp only [hf, Option.bind_some] at e ⊢
          cases o with
          | none =>
            simp only [Option.some.injEq, Prod.mk.injEq] at e ⊢
            obtain ⟨rfl, rfl⟩ := e
            exact ⟨hj, Nat.le_refl _, rfl, rfl⟩
          | some p =>
            obtain ⟨a, u⟩ := p
            simp only at e ⊢
            split at e
            · rename_i hp
              rw [if_pos hp]
              simp only [Option.some.injEq, Prod.mk.injEq] at e ⊢
              obtain ⟨rfl, rfl⟩ := e
              exact ⟨hj, Nat.le_refl _, rfl, rfl⟩
            · cases e
    · cases e
  · cases e

theorem mput_fr {h h' : H} {k : IntKind} {m i x : Value} {j : Nat} {b : Blk} (e : mput h k m i x = some h') (hj : h.get j = none) : h'.get j = none ∧ h.next ≤ h'.next ∧ mput (h.at_ j b) k m i x = some (h'.at_ j b) := by
  simp only [mput] at e ⊢
  split at e
  · rename_i r k' n
    split at e
    · rename_i hk
      rw [if_pos hk]
      cases hm : h.mget r with
      | none => simp [hm] at e
      | some mp =>
        simp only [at_mget, hm, Option.bind_some] at e ⊢
        cases hf : mfind k n mp.es 0 with
        | none => simp [hf] at e
        | some o =>
          simp only [hf, Option.map_some, Option.some.injEq] at e ⊢
          subst e
          cases o with
          | none => exact ⟨hj, Nat.le_refl _, rfl⟩
          | some p => exact ⟨hj, Nat.le_refl _, rfl⟩
    · cases e
  · cases e
theorem mstore_fr {h h' : H} {m s x : Value} {j : Nat} {b : Blk} (e : mstore h m s x = some h') (hj : h.get j = none) : h'.get j = none ∧ h.next ≤ h'.next ∧ mstore (h.at_ j b) m s x = some (h'.at_ j b) := by
  simp only [mstore] at e ⊢
  split at e
  · rename_i r k' n
    split at e
    · rename_i hk
      rw [if_pos hk]
      cases hm : h.mget r with
      | none => simp [hm] at e
      | some mp =>
        simp only [at_mget, hm, Option.bind_some] at e ⊢
        cases hf : mborn n mp.es 0 with
        | none => simp [hf] at e
        | some o =>
          simp only [hf, Option.map_some, Option.some.injEq] at e ⊢
          subst e
          exact ⟨hj, Nat.le_refl _, rfl⟩
    · cases e
  · cases e
theorem mlook_at {h : H} {k : IntKind} {z x i : Value} {j : Nat} {b : Blk} : mlook (h.at_ j b) k z x i = mlook h k z x i := by
  simp only [mlook, at_mget]

theorem evK_qfr {call : CallF} {ρ : Operand → Value} {k : K} (hq : k.quiet = true) : FrOk fun h => evK call ρ h k := by
  obtain ⟨r, hr⟩ := evK_quiet (call := call) (ρ := ρ) hq
  intro h v h' j b e hj hlt
  simp only [hr] at e ⊢
  exact FrOk.pure h v h' j b e hj hlt
theorem evK_afr {call : CallF} {ρ : Operand → Value} {k : K} (ha : k.alloc = true) : FrOk fun h => evK call ρ h k := by
  obtain ⟨r, hr⟩ := evK_alloc (call := call) (ρ := ρ) ha
  intro h v h' j b e hj hlt
  simp only [hr] at e ⊢
  cases r with
  | none => cases e
  | some p =>
    simp only [Option.map_some, Option.some.injEq, Prod.mk.injEq] at e
    obtain ⟨rfl, rfl⟩ := e
    refine ⟨new_none hlt hj, Nat.le_succ _, ?_⟩
    simp only [Option.map_some, at_new hlt, at_next]

def CallFr (call : CallF) : Prop := ∀ f xs, FrOk fun h => call f xs h

theorem evI_fr (ρ : Operand → Value) (i : I) : FrOk fun h => evI ρ h i := by
  by_cases hq : (K.op i).quiet = true
  · exact evK_qfr (call := fun _ _ _ => none) (ρ := ρ) hq
  by_cases ha : (K.op i).alloc = true
  · exact evK_afr (call := fun _ _ _ => none) (ρ := ρ) ha
  intro h v h' j b e hj hlt
  cases i <;> first | (exact absurd rfl hq) | (exact absurd rfl ha) | skip
  case ld n a =>
    simp only [evI] at e ⊢
    cases hp : adr (ρ a) with
    | none => simp [hp] at e
    | some p =>
      simp only [hp, Option.bind_some] at e ⊢
      cases n with
      | none =>
        simp only at e ⊢
        cases hl : h.ld p.1 p.2 with
        | none => simp [hl] at e
        | some u => rw [at_ld hj hl]; simp only [hl, Option.map_some, Option.some.injEq, Prod.mk.injEq] at e ⊢; obtain ⟨rfl, rfl⟩ := e; exact ⟨hj, Nat.le_refl _, rfl, rfl⟩
      | some n =>
        simp only at e ⊢
        cases hl : h.lds p.1 p.2 n with
        | none => simp [hl] at e
        | some u => rw [at_lds hj hl]; simp only [hl, Option.map_some, Option.some.injEq, Prod.mk.injEq] at e ⊢; obtain ⟨rfl, rfl⟩ := e; exact ⟨hj, Nat.le_refl _, rfl, rfl⟩
  case st n a x =>
    simp only [evI] at e ⊢
    cases hp : adr (ρ a) with
    | none => simp [hp] at e
    | some p =>
      simp only [hp, Option.bind_some] at e ⊢
      split at e
      · rename_i hc
        rw [if_pos hc]
        cases hs : h.sts p.1 p.2 (ρ x).cells.toList with
        | none => simp [hs] at e
        | some h1 =>
          obtain ⟨g1, g2, g3⟩ := at_sts (b := b) hj hs
          rw [g3]
          simp only [hs, Option.map_some, Option.some.injEq, Prod.mk.injEq] at e ⊢
          obtain ⟨rfl, rfl⟩ := e
          exact ⟨g1, Nat.le_of_eq g2.symm, rfl, rfl⟩
      · cases e
  case app sz bytes x y => exact app_fr h v h' j b e hj hlt
  case cpy sz x y => exact cpy_fr h v h' j b e hj hlt
  case clr z x =>
    simp only [evI] at e ⊢
    split at e
    · cases e; exact ⟨hj, Nat.le_refl _, rfl⟩
    · rename_i i o s n c he
      split at e
      · rename_i h0; simp only [if_pos h0]; cases e; exact ⟨hj, Nat.le_refl _, rfl⟩
      · rename_i h0
        simp only [if_neg h0]
        cases hs : h.sts i o (reps n z) with
        | none => simp [hs] at e
        | some h1 =>
          obtain ⟨g1, g2, g3⟩ := at_sts (b := b) hj hs
          rw [g3]
          simp only [hs, Option.map_some, Option.some.injEq, Prod.mk.injEq] at e ⊢
          obtain ⟨rfl, rfl⟩ := e
          exact ⟨g1, Nat.le_of_eq g2.symm, rfl, rfl⟩
    · cases e
  case str x =>
    simp only [evI] at e ⊢
    cases hn : lenOf (ρ x) with
    | none => simp [hn] at e
    | some n =>
      simp only [hn, Option.bind_some] at e ⊢
      cases hc : cellsOf h 1 n (ρ x) with
      | none => simp [hc] at e
      | some cs =>
        rw [at_cells hj hc]
        simp only [hc, Option.bind_some] at e ⊢
        cases hb : bytesOf cs with
        | none => simp [hb] at e
        | some l => simp only [hb, Option.map_some, Option.some.injEq, Prod.mk.injEq] at e ⊢; obtain ⟨rfl, rfl⟩ := e; exact ⟨hj, Nat.le_refl _, rfl, rfl⟩
  case mpn =>
    simp only [evI, Option.some.injEq, Prod.mk.injEq] at e ⊢
    obtain ⟨rfl, rfl⟩ := e
    exact ⟨hj, Nat.le_succ _, rfl, rfl⟩
  case mpl k z ok x i =>
    simp only [evI, mlook_at] at e ⊢
    cases hm : mlook h k z (ρ x) (ρ i) with
    | none => simp [hm] at e
    | some r => simp only [hm, Option.map_some, Option.some.injEq, Prod.mk.injEq] at e ⊢; obtain ⟨rfl, rfl⟩ := e; exact ⟨hj, Nat.le_refl _, rfl, rfl⟩
  case mpu k m i x =>
    simp only [evI] at e ⊢
    cases hm : mput h k (ρ m) (ρ i) (ρ x) with
    | none => simp [hm] at e
    | some h1 =>
      obtain ⟨g1, g2, g3⟩ := mput_fr (b := b) hm hj
      rw [g3]
      simp only [hm, Option.map_some, Option.some.injEq, Prod.mk.injEq] at e ⊢
      obtain ⟨rfl, rfl⟩ := e
      exact ⟨g1, g2, rfl, rfl⟩
  case mpe k z m i => exact mentry_fr h v h' j b e hj hlt
  case mps m s x =>
    simp only [evI] at e ⊢
    cases hm : mstore h (ρ m) (ρ s) (ρ x) with
    | none => simp [hm] at e
    | some h1 =>
      obtain ⟨g1, g2, g3⟩ := mstore_fr (b := b) hm hj
      rw [g3]
      simp only [hm, Option.map_some, Option.some.injEq, Prod.mk.injEq] at e ⊢
      obtain ⟨rfl, rfl⟩ := e
      exact ⟨g1, g2, rfl, rfl⟩

section
variable {call : CallF} (hc : CallFr call)
include hc

theorem evK_fr (ρ : Operand → Value) (k : K) : FrOk fun h => evK call ρ h k := by
  cases k with
  | op i => exact evI_fr ρ i
  | call f xs => exact hc f _
  | callv x xs =>
    intro h v h' j b e hj hlt
    simp only [evK] at e ⊢
    split at e
    · exact hc _ _ h v h' j b e hj hlt
    · cases e
  | inv x em tab xs =>
    intro h v h' j b e hj hlt
    simp only [evK] at e ⊢
    split at e
    · rename_i t u hx
      cases hf : findT tab t with
      | none => simp [hf] at e
      | some fm =>
        obtain ⟨f, m⟩ := fm
        simp only [hf, Option.bind_some] at e ⊢
        cases m with
        | none => exact hc _ _ h v h' j b e hj hlt
        | some n =>
          simp only at e ⊢
          cases ha : adr u with
          | none => simp [ha] at e
          | some p =>
            simp only [ha, Option.bind_some] at e ⊢
            cases n with
            | none =>
              simp only at e ⊢
              cases hl : h.ld p.1 p.2 with
              | none => simp [hl] at e
              | some u => rw [at_ld hj hl]; simp only [hl, Option.bind_some] at e ⊢; exact hc _ _ h v h' j b e hj hlt
            | some n =>
              simp only at e ⊢
              cases hl : h.lds p.1 p.2 n with
              | none => simp [hl] at e
              | some u => rw [at_lds hj hl]; simp only [hl, Option.bind_some] at e ⊢; exact hc _ _ h v h' j b e hj hlt
    · cases e

theorem evO_fr (o : O) (T : Tm) : FrOk fun h => evO call o T h := by
  intro h v h' j b e hj hlt
  simp only [evO] at e ⊢
  cases hd : dec T o.g with
  | none => simp [hd] at e
  | some t =>
    cases t with
    | false => simp only [hd, Option.some.injEq, Prod.mk.injEq] at e ⊢; obtain ⟨rfl, rfl⟩ := e; exact ⟨hj, Nat.le_refl _, rfl, rfl⟩
    | true => simp only [hd] at e ⊢; exact evK_fr hc _ _ h v h' j b e hj hlt

theorem evOs_fr : ∀ (os : List O) (T : Tm) (h : H) (T' : Tm) (h' : H) (j : Nat) (b : Blk), evOs call os T h = some (T', h') → h.get j = none → j < h.next →
    h'.get j = none ∧ h.next ≤ h'.next ∧ evOs call os T (h.at_ j b) = some (T', h'.at_ j b)
  | [], T, h, T', h', j, b, e, hj, hlt => by
    simp only [evOs, Option.some.injEq, Prod.mk.injEq] at e ⊢; obtain ⟨rfl, rfl⟩ := e; exact ⟨hj, Nat.le_refl _, rfl, rfl⟩
  | o :: os, T, h, T', h', j, b, e, hj, hlt => by
    simp only [evOs] at e ⊢
    cases ho : evO call o T h with
    | none => simp [ho] at e
    | some r =>
      obtain ⟨v, h1⟩ := r
      obtain ⟨g1, g2, g3⟩ := evO_fr hc o T h v h1 j b ho hj hlt
      have g3' : evO call o T (h.at_ j b) = some (v, h1.at_ j b) := g3
      rw [g3']
      simp only [ho, Option.bind_some] at e ⊢
      obtain ⟨k1, k2, k3⟩ := evOs_fr os _ h1 T' h' j b e g1 (by omega)
      exact ⟨k1, by omega, k3⟩

omit hc in
theorem chk_fr {T : Tm} {h : H} {j : Nat} {b : Blk} {c : Option Nat × Operand × Nat × Option (Nat × Bool)} (hj : h.get j = none) (e : chk T h c = true) : chk T (h.at_ j b) c = true := by
  unfold chk at e ⊢
  split at e
  · cases e
  · rfl
  · split at e
    · cases e
    · split at e
      · cases e
      · rename_i u hu
        rw [at_ldv hj hu]
        exact e

theorem run1_fr {base m : Nat} (d : DO) (ρ : Operand → Value) {h : H} {v : Value} {h' : H} {j : Nat} (b : Blk) (e : run1 call base m d ρ h = some (v, h')) (hj : h.get j = none) (hlt : j < h.next) (hb : ∀ q, d.q = some q → j < base + q) :
    h'.get j = none ∧ h.next ≤ h'.next ∧ run1 call base m d ρ (h.at_ j b) = some (v, h'.at_ j b) := by
  unfold run1 at e ⊢
  cases hq : d.q with
  | some q =>
    simp only [hq] at e ⊢
    cases hk : evK call ρ { h with next := base + q } d.o.k with
    | none => simp [hk] at e
    | some r =>
      obtain ⟨u, h1⟩ := r
      obtain ⟨g1, g2, g3⟩ := evK_fr hc ρ d.o.k { h with next := base + q } u h1 j b hk hj (by have := hb q hq; simp only; omega)
      simp only [hk, Option.map_some, Option.some.injEq, Prod.mk.injEq] at e
      obtain ⟨rfl, rfl⟩ := e
      have g3' : evK call ρ { (h.at_ j b) with next := base + q } d.o.k = some (u, h1.at_ j b) := g3
      refine ⟨g1, Nat.le_refl _, ?_⟩
      rw [show ({ tr := (h.at_ j b).tr, base := (h.at_ j b).base, next := base + q, mp := (h.at_ j b).mp } : H) = { (h.at_ j b) with next := base + q } from rfl, g3']
      rfl
  | none =>
    simp only [hq] at e ⊢
    cases hl : d.o.k.load with
    | none => simp only [hl] at e ⊢; exact evK_fr hc ρ d.o.k h v h' j b e hj hlt
    | some na =>
      simp only [hl] at e ⊢
      split at e
      · cases e
      · rename_i hk; rw [if_neg hk]; exact evK_fr hc ρ d.o.k h v h' j b e hj hlt

theorem evE_fr {base m : Nat} (d : DO) (T : Tm) {h : H} {v : Value} {h' : H} {j : Nat} (b : Blk) (e : evE call base m d T h = some (v, h')) (hj : h.get j = none) (hlt : j < h.next) (hb : ∀ q, d.q = some q → j < base + q) :
    h'.get j = none ∧ h.next ≤ h'.next ∧ evE call base m d T (h.at_ j b) = some (v, h'.at_ j b) := by
  unfold evE at e ⊢
  cases hd : dec T d.o.g with
  | none => simp [hd] at e
  | some t =>
    cases t with
    | false => simp only [hd, Option.some.injEq, Prod.mk.injEq] at e ⊢; obtain ⟨rfl, rfl⟩ := e; exact ⟨hj, Nat.le_refl _, rfl, rfl⟩
    | true => simp only [hd] at e ⊢; exact run1_fr hc d _ b e hj hlt hb

theorem evD_fr {base m : Nat} : ∀ (ds : List DO) (T : Tm) (h : H) (T' : Tm) (h' : H) (j : Nat) (b : Blk), evD call base m ds T h = some (T', h') → h.get j = none → j < h.next → j < base →
    h'.get j = none ∧ h.next ≤ h'.next ∧ evD call base m ds T (h.at_ j b) = some (T', h'.at_ j b)
  | [], T, h, T', h', j, b, e, hj, hlt, hb => by
    simp only [evD, Option.some.injEq, Prod.mk.injEq] at e ⊢; obtain ⟨rfl, rfl⟩ := e; exact ⟨hj, Nat.le_refl _, rfl, rfl⟩
  | d :: ds, T, h, T', h', j, b, e, hj, hlt, hb => by
    simp only [evD] at e ⊢
    cases ho : evE call base m d T h with
    | none => simp [ho] at e
    | some r =>
      obtain ⟨v, h1⟩ := r
      obtain ⟨g1, g2, g3⟩ := evE_fr hc d T b ho hj hlt (fun q _ => by omega)
      rw [g3]
      simp only [ho, Option.bind_some] at e ⊢
      split at e
      · rename_i hck
        have hck' : d.chks.all (chk (T.set d.o.dst v) (h1.at_ j b)) = true := by
          rw [List.all_eq_true] at hck ⊢
          exact fun c hcm => chk_fr g1 (hck c hcm)
        rw [if_pos hck']
        obtain ⟨k1, k2, k3⟩ := evD_fr ds _ h1 T' h' j b e g1 (by omega) hb
        exact ⟨k1, by omega, k3⟩
      · cases e

/-- A part of a code. -/
def FrC (f : Tm → H → Option (Ex × Tm × H)) : Prop :=
  ∀ T h e T' h' j b, f T h = some (e, T', h') → h.get j = none → j < h.next → h'.get j = none ∧ h.next ≤ h'.next ∧ f T (h.at_ j b) = some (e, T', h'.at_ j b)

omit hc in
theorem iter_fr {f : Tm → H → Option (Ex × Tm × H)} (hf : FrC f) : ∀ n, FrC (iter f n)
  | 0 => fun T h e T' h' j b ev _ _ => by cases ev
  | n + 1 => fun T h e T' h' j b ev hj hlt => by
    simp only [iter] at ev ⊢
    cases hr : f T h with
    | none => simp [hr] at ev
    | some r =>
      obtain ⟨e1, T1, h1⟩ := r
      obtain ⟨g1, g2, g3⟩ := hf T h e1 T1 h1 j b hr hj hlt
      rw [g3]
      simp only [hr, Option.bind_some] at ev ⊢
      cases e1 with
      | normal =>
        simp only at ev ⊢
        obtain ⟨k1, k2, k3⟩ := iter_fr hf n T1 h1 e T' h' j b ev g1 (by omega)
        exact ⟨k1, by omega, k3⟩
      | exit id => simp only [Option.some.injEq, Prod.mk.injEq] at ev ⊢; obtain ⟨rfl, rfl, rfl⟩ := ev; exact ⟨g1, g2, rfl, rfl, rfl⟩
      | ret => simp only [Option.some.injEq, Prod.mk.injEq] at ev ⊢; obtain ⟨rfl, rfl, rfl⟩ := ev; exact ⟨g1, g2, rfl, rfl, rfl⟩
      | goto l => simp only [Option.some.injEq, Prod.mk.injEq] at ev ⊢; obtain ⟨rfl, rfl, rfl⟩ := ev; exact ⟨g1, g2, rfl, rfl, rfl⟩

omit hc in
theorem jumps_fr {f : Tm → H → Option (Ex × Tm × H)} (hf : FrC f) (l : Nat) : ∀ n, FrC (jumps f l n)
  | 0 => fun T h e T' h' j b ev _ _ => by cases ev
  | n + 1 => fun T h e T' h' j b ev hj hlt => by
    simp only [jumps] at ev ⊢
    cases hr : f T h with
    | none => simp [hr] at ev
    | some r =>
      obtain ⟨e1, T1, h1⟩ := r
      obtain ⟨g1, g2, g3⟩ := hf T h e1 T1 h1 j b hr hj hlt
      rw [g3]
      simp only [hr, Option.bind_some] at ev ⊢
      cases e1 with
      | goto l' =>
        simp only at ev ⊢
        split at ev
        · rename_i hl
          rw [if_pos hl]
          obtain ⟨k1, k2, k3⟩ := jumps_fr hf l n T1 h1 e T' h' j b ev g1 (by omega)
          exact ⟨k1, by omega, k3⟩
        · cases ev
      | exit id => simp only [Option.some.injEq, Prod.mk.injEq] at ev ⊢; obtain ⟨rfl, rfl, rfl⟩ := ev; exact ⟨g1, g2, rfl, rfl, rfl⟩
      | ret => simp only [Option.some.injEq, Prod.mk.injEq] at ev ⊢; obtain ⟨rfl, rfl, rfl⟩ := ev; exact ⟨g1, g2, rfl, rfl, rfl⟩
      | normal => simp only [Option.some.injEq, Prod.mk.injEq] at ev ⊢; obtain ⟨rfl, rfl, rfl⟩ := ev; exact ⟨g1, g2, rfl, rfl, rfl⟩

theorem evC_fr (n : Nat) : ∀ c, FrC (evC call n c) := by
  intro c
  induction c with
  | skip => intro T h e T' h' j b ev hj hlt; simp only [evC, Option.some.injEq, Prod.mk.injEq] at ev ⊢; obtain ⟨rfl, rfl, rfl⟩ := ev; exact ⟨hj, Nat.le_refl _, rfl, rfl, rfl⟩
  | exit id => intro T h e T' h' j b ev hj hlt; simp only [evC, Option.some.injEq, Prod.mk.injEq] at ev ⊢; obtain ⟨rfl, rfl, rfl⟩ := ev; exact ⟨hj, Nat.le_refl _, rfl, rfl, rfl⟩
  | ret => intro T h e T' h' j b ev hj hlt; simp only [evC, Option.some.injEq, Prod.mk.injEq] at ev ⊢; obtain ⟨rfl, rfl, rfl⟩ := ev; exact ⟨hj, Nat.le_refl _, rfl, rfl, rfl⟩
  | label l => intro T h e T' h' j b ev hj hlt; simp only [evC, Option.some.injEq, Prod.mk.injEq] at ev ⊢; obtain ⟨rfl, rfl, rfl⟩ := ev; exact ⟨hj, Nat.le_refl _, rfl, rfl, rfl⟩
  | goto l => intro T h e T' h' j b ev hj hlt; simp only [evC, Option.some.injEq, Prod.mk.injEq] at ev ⊢; obtain ⟨rfl, rfl, rfl⟩ := ev; exact ⟨hj, Nat.le_refl _, rfl, rfl, rfl⟩
  | reg ops =>
    intro T h e T' h' j b ev hj hlt
    simp only [evC] at ev ⊢
    cases hr : evOs call ops T h with
    | none => simp [hr] at ev
    | some r =>
      obtain ⟨T1, h1⟩ := r
      obtain ⟨g1, g2, g3⟩ := evOs_fr hc ops T h T1 h1 j b hr hj hlt
      rw [g3]
      simp only [hr, Option.map_some, Option.some.injEq, Prod.mk.injEq] at ev ⊢
      obtain ⟨rfl, rfl, rfl⟩ := ev
      exact ⟨g1, g2, rfl, rfl, rfl⟩
  | regD m ops =>
    intro T h e T' h' j b ev hj hlt
    simp only [evC] at ev ⊢
    cases hr : evD call h.next m ops T { h with next := h.next + m } with
    | none => simp [hr] at ev
    | some r =>
      obtain ⟨T1, h1⟩ := r
      obtain ⟨g1, g2, g3⟩ := evD_fr hc ops T { h with next := h.next + m } T1 h1 j b hr hj (by simp only; omega) hlt
      have g3' : evD call (h.at_ j b).next m ops T { (h.at_ j b) with next := (h.at_ j b).next + m } = some (T1, h1.at_ j b) := g3
      rw [g3']
      simp only [hr, Option.map_some, Option.some.injEq, Prod.mk.injEq] at ev ⊢
      obtain ⟨rfl, rfl, rfl⟩ := ev
      exact ⟨g1, by simp only at g2; omega, rfl, rfl, rfl⟩
  | seq a c iha ihc =>
    intro T h e T' h' j b ev hj hlt
    simp only [evC] at ev ⊢
    cases hr : evC call n a T h with
    | none => simp [hr] at ev
    | some r =>
      obtain ⟨e1, T1, h1⟩ := r
      obtain ⟨g1, g2, g3⟩ := iha T h e1 T1 h1 j b hr hj hlt
      rw [g3]
      simp only [hr, Option.bind_some] at ev ⊢
      cases e1 with
      | normal =>
        simp only at ev ⊢
        obtain ⟨k1, k2, k3⟩ := ihc T1 h1 e T' h' j b ev g1 (by omega)
        exact ⟨k1, by omega, k3⟩
      | exit id => simp only [Option.some.injEq, Prod.mk.injEq] at ev ⊢; obtain ⟨rfl, rfl, rfl⟩ := ev; exact ⟨g1, g2, rfl, rfl, rfl⟩
      | ret => simp only [Option.some.injEq, Prod.mk.injEq] at ev ⊢; obtain ⟨rfl, rfl, rfl⟩ := ev; exact ⟨g1, g2, rfl, rfl, rfl⟩
      | goto l => simp only [Option.some.injEq, Prod.mk.injEq] at ev ⊢; obtain ⟨rfl, rfl, rfl⟩ := ev; exact ⟨g1, g2, rfl, rfl, rfl⟩
  | cond x a c iha ihc =>
    intro T h e T' h' j b ev hj hlt
    simp only [evC] at ev ⊢
    split at ev
    · exact iha T h e T' h' j b ev hj hlt
    · exact ihc T h e T' h' j b ev hj hlt
    · cases ev
  | block id a ih =>
    intro T h e T' h' j b ev hj hlt
    simp only [evC] at ev ⊢
    cases hr : evC call n a T h with
    | none => simp [hr] at ev
    | some r =>
      obtain ⟨e1, T1, h1⟩ := r
      obtain ⟨g1, g2, g3⟩ := ih T h e1 T1 h1 j b hr hj hlt
      rw [g3]
      simp only [hr, Option.map_some] at ev ⊢
      cases e1 with
      | exit id' =>
        simp only at ev ⊢
        by_cases hid : id' = id
        · rw [if_pos hid] at ev ⊢
          simp only [Option.some.injEq, Prod.mk.injEq] at ev ⊢; obtain ⟨rfl, rfl, rfl⟩ := ev; exact ⟨g1, g2, rfl, rfl, rfl⟩
        · rw [if_neg hid] at ev ⊢
          simp only [Option.some.injEq, Prod.mk.injEq] at ev ⊢; obtain ⟨rfl, rfl, rfl⟩ := ev; exact ⟨g1, g2, rfl, rfl, rfl⟩
      | normal => simp only [Option.some.injEq, Prod.mk.injEq] at ev ⊢; obtain ⟨rfl, rfl, rfl⟩ := ev; exact ⟨g1, g2, rfl, rfl, rfl⟩
      | ret => simp only [Option.some.injEq, Prod.mk.injEq] at ev ⊢; obtain ⟨rfl, rfl, rfl⟩ := ev; exact ⟨g1, g2, rfl, rfl, rfl⟩
      | goto l => simp only [Option.some.injEq, Prod.mk.injEq] at ev ⊢; obtain ⟨rfl, rfl, rfl⟩ := ev; exact ⟨g1, g2, rfl, rfl, rfl⟩
  | loop a ih =>
    intro T h e T' h' j b ev hj hlt
    simp only [evC] at ev ⊢
    exact iter_fr ih n T h e T' h' j b ev hj hlt
  | scope l a c iha ihc =>
    intro T h e T' h' j b ev hj hlt
    simp only [evC] at ev ⊢
    cases hr : evC call n a T h with
    | none => simp [hr] at ev
    | some r =>
      obtain ⟨e1, T1, h1⟩ := r
      obtain ⟨g1, g2, g3⟩ := iha T h e1 T1 h1 j b hr hj hlt
      rw [g3]
      simp only [hr, Option.bind_some] at ev ⊢
      cases e1 with
      | goto l' =>
        simp only at ev ⊢
        split at ev
        · rename_i hl
          rw [if_pos hl]
          obtain ⟨k1, k2, k3⟩ := jumps_fr ihc l n T1 h1 e T' h' j b ev g1 (by omega)
          exact ⟨k1, by omega, k3⟩
        · cases ev
      | exit id => simp only [Option.some.injEq, Prod.mk.injEq] at ev ⊢; obtain ⟨rfl, rfl, rfl⟩ := ev; exact ⟨g1, g2, rfl, rfl, rfl⟩
      | ret => simp only [Option.some.injEq, Prod.mk.injEq] at ev ⊢; obtain ⟨rfl, rfl, rfl⟩ := ev; exact ⟨g1, g2, rfl, rfl, rfl⟩
      | normal => simp only [Option.some.injEq, Prod.mk.injEq] at ev ⊢; obtain ⟨rfl, rfl, rfl⟩ := ev; exact ⟨g1, g2, rfl, rfl, rfl⟩
end

section
variable {call : CallF} {base m n0 : Nat}

/-- Two that may change places. -/
theorem swap {a b : DO} {T : Tm} {h h1 h2 : H} {va vb : Value} (hf : free a b = true) (hsa : soleOk m n0 a = true) (hsb : soleOk m n0 b = true)
    (hq : ∀ x y, a.q = some x → b.q = some y → x ≠ y) (ea : evE call base m a T h = some (va, h1)) (eb : evE call base m b (T.set a.o.dst va) h1 = some (vb, h2))
    (hfr : CallFr call) (hnone : ∀ y, b.q = some y → h.get (base + y) = none ∧ base + y < h.next)
    (hc : ∀ c ∈ b.chks, hasChk b a = true → (∀ t ∈ cTmps c, t ∈ a.o.names ∨ a.o.dst = some t) → chk (T.set a.o.dst va) h2 c = true) :
    ∃ h1', evE call base m b T h = some (vb, h1') ∧ evE call base m a (T.set b.o.dst vb) h1' = some (va, h2) ∧
      (T.set a.o.dst va).set b.o.dst vb = (T.set b.o.dst vb).set a.o.dst va := by
  unfold free at hf
  simp only [Bool.and_eq_true] at hf
  obtain ⟨hap, hkind⟩ := hf
  obtain ⟨s1, s2⟩ := apart_spec hap
  have hTb : ∀ t ∈ b.o.names, g (T.set a.o.dst va) t = g T t := fun t ht => g_set _ _ _ _ (fun e => (s1 t e).1 ht)
  have hTa : ∀ t ∈ a.o.names, g (T.set b.o.dst vb) t = g T t := fun t ht => g_set _ _ _ _ (fun e => s2 t e ht)
  rw [evE_congr hTb] at eb
  have hcomm := Tm.set_comm T va vb (fun d hd => (s1 d hd).2)
  simp only [evE_congr (h := _) hTa]
  unfold soleOk at hsa hsb
  simp only [Bool.and_eq_true] at hsa hsb
  have qa : a.o.k.alloc = false → a.q = none := by
    intro e
    cases hx : a.q with
    | none => rfl
    | some q => have := hsa.1.2; rw [hx] at this; simp [e] at this
  have qb : b.o.k.alloc = false → b.q = none := by
    intro e
    cases hx : b.q with
    | none => rfl
    | some q => have := hsb.1.2; rw [hx] at this; simp [e] at this
  have qa' : a.o.k.alloc = true → ∃ q, a.q = some q ∧ q < m := by
    intro e
    cases hx : a.q with
    | none => have := hsa.1.2; rw [hx] at this; simp [e] at this
    | some q => have := hsa.1.2; rw [hx] at this; simp [e] at this; exact ⟨q, rfl, this⟩
  have qb' : b.o.k.alloc = true → ∃ q, b.q = some q ∧ q < m := by
    intro e
    cases hx : b.q with
    | none => have := hsb.1.2; rw [hx] at this; simp [e] at this
    | some q => have := hsb.1.2; rw [hx] at this; simp [e] at this; exact ⟨q, rfl, this⟩
  have quiet_alloc : ∀ k : K, k.quiet = true → k.alloc = false := by
    intro k hk
    cases k with
    | op i => cases i <;> simp [K.quiet, K.alloc] at hk ⊢
    | _ => rfl
  have load_alloc : ∀ k : K, k.load.isSome = true → k.alloc = false := by
    intro k hk
    cases k with
    | op i => cases i <;> simp [K.load, K.alloc] at hk ⊢
    | _ => rfl
  -- a quiet
  have caseA : a.o.k.quiet = true → ∃ h1', evE call base m b T h = some (vb, h1') ∧ evE call base m a T h1' = some (va, h2) := by
    intro hqa
    obtain ⟨r, hr⟩ := evE_quiet (call := call) (base := base) (m := m) hqa (qa (quiet_alloc _ hqa)) T
    rw [hr] at ea
    cases r with
    | none => simp at ea
    | some v =>
      simp only [Option.map_some, Option.some.injEq, Prod.mk.injEq] at ea
      obtain ⟨rfl, rfl⟩ := ea
      exact ⟨h2, eb, by rw [hr]; rfl⟩
  have caseB : b.o.k.quiet = true → ∃ h1', evE call base m b T h = some (vb, h1') ∧ evE call base m a T h1' = some (va, h2) := by
    intro hqb
    obtain ⟨r, hr⟩ := evE_quiet (call := call) (base := base) (m := m) hqb (qb (quiet_alloc _ hqb)) T
    rw [hr] at eb
    cases r with
    | none => simp at eb
    | some v =>
      simp only [Option.map_some, Option.some.injEq, Prod.mk.injEq] at eb
      obtain ⟨rfl, rfl⟩ := eb
      exact ⟨h, by rw [hr]; rfl, ea⟩
  suffices hmain : ∃ h1', evE call base m b T h = some (vb, h1') ∧ evE call base m a T h1' = some (va, h2) by
    obtain ⟨h1', g1, g2⟩ := hmain
    exact ⟨h1', g1, g2, hcomm⟩
  simp only [Bool.or_eq_true, Bool.and_eq_true, mild, Bool.not_eq_true', Bool.or_eq_false_iff] at hkind
  rcases hkind with ((⟨hqb, _⟩ | ⟨hlb, hma⟩) | ⟨hnb, hqa | ⟨hla, hchk⟩⟩) | ⟨⟨hab, hna⟩, _⟩
  rotate_right
  · -- a acts, b lays a block
    obtain ⟨y, hy, hym⟩ := qb' hab
    obtain ⟨n1, n2⟩ := hnone y hy
    obtain ⟨s, hs⟩ := evE_alloc (call := call) (base := base) (m := m) hy hab T
    rw [hs] at eb
    cases s with
    | none => simp at eb
    | some p2 =>
      obtain ⟨pv2, pb2⟩ := p2
      simp only [Option.map_some, Option.some.injEq, Prod.mk.injEq] at eb
      obtain ⟨rfl, rfl⟩ := eb
      cases pb2 with
      | none => exact ⟨h, by rw [hs]; rfl, ea⟩
      | some bl2 =>
        have haq := qa hna.1.2
        obtain ⟨_, _, g3⟩ := evE_fr hfr a T bl2 ea n1 n2 (fun q hq => by rw [haq] at hq; cases hq)
        exact ⟨h.at_ (base + y) bl2, by rw [hs]; rfl, g3⟩
  · exact caseB hqb
  · -- b loads or lays a block; a is mild
    rcases hma with (hqa | haa) | hla
    · exact caseA hqa
    · -- a lays a block
      obtain ⟨x, hx, hxm⟩ := qa' haa
      obtain ⟨r, hr⟩ := evE_alloc (call := call) (base := base) (m := m) hx haa T
      rw [hr] at ea
      cases r with
      | none => simp at ea
      | some p =>
        obtain ⟨pv, pb⟩ := p
        simp only [Option.map_some, Option.some.injEq, Prod.mk.injEq] at ea
        obtain ⟨rfl, rfl⟩ := ea
        cases pb with
        | none => exact ⟨h2, eb, by rw [hr]; rfl⟩
        | some bl =>
          simp only at eb
          rcases hlb with hlb | hab
          · obtain ⟨na, hna⟩ := Option.isSome_iff_exists.1 hlb
            obtain ⟨n, ad⟩ := na
            rcases evE_load (call := call) (base := base) (m := m) (qb (load_alloc _ hlb)) hna T with ⟨_, hE⟩ | ⟨_, p, _, hnk, hE⟩ | hE
            · rw [hE] at eb
              simp only [Option.some.injEq, Prod.mk.injEq] at eb
              obtain ⟨rfl, rfl⟩ := eb
              exact ⟨h, hE h, by rw [hr]; rfl⟩
            · rw [hE, ldv_at (by omega)] at eb
              cases hl : ldv h n p with
              | none => rw [hl] at eb; simp at eb
              | some u =>
                rw [hl] at eb
                simp only [Option.map_some, Option.some.injEq, Prod.mk.injEq] at eb
                obtain ⟨rfl, rfl⟩ := eb
                exact ⟨h, by rw [hE, hl]; rfl, by rw [hr]; rfl⟩
            · rw [hE] at eb; cases eb
          · obtain ⟨y, hy, hym⟩ := qb' hab
            obtain ⟨s, hs⟩ := evE_alloc (call := call) (base := base) (m := m) hy hab T
            rw [hs] at eb
            cases s with
            | none => simp at eb
            | some p2 =>
              obtain ⟨pv2, pb2⟩ := p2
              simp only [Option.map_some, Option.some.injEq, Prod.mk.injEq] at eb
              obtain ⟨rfl, rfl⟩ := eb
              cases pb2 with
              | none => exact ⟨h, by rw [hs]; rfl, by rw [hr]; rfl⟩
              | some bl2 =>
                refine ⟨h.at_ (base + y) bl2, by rw [hs]; rfl, ?_⟩
                rw [hr]
                simp only [Option.map_some, Option.some.injEq, Prod.mk.injEq, true_and]
                have := hq x y hx hy
                exact at_comm bl2 bl (by omega)
    · -- a loads
      obtain ⟨na, hna⟩ := Option.isSome_iff_exists.1 hla
      obtain ⟨n, ad⟩ := na
      rcases evE_load (call := call) (base := base) (m := m) (qa (load_alloc _ hla)) hna T with ⟨_, hE⟩ | ⟨_, p, _, hnk, hE⟩ | hE
      · rw [hE] at ea
        simp only [Option.some.injEq, Prod.mk.injEq] at ea
        obtain ⟨rfl, rfl⟩ := ea
        exact ⟨h2, eb, hE h2⟩
      · rw [hE] at ea
        cases hl : ldv h n p with
        | none => rw [hl] at ea; simp at ea
        | some u =>
          rw [hl] at ea
          simp only [Option.map_some, Option.some.injEq, Prod.mk.injEq] at ea
          obtain ⟨rfl, rfl⟩ := ea
          rcases hlb with hlb | hab
          · obtain ⟨nb, hnb⟩ := Option.isSome_iff_exists.1 hlb
            obtain ⟨n', ad'⟩ := nb
            rcases evE_load (call := call) (base := base) (m := m) (qb (load_alloc _ hlb)) hnb T with ⟨_, hE'⟩ | ⟨_, p', _, hnk', hE'⟩ | hE'
            · rw [hE'] at eb
              simp only [Option.some.injEq, Prod.mk.injEq] at eb
              obtain ⟨rfl, rfl⟩ := eb
              exact ⟨h, hE' h, by rw [hE, hl]; rfl⟩
            · rw [hE'] at eb
              cases hl' : ldv h n' p' with
              | none => rw [hl'] at eb; simp at eb
              | some u' =>
                rw [hl'] at eb
                simp only [Option.map_some, Option.some.injEq, Prod.mk.injEq] at eb
                obtain ⟨rfl, rfl⟩ := eb
                exact ⟨h, by rw [hE', hl']; rfl, by rw [hE, hl]; rfl⟩
            · rw [hE'] at eb; cases eb
          · obtain ⟨y, hy, hym⟩ := qb' hab
            obtain ⟨s, hs⟩ := evE_alloc (call := call) (base := base) (m := m) hy hab T
            rw [hs] at eb
            cases s with
            | none => simp at eb
            | some p2 =>
              obtain ⟨pv2, pb2⟩ := p2
              simp only [Option.map_some, Option.some.injEq, Prod.mk.injEq] at eb
              obtain ⟨rfl, rfl⟩ := eb
              cases pb2 with
              | none => exact ⟨h, by rw [hs]; rfl, by rw [hE, hl]; rfl⟩
              | some bl2 => exact ⟨h.at_ (base + y) bl2, by rw [hs]; rfl, by rw [hE, ldv_at (by omega), hl]; rfl⟩
      · rw [hE] at ea; cases ea
  · exact caseA hqa
  · -- a loads, b acts: what a found is still there
    obtain ⟨na, hna⟩ := Option.isSome_iff_exists.1 hla
    obtain ⟨n, ad⟩ := na
    rcases evE_load (call := call) (base := base) (m := m) (qa (load_alloc _ hla)) hna T with ⟨_, hE⟩ | ⟨hdt, p, hap', hnk, hE⟩ | hE
    · rw [hE] at ea
      simp only [Option.some.injEq, Prod.mk.injEq] at ea
      obtain ⟨rfl, rfl⟩ := ea
      exact ⟨h2, eb, hE h2⟩
    · rw [hE] at ea
      cases hl : ldv h n p with
      | none => rw [hl] at ea; simp at ea
      | some u =>
        rw [hl] at ea
        simp only [Option.map_some, Option.some.injEq, Prod.mk.injEq] at ea
        obtain ⟨rfl, rfl⟩ := ea
        refine ⟨h2, eb, ?_⟩
        have hchk0 := hchk
        unfold hasChk at hchk
        rw [hna] at hchk
        cases hd : a.o.dst with
        | none => rw [hd] at hchk; simp at hchk
        | some d =>
          rw [hd] at hchk
          simp only [List.any_eq_true, Bool.and_eq_true, beq_iff_eq] at hchk
          obtain ⟨c, hcm, ⟨⟨hcn, hca⟩, hcd⟩, hcg⟩ := hchk
          have hadn : ∀ t, ad = .tmp t → t ∈ a.o.names := fun t ht => names_opd (x := ad) (by rw [load_opds hna]; simp [K.opds, I.opds]) ht
          have hca' : ∃ t, c.2.1 = .tmp t ∧ ad = .tmp t := by
            cases hcc : c.2.1 <;> cases had : ad <;> simp [opdEq, hcc, had] at hca
            subst hca
            exact ⟨_, rfl, rfl⟩
          obtain ⟨t, hct, hat⟩ := hca'
          have hall := hc c hcm hchk0 (fun s hs => by
            unfold cTmps at hs
            simp only [List.mem_cons, List.mem_append] at hs
            rcases hs with rfl | hs | hs
            · right; rw [hd, hcd]
            · rw [hct] at hs
              simp [tmpOf] at hs
              subst hs
              left; exact hadn _ hat
            · left
              rw [hcg] at hs
              unfold O.names
              exact List.mem_append_right _ hs)
          have hself : d ∉ a.o.names := by
            have := hsa.1.1.1
            unfold selfOk at this
            rw [hna, hd] at this
            simpa using this
          have hkeep : ∀ t ∈ a.o.names, g (T.set (some d) u) t = g T t := fun t ht => g_set _ _ _ _ (fun e => by cases e; exact hself ht)
          unfold chk at hall
          have hdec : dec (T.set (some d) u) a.o.g = some true := by
            rw [← hdt]
            exact dec_congr fun e w hg => hkeep e (by unfold O.names; rw [hg]; simp)
          have hrho : rho (T.set (some d) u) c.2.1 = rho T ad := by
            rw [hct, hat]
            exact hkeep t (hadn t hat)
          rw [hcg, hd, hdec] at hall
          simp only [hrho, hap', hcn, hcd] at hall
          rw [hE]
          cases hl2 : ldv h2 n p with
          | none => rw [hl2] at hall; cases hall
          | some u2 =>
            rw [hl2] at hall
            simp only at hall
            have h5 := veqa_eq hall
            have h6 : g (T.set (some d) u) d = u := by simp [Tm.set, g_put']
            rw [h6] at h5
            rw [h5]
            rfl
    · rw [hE] at ea; cases ea

/-- A number that is kept for a block stays free as long as that block is not laid. -/
theorem evE_none (hfr : CallFr call) {a : DO} (hs : soleOk m n0 a = true) {T : Tm} {h h1 : H} {va : Value} (ea : evE call base m a T h = some (va, h1)) {j : Nat} (hj : h.get j = none) (hlt : j < h.next)
    (hne : ∀ x, a.q = some x → base + x ≠ j) : h1.get j = none ∧ h.next ≤ h1.next := by
  cases hq : a.q with
  | none =>
    obtain ⟨g1, g2, _⟩ := evE_fr hfr a T ⟨[], true⟩ ea hj hlt (fun q e => by rw [hq] at e; cases e)
    exact ⟨g1, g2⟩
  | some x =>
    have hal : a.o.k.alloc = true := by
      unfold soleOk at hs
      simp only [Bool.and_eq_true] at hs
      have := hs.1.2
      rw [hq] at this
      simp only [Bool.and_eq_true] at this
      exact this.1
    obtain ⟨r, hr⟩ := evE_alloc (call := call) (base := base) (m := m) hq hal T
    rw [hr] at ea
    cases r with
    | none => cases ea
    | some p =>
      obtain ⟨pv, pb⟩ := p
      simp only [Option.map_some, Option.some.injEq, Prod.mk.injEq] at ea
      obtain ⟨rfl, rfl⟩ := ea
      cases pb with
      | none => exact ⟨hj, Nat.le_refl _⟩
      | some bl =>
        refine ⟨?_, Nat.le_refl _⟩
        show (h.at_ (base + x) bl).get j = none
        rw [at_get (Ne.symm (hne x hq))]
        exact hj
end

theorem evR_fr {T : Tm} {h : H} {j : Nat} {b : Blk} {r : Rs} {v : Value} (hj : h.get j = none) (e : evR T h r = some v) : evR T (h.at_ j b) r = some v := by
  unfold evR at e ⊢
  split at e
  · exact e
  · rename_i t n
    cases ha : adr (g T t) with
    | none => simp [ha] at e
    | some p =>
      simp only [ha, Option.bind_some] at e ⊢
      cases n with
      | none => exact at_ld hj e
      | some n =>
        simp only at e ⊢
        cases hl : h.lds p.1 p.2 n with
        | none => simp [hl] at e
        | some u => rw [at_lds hj hl]; simpa [hl] using e
theorem evRs_fr {T : Tm} {h : H} {j : Nat} {b : Blk} (hj : h.get j = none) : ∀ {rs : List Rs} {vs : List Value}, evRs T h rs = some vs → evRs T (h.at_ j b) rs = some vs
  | [], _, e => e
  | r :: rs, vs, e => by
    simp only [evRs] at e ⊢
    cases hr : evR T h r with
    | none => simp [hr] at e
    | some v =>
      rw [evR_fr hj hr]
      simp only [hr, Option.bind_some] at e ⊢
      cases hrs : evRs T h rs with
      | none => simp [hrs] at e
      | some us => rw [evRs_fr hj hrs]; simpa [hrs] using e

/-- Contracts that do not see a block beside. -/
structure SpecFr (spec : CallF) : Prop where
  fr : CallFr spec
  no : ∀ f xs h j b, spec f xs h = none → spec f xs (h.at_ j b) = none

theorem evFn_fr {E : Env} (hs : SpecFr E.spec) : ∀ n, CallFr (evFn E n)
  | 0 => fun f xs h v h' j b e => by cases e
  | n + 1 => fun f xs h v h' j b e hj hlt => by
    simp only [evFn] at e ⊢
    cases hsp : E.spec f xs h with
    | some r =>
      obtain ⟨u, h1⟩ := r
      simp only [hsp, Option.some.injEq, Prod.mk.injEq] at e
      obtain ⟨rfl, rfl⟩ := e
      obtain ⟨g1, g2, g3⟩ := hs.fr f xs h u h1 j b hsp hj hlt
      simp only [g3]
      exact ⟨g1, g2, trivial⟩
    | none =>
      simp only [hsp, hs.no f xs h j b hsp] at e ⊢
      cases hf : E.fns f with
      | none => simp [hf] at e
      | some fn =>
        simp only [hf, Option.bind_some] at e ⊢
        cases hr : evC (evFn E n) n fn.code (Tm.of xs 0 .nil) h with
        | none => simp [hr] at e
        | some r =>
          obtain ⟨e1, T1, h1⟩ := r
          obtain ⟨g1, g2, g3⟩ := evC_fr (evFn_fr hs n) n fn.code _ h e1 T1 h1 j b hr hj hlt
          rw [g3]
          simp only [hr, Option.bind_some] at e ⊢
          have fin : (evRs T1 h1 fn.res).map (fun vs => (one vs, h1)) = some (v, h') → h'.get j = none ∧ h.next ≤ h'.next ∧ (evRs T1 (h1.at_ j b) fn.res).map (fun vs => (one vs, h1.at_ j b)) = some (v, h'.at_ j b) := by
            intro e
            cases hrs : evRs T1 h1 fn.res with
            | none => simp [hrs] at e
            | some vs =>
              rw [evRs_fr g1 hrs]
              simp only [hrs, Option.map_some, Option.some.injEq, Prod.mk.injEq] at e ⊢
              obtain ⟨rfl, rfl⟩ := e
              exact ⟨g1, g2, rfl, rfl⟩
          cases e1 with
          | exit id => cases e
          | goto l => cases e
          | normal => exact fin e
          | ret => exact fin e
end Go.Ae
