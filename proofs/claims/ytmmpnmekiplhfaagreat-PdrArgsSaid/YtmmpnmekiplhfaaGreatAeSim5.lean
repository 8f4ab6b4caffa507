/-
  append does in the machine what the evaluator says of it (the law); make, a slice literal, clear.
-/
import Derived.Test.YtmmpnmekiplhfaaGreatAeSim4
namespace Go.Ae
open Go

variable {P : Program} {φ : Emb} {h : H} {w : World}

theorem VR.slice_inv {φ : Emb} {a : Option Addr} {n c : Nat} {v : Value} (hv : VR φ (.slice a n c) v) :
    ∃ a' c', v = .slice a' n c' ∧ c ≤ c' ∧ (a = none → a' = none ∧ c' = c) ∧ (∀ i o s, a = some ⟨i, o, s⟩ → 0 < c' → ∃ l, φ i = some l ∧ a' = some ⟨l.blk, l.base + o, none⟩) ∧
      (∀ i o, a = some ⟨i, o, none⟩ → c' = c ∧ ∃ l, φ i = some l ∧ a' = some ⟨l.blk, l.base + o, none⟩) ∧
      (∀ i o s, a = some ⟨i, o, some s⟩ → n ≤ c ∧ ∃ l, φ i = some l ∧ l.base + o + c' * s ≤ l.size) := by
  cases hv with
  | sl0 n c => exact ⟨none, c, rfl, Nat.le_refl _, fun _ => ⟨rfl, rfl⟩, (fun i o s hx => by cases hx), (fun i o hx => by cases hx), (fun i o s hx => by cases hx)⟩
  | sl hl =>
    exact ⟨_, c, rfl, Nat.le_refl _, (fun hx => by cases hx), (fun i o s hx _ => by cases hx; exact ⟨_, hl, rfl⟩), (fun i o hx => by cases hx; exact ⟨rfl, _, hl, rfl⟩), (fun i o s hx => by cases hx)⟩
  | slx hl hn hc ha hs =>
    refine ⟨_, _, rfl, hc, (fun hx => by cases hx), (fun i o s hx hp => ?_), (fun i o hx => by cases hx), (fun i o s hx => ?_)⟩
    · cases hx
      rcases ha with h0 | rfl
      · omega
      · exact ⟨_, hl, rfl⟩
    · cases hx
      exact ⟨hn, _, hl, hs⟩

theorem lenOf_inv {y y' : Value} {n : Nat} (e : lenOf y = some n) (hy : VR φ y y') : ∃ a c a' c', y = .slice a n c ∧ y' = .slice a' n c' := by
  unfold lenOf at e
  split at e
  · cases e
    obtain ⟨a', c', rfl, _⟩ := hy.slice_inv
    exact ⟨_, _, _, _, rfl, rfl⟩
  · cases e

theorem append_room {t u e e2 : TypeId} {i : TypeInfo} {a : Option Addr} {len cap n : Nat} {y' : Value} {new' : Array Value} (ty : TypeId)
    (hu : P.underlying t = some (.slice e)) (hu2 : P.underlying u = some (.slice e2)) (hi : P.info? e = some i)
    (hln : (Builtin.lenOf y').run P w = .ok n w) (hle : len + n ≤ cap)
    (hnew : (Builtin.firstCells i.size n y').run P w = .ok new' w) :
    (Builtin.append_ #[t, u] ty #[.slice a len cap, y']).run P w =
      match a with
      | some a => ((storeCells (a.add (len * i.size)) new'.toList).run P w).andThen fun _ w' => .ok (.slice (some a) (len + n) cap) w'
      | none => .ok (.slice none (len + n) cap) w := by
  cases a <;> simp [Builtin.append_, run_under hu, run_under hu2, sizeOf, typeInfo, hi, hln, hle, hnew]

theorem lenOf_run (a : Option Addr) (n c : Nat) : (Builtin.lenOf (.slice a n c)).run P w = .ok n w := rfl

theorem Sim.drew (S : Sim φ h w) : Sim φ h w.drew := S.heap rfl
theorem Fr.drew (φ : Emb) (h : H) (w : World) : Fr φ h w φ h w.drew := Fr.drawn φ h w _

/-- A grown slice: a new block. -/
theorem grown_rel (S : Sim φ h w) (hf : φ h.next = none) {e : TypeId} {old new : List Value} {old' new' rest : Array Value} {sz len n cap' : Nat} (hold : VRs φ old old'.toList) (hnew : VRs φ new new'.toList)
    (hle : len + n ≤ cap') (hs : (old' ++ new' ++ rest).size = cap' * sz) :
    ∃ φ', Sim φ' (h.new ⟨old ++ new, false⟩) (w.drew.alloc (.cells (old' ++ new' ++ rest) e)) ∧
      VR φ' (.slice (some ⟨h.next, 0, some sz⟩) (len + n) (len + n)) (.slice (some ⟨w.heap.size, 0, none⟩) (len + n) cap') ∧
      Fr φ h w φ' (h.new ⟨old ++ new, false⟩) (w.drew.alloc (.cells (old' ++ new' ++ rest) e)) := by
  have h1 := hold.1
  have h2 := hnew.1
  have hvs : VRs φ (old ++ new) ((old' ++ new' ++ rest).toList.take (old ++ new).length) := by
    have : (old' ++ new' ++ rest).toList.take (old ++ new).length = old'.toList ++ new'.toList := by
      rw [Array.toList_append, Array.toList_append, List.take_append_of_le_length (by simp at h1 h2 ⊢; omega), List.take_of_length_le (by simp at h1 h2 ⊢; omega)]
    rw [this]
    exact hold.append hnew
  obtain ⟨S', F⟩ := S.drew.alloc hf (old ++ new) (old' ++ new' ++ rest) e (by simp at h1 h2 ⊢; omega) hvs
  refine ⟨_, S', ?_, (Fr.drew φ h w).trans F⟩
  refine .slx (l := ⟨w.heap.size, 0, (old' ++ new' ++ rest).size⟩) (Emb.add_self _ _ _) (Nat.le_refl _) hle (.inr rfl) ?_
  simp only [Nat.zero_add, Nat.add_zero]
  rw [hs]
  exact Nat.le_refl _

theorem app_run (S : Sim φ h w) (hf : φ h.next = none) {t u e e2 : TypeId} {i : TypeInfo} {z x x' y y' v : Value} {h' : H} (ty : TypeId) (hu : P.underlying t = some (.slice e)) (hu2 : P.underlying u = some (.slice e2))
    (hi : P.info? e = some i) (hz : i.zero = some z) (hzs : z.cells.size = i.size) (hb : 0 < i.bytes) (_hp : 0 < i.size) (hx : VR φ x x') (hy : VR φ y y')
    (ev : app h i.size i.bytes x y = some (v, h')) :
    ∃ φ' w' v', (Builtin.append_ #[t, u] ty #[x', y']).run P w = .ok v' w' ∧ Sim φ' h' w' ∧ VR φ' v v' ∧ Fr φ h w φ' h' w' := by
  unfold app at ev
  split at ev
  case h_2 => cases ev
  rename_i base len cap n hlen
  obtain ⟨ya, yc, ya', yc', rfl, rfl⟩ := lenOf_inv hlen hy
  obtain ⟨a', cap', rfl, hcc, hnone, hpos, hex, hinx⟩ := hx.slice_inv
  have hln : (Builtin.lenOf (.slice ya' n yc')).run P w = .ok n w := rfl
  by_cases h0 : n = 0
  · subst h0
    rw [if_pos rfl] at ev
    split at ev
    · rename_i hle
      cases ev
      have hfc : (Builtin.firstCells i.size 0 (.slice ya' 0 yc')).run P w = .ok #[] w := by cases ya' <;> simp [Builtin.firstCells, loadCells, loadCellsFrom]
      refine ⟨φ, w, .slice a' len cap', ?_, S, hx, .refl φ h w⟩
      rw [append_room (i := i) ty hu hu2 hi hln (by omega) hfc]
      cases a' <;> simp [storeCells]
    · cases ev
  rw [if_neg h0] at ev
  cases hnew : cellsOf h i.size n (.slice ya n yc) with
  | none => rw [hnew] at ev; cases ev
  | some new =>
    simp only [hnew, Option.bind_some] at ev
    obtain ⟨new', hnr, hnv, hns⟩ := firstCells_run (P := P) S hy (fun m hm => by simp [lenOf] at hm; omega) hnew
    obtain ⟨new2, hnr2, hnv2, hns2⟩ := firstCells_run (P := P) S.drew hy (fun m hm => by simp [lenOf] at hm; omega) hnew
    by_cases hle : len + n ≤ cap
    · rw [if_pos hle] at ev
      split at ev
      · rename_i ii o s
        cases hst : h.sts ii (o + len * i.size) new with
        | none => rw [hst] at ev; cases ev
        | some h1 =>
          simp only [hst, Option.map_some, Option.some.injEq, Prod.mk.injEq] at ev
          obtain ⟨rfl, rfl⟩ := ev
          obtain ⟨l, hl, rfl⟩ := hpos ii o s rfl (by omega)
          obtain ⟨w', r, S', F⟩ := S.sts hst hl hnv P
          refine ⟨φ, w', .slice (some ⟨l.blk, l.base + o, none⟩) (len + n) cap', ?_, S', ?_, F⟩
          · rw [append_room (i := i) ty hu hu2 hi hln (by omega) hnr]
            simp only [add_off]
            rw [Nat.add_assoc, r]
            rfl
          · cases s with
            | none =>
              obtain ⟨rfl, _⟩ := hex ii o rfl
              exact .sl hl
            | some s =>
              obtain ⟨_, l2, hl2, hs⟩ := hinx ii o s rfl
              rw [hl] at hl2; cases hl2
              exact .slx hl hle hcc (.inr rfl) hs
      · cases ev
    · rw [if_neg hle] at ev
      split at ev
      case isFalse => cases ev
      rename_i hfit
      cases hold : cellsOf h i.size len (.slice base len cap) with
      | none => rw [hold] at ev; cases ev
      | some old =>
        simp only [hold, Option.bind_some] at ev
        obtain ⟨old', hor, hov, hos⟩ := firstCells_run (P := P) S hx (fun m hm => by simp [lenOf] at hm; omega) hold
        obtain ⟨old2, hor2, hov2, hos2⟩ := firstCells_run (P := P) S.drew hx (fun m hm => by simp [lenOf] at hm; omega) hold
        have grows : cap' < len + n → ∃ φ' w' v', (Builtin.append_ #[t, u] ty #[.slice a' len cap', .slice ya' n yc']).run P w = .ok v' w' ∧
            Sim φ' (h.new ⟨old ++ new, false⟩) w' ∧ VR φ' (.slice (some ⟨h.next, 0, some i.size⟩) (len + n) (len + n)) v' ∧ Fr φ h w φ' (h.new ⟨old ++ new, false⟩) w' := by
          intro hgt
          obtain ⟨rest, c2, hc2, hsz, hr⟩ := append_grows ty hu hu2 hi hz hzs hb hln hgt hfit hor2 hnr2 hos2 hns2
          obtain ⟨φ', S', hv', F⟩ := grown_rel (e := e) S hf hov2 hnv2 hc2 hsz
          exact ⟨φ', _, _, hr, S', hv', F⟩
        split at ev
        · rename_i ii o s
          cases hk : h.get ii with
          | none => rw [hk] at ev; cases ev
          | some k =>
            simp only [hk, Option.bind_some] at ev
            split at ev
            · rename_i hc
              obtain ⟨hro, rfl, hone⟩ := hc
              cases ev
              by_cases hgt : cap' < len + n
              · obtain ⟨rest, c2, hc2, hsz, hr⟩ := append_grows ty hu hu2 hi hz hzs hb hln hgt hfit hor2 hnr2 hos2 hns2
                obtain ⟨φ', S', hv', F⟩ := grown_rel (e := e) (S.kill ii) hf hov2 hnv2 hc2 hsz
                exact ⟨φ', _, _, hr, S', hv', (Fr.kill φ h w ii).trans F⟩
              · obtain ⟨l, hl, rfl⟩ := hpos ii o _ rfl (by omega)
                obtain ⟨_, l2, hl2, hs⟩ := hinx ii o _ rfl
                rw [hl] at hl2; cases hl2
                obtain ⟨l3, hl3, c, ct, fz, hc, hcs, hcb, hct, hcv⟩ := S.bears ii k hk
                rw [hl] at hl3; cases hl3
                have hmul : (len + n) * i.size ≤ cap' * i.size := Nat.mul_le_mul_right _ (by omega)
                rw [Nat.add_mul] at hmul
                have hone' : ∀ v ∈ new'.toList, v.oneCell' = true := by
                  intro v hv
                  obtain ⟨j, hj⟩ := List.getElem?_of_mem hv
                  have hjl : j < new.length := by
                    have := (List.getElem?_eq_some_iff.1 hj).1
                    have := hnv.1
                    omega
                  have hj2 : new[j]? = some new[j] := by simp [hjl]
                  refine (hnv.2 j _ v hj2 hj).one ?_
                  rw [List.all_eq_true] at hone
                  exact hone _ (List.getElem_mem hjl)
                obtain ⟨w', c', r, g1, g2, g3, g4, g5, g6, g7, g8, g9⟩ := raw_stores P new'.toList w l.blk (l.base + o + len * i.size) 0 c ct fz hc (hct hro) (by simp; omega) hone'
                have holdc : ∀ j v, old[j]? = some v → ∃ v', c[l.base + o + j]? = some v' ∧ VR φ v v' := by
                  intro j v hj
                  have hjl := (List.getElem?_eq_some_iff.1 hj).1
                  have hov1 := hov.1
                  have hol : old'.toList.length = len * i.size := by simpa using hos
                  have hcl : ∀ j, j < len * i.size → c[l.base + o + j]? = old'[j]? := by
                    intro j hj
                    unfold cellsOf at hold
                    simp only at hold
                    rw [if_neg (by intro e0; rw [e0] at hj; omega)] at hold
                    obtain ⟨vs', hvl, hvc, hvr⟩ := S.lds hold hl
                    have := loadCells_run (P := P) (w := w) l.blk (l.base + o) (len * i.size) 0 #[] vs' hvl (by simpa using hvc)
                    simp only [Builtin.firstCells, loadCells, this] at hor
                    cases hor
                    have := hvc j hj
                    rw [cell?_of_heap hc] at this
                    simpa using this
                  refine ⟨old'[j]'(by omega), ?_, hov.2 j v _ hj (by simp)⟩
                  rw [hcl j (by omega)]
                  simp
                obtain ⟨S', F⟩ := S.moved hf hk hro hl g1 (by rw [g2]; exact hcs) g3 (old ++ new) o (by
                    have e1 : old.length = len * i.size := by have := hov.1; simpa [hos] using this
                    have e2 : new.length = n * i.size := by have := hnv.1; simpa [hns] using this
                    rw [List.length_append, e1, e2]; omega) (by
                    intro j v hj
                    have e1 : old.length = len * i.size := by have := hov.1; simpa [hos] using this
                    have e2 : new.length = n * i.size := by have := hnv.1; simpa [hns] using this
                    rw [List.getElem?_append] at hj
                    rw [g4]
                    by_cases hjo : j < old.length
                    · rw [if_pos hjo] at hj
                      rw [if_neg (by omega)]
                      exact holdc j v hj
                    · rw [if_neg hjo] at hj
                      have hjl := (List.getElem?_eq_some_iff.1 hj).1
                      have hlen' : new'.toList.length = n * i.size := by simpa using hns
                      rw [if_pos (by omega)]
                      have hidx : l.base + o + j - (l.base + o + len * i.size + 0) = j - old.length := by omega
                      rw [hidx]
                      have hlt : j - old.length < new'.toList.length := by omega
                      exact ⟨new'.toList[j - old.length], by rw [List.getElem?_eq_getElem hlt], hnv.2 _ v _ hj (by rw [List.getElem?_eq_getElem hlt])⟩) g5 g6 g7 g8 g9
                refine ⟨_, w', .slice (some ⟨l.blk, l.base + o, none⟩) (len + n) cap', ?_, S', ?_, F⟩
                · rw [append_room (i := i) ty hu hu2 hi hln (by omega) hnr]
                  simp only [add_off]
                  rw [r]
                  rfl
                · exact .slx (l := ⟨l.blk, l.base + o, l.size⟩) (Emb.add_self _ _ _) (Nat.le_refl _) (by omega) (.inr rfl) (by simpa using hs)
            · cases ev
        · rename_i hnx
          cases ev
          refine grows ?_
          cases base with
          | none => obtain ⟨_, rfl⟩ := hnone rfl; omega
          | some a =>
            obtain ⟨ii, o, s⟩ := a
            cases s with
            | none => obtain ⟨rfl, _⟩ := hex ii o rfl; omega
            | some s => exact absurd rfl (hnx ii o s)
end Go.Ae
