/-
  append does in the machine what the evaluator says of it.
-/
import Derived.Test.YtmmpnmekiplhfaaGreatAeSim3
namespace Go.Ae
open Go

variable {P : Program} {φ : Emb} {h : H} {w : World}

/-- Stores into a row of which nothing is known but that it is there and may be written. -/
theorem raw_stores (P : Program) : ∀ (vs : List Value) (w : World) (b o j : Nat) (c : Array Value) (e : TypeId) (fz : Nat × Nat), w.heap[b]? = some (.cells c e fz) → thawed c fz →
    o + j + vs.length ≤ c.size → (∀ v ∈ vs, v.oneCell' = true) →
    ∃ w' c', (storeCells ⟨b, o, none⟩ vs j).run P w = .ok () w' ∧ w'.heap[b]? = some (.cells c' e fz) ∧ c'.size = c.size ∧ thawed c' fz ∧
      (∀ x, c'[x]? = if o + j ≤ x ∧ x < o + j + vs.length then vs[x - (o + j)]? else c[x]?) ∧
      (∀ b', b' ≠ b → w'.heap[b']? = w.heap[b']?) ∧ w'.os = w.os ∧ w'.tape = w.tape ∧ w'.output = w.output ∧ w'.heap.size = w.heap.size := by
  intro vs
  induction vs with
  | nil =>
    intro w b o j c e fz hc ht _ _
    refine ⟨w, c, by simp [storeCells], hc, rfl, ht, fun x => ?_, fun _ _ => rfl, rfl, rfl, rfl, rfl⟩
    rw [if_neg (by simp)]
  | cons v vs ih =>
    intro w b o j c e fz hc ht hl h1
    simp only [List.length_cons] at hl
    have hlt : o + j < c.size := by omega
    have hst : (Go.store ⟨b, o + j, none⟩ v .plain).run P w = .ok () (w.setCell ⟨b, o + j, none⟩ v) := by
      rw [run_store P w _ v .plain (h1 v (by simp)), cell?_of_heap hc]
      have : c[o + j]? = some c[o + j] := by simp [hlt]
      rw [this]
      simp only
      rw [frozen?_of_heap hc, if_neg]
      simpa using fun h1 => Nat.not_lt.1 (fun h2 => ht _ hlt ⟨h1, h2⟩)
    have hc1 : (w.setCell ⟨b, o + j, none⟩ v).heap[b]? = some (.cells (c.setIfInBounds (o + j) v) e fz) := by rw [setCell_heap hc, if_pos rfl]
    obtain ⟨w', c', r, g1, g2, g3, g4, g5, g6, g7, g8, g9⟩ := ih (w.setCell ⟨b, o + j, none⟩ v) b o (j + 1) _ e fz hc1 (fun x hx => ht x (by simpa using hx)) (by simp; omega) (fun u hu => h1 u (by simp [hu]))
    refine ⟨w', c', ?_, g1, by simpa using g2, g3, fun x => ?_, fun b' hb' => ?_, g6, g7, g8, by simpa [World.setCell] using g9⟩
    · simp only [storeCells, Sem.run_bind, add_off, hst, Result.andThen_ok]
      exact r
    · rw [g4 x]
      by_cases hx : o + (j + 1) ≤ x ∧ x < o + (j + 1) + vs.length
      · rw [if_pos hx, if_pos (by simp; omega)]
        rw [show x - (o + j) = (x - (o + (j + 1))) + 1 by omega, List.getElem?_cons_succ]
      · rw [if_neg hx]
        by_cases he : x = o + j
        · subst he
          rw [if_pos (by simp), Array.getElem?_setIfInBounds_self_of_lt hlt]
          simp
        · rw [Array.getElem?_setIfInBounds_ne (Ne.symm he), if_neg (by simp; omega)]
    · rw [g5 b' hb', setCell_heap hc, if_neg hb']

theorem Sim.kill (S : Sim φ h w) (i : Nat) : Sim φ (h.set i none) w where
  bears := fun j k hk => by
    rw [H.get_set] at hk
    split at hk
    · cases hk
    · exact S.bears j k hk
  apart := fun i1 i2 k1 k2 l1 l2 hne g1 g2 => by
    rw [H.get_set] at g1 g2
    split at g1
    · cases g1
    · split at g2
      · cases g2
      · exact S.apart i1 i2 k1 k2 l1 l2 hne g1 g2
  maps := S.maps
  mapart := S.mapart

theorem Fr.kill (φ : Emb) (h : H) (w : World) (i : Nat) : Fr φ h w φ (h.set i none) w := by
  refine { Fr.refl φ h w with owned := ?_ }
  intro b hb
  rcases hb with ⟨j, k, l, g, r⟩ | hb
  · rw [H.get_set] at g
    split at g
    · cases g
    · exact .inl (.inl ⟨j, k, l, g, r⟩)
  · exact .inl (.inr hb)

/-- A block is given up, and a new one takes its place from some cell on. -/
theorem Sim.moved (S : Sim φ h w) (hf : φ h.next = none) {i : Nat} {k : Blk} {l : Loc} (hk : h.get i = some k) (hro : k.ro = false) (hl : φ i = some l) {w' : World} {c' : Array Value} {e : TypeId} {fz : Nat × Nat}
    (hc : w'.heap[l.blk]? = some (.cells c' e fz)) (hs : c'.size = l.size) (ht : thawed c' fz) (cs : List Value) (off : Nat) (hlen : l.base + off + cs.length ≤ l.size)
    (hv : ∀ j v, cs[j]? = some v → ∃ v', c'[l.base + off + j]? = some v' ∧ VR φ v v')
    (ho : ∀ b', b' ≠ l.blk → w'.heap[b']? = w.heap[b']?) (h1 : w'.os = w.os) (h2 : w'.tape = w.tape) (h3 : w'.output = w.output) (h4 : w'.heap.size = w.heap.size) :
    Sim (φ.add h.next ⟨l.blk, l.base + off, l.size⟩) ((h.set i none).new ⟨cs, false⟩) w' ∧
    Fr φ h w (φ.add h.next ⟨l.blk, l.base + off, l.size⟩) ((h.set i none).new ⟨cs, false⟩) w' := by
  have hle := Emb.le_add (l := ⟨l.blk, l.base + off, l.size⟩) hf
  have other : ∀ j k2 l2, j ≠ i → h.get j = some k2 → φ j = some l2 → l2.blk ≠ l.blk := fun j k2 l2 hne g2 e2 =>
    fun e => S.apart i j k k2 l l2 (Ne.symm hne) hk g2 hl e2 hro e.symm
  have mne : ∀ i m, h.mget i = some m → i ≠ h.next := by
    intro i m hm e
    obtain ⟨l, hl, _⟩ := S.maps i m hm
    rw [e, hf] at hl; cases hl
  have mblk : ∀ j m l2, h.mget j = some m → φ j = some l2 → l2.blk ≠ l.blk := by
    intro j m l2 hm hl2 e
    obtain ⟨l3, hl3, hc3⟩ := S.maps j m hm
    rw [hl2] at hl3; cases hl3
    obtain ⟨l4, hl4, c4, t4, fz4, hc4, _⟩ := S.bears i k hk
    rw [hl] at hl4; cases hl4
    rw [e, hc4] at hc3; cases hc3
  constructor
  · refine ⟨fun j k2 g => ?_, fun i1 i2 k1 k2 l1 l2 hne g1 g2 e1 e2 r1 => ?_, fun j m hm => ?_, fun i1 i2 m1 m2 l1 l2 hne g1 g2 e1 e2 => ?_⟩
    rotate_right 2
    · obtain ⟨l2, hl2, hc2⟩ := S.maps j m hm
      exact ⟨l2, hle j l2 hl2, by rw [ho _ (mblk j m l2 hm hl2)]; exact hc2⟩
    · unfold Emb.add at e1 e2
      rw [if_neg (mne i1 m1 g1)] at e1
      rw [if_neg (mne i2 m2 g2)] at e2
      exact S.mapart i1 i2 m1 m2 l1 l2 hne g1 g2 e1 e2
    · rw [H.get_new, H.next_set] at g
      by_cases ej : j = h.next
      · subst ej
        rw [if_pos rfl] at g
        cases g
        refine ⟨_, Emb.add_self _ _ _, c', e, fz, hc, hs, hlen, fun _ => ht, fun x v hx => ?_⟩
        obtain ⟨v', g1, g2⟩ := hv x v hx
        exact ⟨v', g1, g2.mono hle⟩
      · rw [if_neg ej, H.get_set] at g
        split at g
        · cases g
        · rename_i hji
          obtain ⟨l2, e2, B⟩ := S.bears j k2 g
          exact ⟨l2, hle j l2 e2, (B.heap (ho _ (other j k2 l2 hji g e2))).mono hle⟩
    · rw [H.get_new, H.next_set] at g1 g2
      unfold Emb.add at e1 e2
      by_cases a : i1 = h.next
      · rw [if_pos a] at e1 g1
        rw [if_neg (fun x => hne (a.trans x.symm)), H.get_set] at g2
        rw [if_neg (fun x => hne (a.trans x.symm))] at e2
        cases e1
        split at g2
        · cases g2
        · rename_i hji
          exact Ne.symm (other i2 k2 l2 hji g2 e2)
      · rw [if_neg a] at e1
        rw [if_neg a, H.get_set] at g1
        split at g1
        · cases g1
        · rename_i hji
          by_cases b : i2 = h.next
          · rw [if_pos b] at e2
            cases e2
            exact other i1 k1 l1 hji g1 e1
          · rw [if_neg b] at e2
            rw [if_neg b, H.get_set] at g2
            split at g2
            · cases g2
            · exact S.apart i1 i2 k1 k2 l1 l2 hne g1 g2 e1 e2 r1
  · refine ⟨h1, h2, h3, Nat.le_of_eq h4.symm, fun b _ hn => ho b (fun e => hn (.inl ⟨i, k, l, hk, hro, hl, e.symm⟩)), hle, fun j l2 g1 g2 => ?_, by simp, fun b hb => ?_⟩
    · unfold Emb.add at g2
      by_cases ej : j = h.next
      · simp; omega
      · rw [if_neg ej, g1] at g2; cases g2
    · rcases hb with ⟨j, k2, l2, g, r, e2, rfl⟩ | ⟨j, m, l2, g, e2, rfl⟩
      · rw [H.get_new, H.next_set] at g
        unfold Emb.add at e2
        by_cases ej : j = h.next
        · rw [if_pos ej] at e2
          cases e2
          exact .inl (.inl ⟨i, k, l, hk, hro, hl, rfl⟩)
        · rw [if_neg ej] at e2
          rw [if_neg ej, H.get_set] at g
          split at g
          · cases g
          · exact .inl (.inl ⟨j, k2, l2, g, r, e2, rfl⟩)
      · unfold Emb.add at e2
        rw [if_neg (mne j m g)] at e2
        exact .inl (.inr ⟨j, m, l2, g, e2, rfl⟩)

theorem zeroCells_size (z : Array Value) (n : Nat) : (Builtin.zeroCells z n).size = n * z.size := by simp [Builtin.zeroCells]

/-- What append's answer and world are where the new length is beyond the capacity. -/
theorem append_grows {t u e e2 : TypeId} {i : TypeInfo} {z : Value} {a : Option Addr} {len cap n : Nat} {y' : Value} {old' new' : Array Value} (ty : TypeId)
    (hu : P.underlying t = some (.slice e)) (hu2 : P.underlying u = some (.slice e2)) (hi : P.info? e = some i) (hz : i.zero = some z) (hzs : z.cells.size = i.size)
    (hb : 0 < i.bytes) (hln : (Builtin.lenOf y').run P w = .ok n w) (hgt : cap < len + n) (hfit : (len + n) * i.bytes ≤ 140737488355328)
    (hold : (Builtin.firstCells i.size len (.slice a len cap)).run P w.drew = .ok old' w.drew)
    (hnew : (Builtin.firstCells i.size n y').run P w.drew = .ok new' w.drew) (ho : old'.size = len * i.size) (hn : new'.size = n * i.size) :
    ∃ rest cap', len + n ≤ cap' ∧ (old' ++ new' ++ rest).size = cap' * i.size ∧
      (Builtin.append_ #[t, u] ty #[.slice a len cap, y']).run P w =
        .ok (.slice (some ⟨w.heap.size, 0, none⟩) (len + n) cap') (w.drew.alloc (.cells (old' ++ new' ++ rest) e)) := by
  have hcut : len + n ≤ (Question.appendCap (len + n) cap e).cut (w.tape w.drawn (.appendCap (len + n) cap e)) := by
    simp only [Question.cut]; exact Nat.le_add_right _ _
  generalize hcap : (Question.appendCap (len + n) cap e).cut (w.tape w.drawn (.appendCap (len + n) cap e)) = cap' at hcut
  refine ⟨Builtin.zeroCells z.cells (cap' - (len + n)), cap', hcut, ?_, ?_⟩
  · simp only [Array.size_append, ho, hn, zeroCells_size, hzs]
    rw [← Nat.add_mul, ← Nat.add_mul]
    congr 1; omega
  · have h63 : ¬ (9223372036854775807 < ((len : Int) + (n : Int)) ∧ i.bytes = 0) := by omega
    have h48 : ¬ (281474976710656 < Builtin.nextslicecap (len + n) cap * i.bytes) := by have := growslice_fits hgt hfit; omega
    have hn' : ¬ (len + n ≤ cap) := by omega
    simp [Builtin.append_, run_under hu, run_under hu2, sizeOf, typeInfo, zeroValue, hi, hz, hln, hn', h63, h48, Question.forced, hold, hnew, newRow, hcap]
end Go.Ae
