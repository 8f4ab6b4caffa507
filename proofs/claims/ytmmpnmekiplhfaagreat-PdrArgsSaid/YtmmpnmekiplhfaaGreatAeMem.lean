/-
  What the machine's primitive steps on memory do to the relation of heaps: a store, a row of stores, a new block, a draw.
-/
import Derived.Test.YtmmpnmekiplhfaaGreatAeRel
namespace Go.Ae
open Go

theorem Sim.congr {φ : Emb} {h h' : H} {w : World} (S : Sim φ h w) (hg : ∀ i, h'.get i = h.get i) (hm : ∀ i, h'.mget i = h.mget i := by intro; rfl) : Sim φ h' w where
  bears := fun i k hk => S.bears i k (by rw [← hg]; exact hk)
  apart := fun i i' k k' l l' hne h1 h2 => S.apart i i' k k' l l' hne (by rw [← hg]; exact h1) (by rw [← hg]; exact h2)
  maps := fun i m h1 => S.maps i m (by rw [← hm]; exact h1)
  mapart := fun i i' k k' l l' hne h1 h2 => S.mapart i i' k k' l l' hne (by rw [← hm]; exact h1) (by rw [← hm]; exact h2)

theorem Owns.congr {φ : Emb} {h h' : H} (hg : ∀ i, h'.get i = h.get i) (hm : ∀ i, h'.mget i = h.mget i) {b : Nat} (o : Owns φ h' b) : Owns φ h b := by
  rcases o with ⟨i, k, l, h1, h2⟩ | ⟨i, m, l, h1, h2⟩
  · exact .inl ⟨i, k, l, by rw [← hg]; exact h1, h2⟩
  · exact .inr ⟨i, m, l, by rw [← hm]; exact h1, h2⟩

theorem Fr.congr {φ φ' : Emb} {h h' h'' : H} {w w' : World} (F : Fr φ h w φ' h' w') (hg : ∀ i, h''.get i = h'.get i) (hn : h''.next = h'.next) (hm : ∀ i, h''.mget i = h'.mget i := by intro; rfl) : Fr φ h w φ' h'' w' :=
  { F with late := fun i l h1 h2 => by rw [hn]; exact F.late i l h1 h2, next := by rw [hn]; exact F.next, owned := fun b ho => F.owned b (ho.congr hg hm) }

theorem Bears.heap {φ : Emb} {w w' : World} {k : Blk} {l : Loc} (B : Bears φ w k l) (e : w'.heap[l.blk]? = w.heap[l.blk]?) : Bears φ w' k l := by
  obtain ⟨c, t, fz, hc, r⟩ := B
  exact ⟨c, t, fz, by rw [e]; exact hc, r⟩

theorem Bears.mono {φ ψ : Emb} (hle : φ.le ψ) {w : World} {k : Blk} {l : Loc} (B : Bears φ w k l) : Bears ψ w k l := by
  obtain ⟨c, t, fz, hc, hs, hb, hz, hv⟩ := B
  exact ⟨c, t, fz, hc, hs, hb, hz, fun j v hj => let ⟨v', h1, h2⟩ := hv j v hj; ⟨v', h1, h2.mono hle⟩⟩

theorem Sim.heap {φ : Emb} {h : H} {w w' : World} (S : Sim φ h w) (e : w'.heap = w.heap) : Sim φ h w' where
  bears := fun i k hk => let ⟨l, hl, B⟩ := S.bears i k hk; ⟨l, hl, B.heap (by rw [e])⟩
  apart := S.apart
  maps := fun i m hm => by rw [e]; exact S.maps i m hm
  mapart := S.mapart

theorem Fr.drawn (φ : Emb) (h : H) (w : World) (n : Nat) : Fr φ h w φ h { w with drawn := n } :=
  ⟨rfl, rfl, rfl, Nat.le_refl _, fun _ _ _ => rfl, .refl φ, fun i l h1 h2 => by simp [h1] at h2, Nat.le_refl _, fun _ h => .inl h⟩

/-- One store. -/
theorem Sim.store1 {φ : Emb} {h : H} {w : World} (S : Sim φ h w) {i off : Nat} {k : Blk} {l : Loc} {v v' : Value} (hk : h.get i = some k) (hro : k.ro = false)
    (ho : off < k.cells.length) (hl : φ i = some l) (hv : VR φ v v') (h1 : v.oneCell' = true) (P : Program) (m : Mode) :
    (Go.store ⟨l.blk, l.base + off, none⟩ v' m).run P w = .ok () (w.setCell ⟨l.blk, l.base + off, none⟩ v') ∧
    Sim φ (h.set i (some { k with cells := k.cells.set off v })) (w.setCell ⟨l.blk, l.base + off, none⟩ v') ∧
    Fr φ h w φ (h.set i (some { k with cells := k.cells.set off v })) (w.setCell ⟨l.blk, l.base + off, none⟩ v') := by
  obtain ⟨l', hl', c, t, fz, hc, hs, hb, hz, hcv⟩ := S.bears i k hk
  rw [hl] at hl'; cases hl'
  have hlt : l.base + off < c.size := by omega
  refine ⟨?_, ?_, ?_⟩
  · rw [run_store P w _ v' m (hv.one h1), cell?_of_heap hc]
    have : c[l.base + off]? = some c[l.base + off] := by simp [hlt]
    rw [this]
    simp only
    rw [frozen?_of_heap hc, if_neg]
    simpa using fun h1 => Nat.not_lt.1 (fun h2 => hz hro _ hlt ⟨h1, h2⟩)
  · refine ⟨fun i' k' hk' => ?_, fun i1 i2 k1 k2 l1 l2 hne g1 g2 e1 e2 r1 => ?_, fun i' m hm => ?_, S.mapart⟩
    rotate_right
    · obtain ⟨l', hl', hc'⟩ := S.maps i' m hm
      refine ⟨l', hl', ?_⟩
      rw [setCell_heap hc, if_neg (fun e => by rw [e, hc] at hc'; cases hc')]
      exact hc'
    · rw [H.get_set] at hk'
      by_cases e : i' = i
      · subst e
        rw [if_pos rfl] at hk'
        cases hk'
        refine ⟨l, hl, c.setIfInBounds (l.base + off) v', t, fz, ?_, by simpa using hs, by simpa using hb, fun _ => ?_, ?_⟩
        · rw [setCell_heap hc, if_pos rfl]
        · intro o hoo; exact hz hro o (by simpa using hoo)
        · intro j x hj
          rw [List.getElem?_set] at hj
          by_cases ej : off = j
          · subst ej
            rw [if_pos rfl, if_pos ho] at hj
            cases hj
            exact ⟨v', by rw [Array.getElem?_setIfInBounds_self_of_lt hlt], hv⟩
          · rw [if_neg ej] at hj
            obtain ⟨y, hy, hr⟩ := hcv j x hj
            refine ⟨y, ?_, hr⟩
            rw [Array.getElem?_setIfInBounds_ne (by omega)]
            exact hy
      · rw [if_neg e] at hk'
        obtain ⟨l2, hl2, B⟩ := S.bears i' k' hk'
        refine ⟨l2, hl2, B.heap ?_⟩
        rw [setCell_heap hc, if_neg]
        exact Ne.symm (S.apart i i' k k' l l2 (Ne.symm e) hk hk' hl hl2 hro)
    · rw [H.get_set] at g1 g2
      by_cases e : i1 = i
      · subst e
        rw [if_pos rfl] at g1
        cases g1
        rw [if_neg (Ne.symm hne)] at g2
        exact S.apart i1 i2 k k2 l1 l2 hne hk g2 e1 e2 hro
      · rw [if_neg e] at g1
        by_cases e' : i2 = i
        · subst e'
          rw [if_pos rfl] at g2
          cases g2
          exact S.apart i1 i2 k1 k l1 l2 hne g1 hk e1 e2 r1
        · rw [if_neg e'] at g2
          exact S.apart i1 i2 k1 k2 l1 l2 hne g1 g2 e1 e2 r1
  · refine ⟨rfl, rfl, rfl, by simp [World.setCell], fun b _ hn => ?_, .refl φ, fun i l a b => by simp [a] at b, Nat.le_refl _, fun b hb' => ?_⟩
    · rw [setCell_heap hc, if_neg]
      intro e
      exact hn (.inl ⟨i, k, l, hk, hro, hl, e.symm⟩)
    · rcases hb' with ⟨i1, k1, l1, g1, r1, e1, rfl⟩ | hb'
      · rw [H.get_set] at g1
        by_cases e : i1 = i
        · subst e
          rw [if_pos rfl] at g1
          cases g1
          exact .inl (.inl ⟨i1, k, l1, hk, hro, e1, rfl⟩)
        · rw [if_neg e] at g1
          exact .inl (.inl ⟨i1, k1, l1, g1, r1, e1, rfl⟩)
      · exact .inl (.inr hb')

theorem put_length : ∀ (vs cs : List Value) (off : Nat), (put cs off vs).length = cs.length := by
  intro vs
  induction vs with
  | nil => intro cs off; rfl
  | cons v vs ih => intro cs off; simp [put, ih]

/-- A row of stores. -/
theorem Sim.stores {φ : Emb} (P : Program) : ∀ (vs vs' : List Value) (h : H) (w : World) (i off j : Nat) (k : Blk) (l : Loc), Sim φ h w → h.get i = some k → k.ro = false →
    off + j + vs.length ≤ k.cells.length → vs.all Value.oneCell' = true → φ i = some l → VRs φ vs vs' →
    ∃ w', (storeCells ⟨l.blk, l.base + off, none⟩ vs' j).run P w = .ok () w' ∧ Sim φ (h.set i (some { k with cells := put k.cells (off + j) vs })) w' ∧
      Fr φ h w φ (h.set i (some { k with cells := put k.cells (off + j) vs })) w' := by
  intro vs
  induction vs with
  | nil =>
    intro vs' h w i off j k l S hk hro hlen hall hl hv
    have : vs' = [] := List.eq_nil_of_length_eq_zero (by simpa using hv.1.symm)
    subst this
    have hg : ∀ i', (h.set i (some { k with cells := put k.cells (off + j) [] })).get i' = h.get i' := by
      intro i'
      rw [H.get_set]
      by_cases e : i' = i
      · subst e; rw [if_pos rfl, hk]; rfl
      · rw [if_neg e]
    exact ⟨w, by simp [storeCells], S.congr hg, (Fr.refl φ h w).congr hg rfl⟩
  | cons v vs ih =>
    intro vs' h w i off j k l S hk hro hlen hall hl hv
    cases vs' with
    | nil => have := hv.1; simp at this
    | cons v' vs' =>
      simp only [List.all_cons, Bool.and_eq_true] at hall
      simp only [List.length_cons] at hlen
      obtain ⟨r1, S1, F1⟩ := S.store1 (off := off + j) hk hro (by omega) hl hv.head hall.1 P .plain
      obtain ⟨w', r2, S2, F2⟩ := ih vs' _ _ i off (j + 1) { k with cells := k.cells.set (off + j) v } l S1 (by rw [H.get_set, if_pos rfl]) hro (by simp; omega) hall.2 hl hv.tail
      have hg : ∀ i', (h.set i (some { k with cells := put k.cells (off + j) (v :: vs) })).get i' =
          ((h.set i (some { k with cells := k.cells.set (off + j) v })).set i (some { k with cells := put (k.cells.set (off + j) v) (off + (j + 1)) vs })).get i' := by
        intro i'
        simp only [H.get_set]
        by_cases e : i' = i
        · simp [e, put, Nat.add_assoc]
        · simp [e]
      refine ⟨w', ?_, S2.congr hg, (F1.trans F2).congr hg rfl⟩
      have ha : Addr.add ⟨l.blk, l.base + off, none⟩ j = ⟨l.blk, l.base + (off + j), none⟩ := by
        unfold Addr.add; split
        · rename_i e; subst e; rfl
        · simp [Nat.add_assoc]
      simp only [storeCells, Sem.run_bind, ha, r1, Result.andThen_ok]
      exact r2

theorem Sim.sts {φ : Emb} {h h' : H} {w : World} (S : Sim φ h w) {i off : Nat} {vs vs' : List Value} (e : h.sts i off vs = some h') {l : Loc} (hl : φ i = some l)
    (hv : VRs φ vs vs') (P : Program) :
    ∃ w', (storeCells ⟨l.blk, l.base + off, none⟩ vs').run P w = .ok () w' ∧ Sim φ h' w' ∧ Fr φ h w φ h' w' := by
  unfold H.sts at e
  cases hk : h.get i with
  | none => simp [hk] at e
  | some k =>
    simp only [hk, Option.bind_some] at e
    split at e
    · rename_i hc
      cases e
      exact S.stores P vs vs' h w i off 0 k l hk hc.1 hc.2.1 hc.2.2 hl hv
    · cases e

/-- An embedding with one block more. -/
def Emb.add (φ : Emb) (i : Nat) (l : Loc) : Emb := fun j => if j = i then some l else φ j
theorem Emb.le_add {φ : Emb} {i : Nat} {l : Loc} (h : φ i = none) : φ.le (φ.add i l) := by
  intro j m hj
  unfold Emb.add
  by_cases e : j = i
  · subst e; rw [h] at hj; cases hj
  · rw [if_neg e]; exact hj
theorem Emb.add_self (φ : Emb) (i : Nat) (l : Loc) : φ.add i l i = some l := by simp [Emb.add]
/-- A new block: its first cells are known. -/
theorem Sim.alloc {φ : Emb} {h : H} {w : World} (S : Sim φ h w) (hf : φ h.next = none) (cs : List Value) (cs' : Array Value) (e : TypeId) (hlen : cs.length ≤ cs'.size) (hv : VRs φ cs (cs'.toList.take cs.length)) :
    Sim (φ.add h.next ⟨w.heap.size, 0, cs'.size⟩) (h.new ⟨cs, false⟩) { w with heap := w.heap.push (.cells cs' e) } ∧
    Fr φ h w (φ.add h.next ⟨w.heap.size, 0, cs'.size⟩) (h.new ⟨cs, false⟩) { w with heap := w.heap.push (.cells cs' e) } := by
  have hle := Emb.le_add (l := ⟨w.heap.size, 0, cs'.size⟩) hf
  have old : ∀ b, b < w.heap.size → (w.heap.push (.cells cs' e))[b]? = w.heap[b]? := fun b hb => by
    rw [Array.getElem?_push, if_neg (by omega)]
  have blt : ∀ i k l, h.get i = some k → φ i = some l → l.blk < w.heap.size := by
    intro i k l hk hl
    obtain ⟨l', hl', c, t, fz, hc, _⟩ := S.bears i k hk
    rw [hl] at hl'; cases hl'
    exact (Array.getElem?_eq_some_iff.1 hc).1
  have mne : ∀ i m, h.mget i = some m → i ≠ h.next := by
    intro i m hm e
    obtain ⟨l, hl, _⟩ := S.maps i m hm
    rw [e, hf] at hl; cases hl
  constructor
  · refine ⟨fun i k hk => ?_, fun i1 i2 k1 k2 l1 l2 hne g1 g2 e1 e2 r1 => ?_, fun i m hm => ?_, fun i1 i2 m1 m2 l1 l2 hne g1 g2 e1 e2 => ?_⟩
    rotate_right 2
    · obtain ⟨l, hl, hc⟩ := S.maps i m hm
      exact ⟨l, hle i l hl, by rw [old _ (Array.getElem?_eq_some_iff.1 hc).1]; exact hc⟩
    · unfold Emb.add at e1 e2
      rw [if_neg (mne i1 m1 g1)] at e1
      rw [if_neg (mne i2 m2 g2)] at e2
      exact S.mapart i1 i2 m1 m2 l1 l2 hne g1 g2 e1 e2
    · rw [H.get_new] at hk
      by_cases ei : i = h.next
      · subst ei
        rw [if_pos rfl] at hk
        cases hk
        refine ⟨_, Emb.add_self _ _ _, cs', e, (0, 0), by simp, rfl, by simpa using hlen, fun _ o _ ho => by simp at ho, fun j v hj => ?_⟩
        have hj' : j < cs.length := by
          rcases Nat.lt_or_ge j cs.length with h1 | h1
          · exact h1
          · simp [List.getElem?_eq_none h1] at hj
        obtain ⟨y, hy⟩ : ∃ y, cs'[j]? = some y := ⟨cs'[j]'(by omega), by simp [show j < cs'.size by omega]⟩
        refine ⟨y, by simpa using hy, (hv.2 j v y hj ?_).mono hle⟩
        rw [List.getElem?_take, if_pos hj', Array.getElem?_toList]
        exact hy
      · rw [if_neg ei] at hk
        obtain ⟨l, hl, B⟩ := S.bears i k hk
        exact ⟨l, hle i l hl, (B.heap (old _ (blt i k l hk hl))).mono hle⟩
    · rw [H.get_new] at g1 g2
      unfold Emb.add at e1 e2
      by_cases a : i1 = h.next
      · rw [if_pos a] at e1 g1
        rw [if_neg (fun x => hne (a.trans x.symm))] at e2 g2
        cases e1
        have := blt i2 k2 l2 g2 e2
        simp; omega
      · rw [if_neg a] at e1 g1
        by_cases b : i2 = h.next
        · rw [if_pos b] at e2 g2
          cases e2
          have := blt i1 k1 l1 g1 e1
          simp; omega
        · rw [if_neg b] at e2 g2
          exact S.apart i1 i2 k1 k2 l1 l2 hne g1 g2 e1 e2 r1
  · refine ⟨rfl, rfl, rfl, by simp, fun b hb _ => old b hb, hle, fun i l h1 h2 => ?_, by simp, fun b hb => ?_⟩
    · unfold Emb.add at h2
      by_cases ei : i = h.next
      · simp; omega
      · rw [if_neg ei, h1] at h2; cases h2
    · rcases hb with ⟨i, k, l, g, r, el, rfl⟩ | ⟨i, m, l, g, el, rfl⟩
      · rw [H.get_new] at g
        unfold Emb.add at el
        by_cases ei : i = h.next
        · rw [if_pos ei] at el; cases el; exact .inr (Nat.le_refl _)
        · rw [if_neg ei] at el g
          exact .inl (.inl ⟨i, k, l, g, r, el, rfl⟩)
      · unfold Emb.add at el
        rw [if_neg (mne i m g)] at el
        exact .inl (.inr ⟨i, m, l, g, el, rfl⟩)

/-- A new map. -/
theorem Sim.newMap {φ : Emb} {h : H} {w : World} (S : Sim φ h w) (hf : φ h.next = none) (m : Mp) :
    Sim (φ.add h.next ⟨w.heap.size, 0, 0⟩) (h.newMap m) { w with heap := w.heap.push (.map m.es.toArray m.ck) } ∧
    Fr φ h w (φ.add h.next ⟨w.heap.size, 0, 0⟩) (h.newMap m) { w with heap := w.heap.push (.map m.es.toArray m.ck) } := by
  have hle := Emb.le_add (l := ⟨w.heap.size, 0, 0⟩) hf
  have old : ∀ b, b < w.heap.size → (w.heap.push (.map m.es.toArray m.ck))[b]? = w.heap[b]? := fun b hb => by
    rw [Array.getElem?_push, if_neg (by omega)]
  have bne : ∀ i k, h.get i = some k → i ≠ h.next := by
    intro i k hk e
    obtain ⟨l, hl, _⟩ := S.bears i k hk
    rw [e, hf] at hl; cases hl
  have blt : ∀ i k l, h.get i = some k → φ i = some l → l.blk < w.heap.size := by
    intro i k l hk hl
    obtain ⟨l', hl', c, t, fz, hc, _⟩ := S.bears i k hk
    rw [hl] at hl'; cases hl'
    exact (Array.getElem?_eq_some_iff.1 hc).1
  have mlt : ∀ i m l, h.mget i = some m → φ i = some l → l.blk < w.heap.size := by
    intro i m l hm hl
    obtain ⟨l', hl', hc⟩ := S.maps i m hm
    rw [hl] at hl'; cases hl'
    exact (Array.getElem?_eq_some_iff.1 hc).1
  constructor
  · refine ⟨fun i k hk => ?_, fun i1 i2 k1 k2 l1 l2 hne g1 g2 e1 e2 r1 => ?_, fun i m' hm => ?_, fun i1 i2 m1 m2 l1 l2 hne g1 g2 e1 e2 => ?_⟩
    · obtain ⟨l, hl, B⟩ := S.bears i k hk
      exact ⟨l, hle i l hl, (B.heap (old _ (blt i k l hk hl))).mono hle⟩
    · unfold Emb.add at e1 e2
      rw [if_neg (bne i1 k1 g1)] at e1
      rw [if_neg (bne i2 k2 g2)] at e2
      exact S.apart i1 i2 k1 k2 l1 l2 hne g1 g2 e1 e2 r1
    · rw [H.mget_newMap] at hm
      by_cases ei : i = h.next
      · subst ei
        rw [if_pos rfl] at hm
        cases hm
        exact ⟨_, Emb.add_self _ _ _, by simp⟩
      · rw [if_neg ei] at hm
        obtain ⟨l, hl, hc⟩ := S.maps i m' hm
        exact ⟨l, hle i l hl, by rw [old _ (Array.getElem?_eq_some_iff.1 hc).1]; exact hc⟩
    · rw [H.mget_newMap] at g1 g2
      unfold Emb.add at e1 e2
      by_cases a : i1 = h.next
      · rw [if_pos a] at e1 g1
        rw [if_neg (fun x => hne (a.trans x.symm))] at e2 g2
        cases e1
        have := mlt i2 m2 l2 g2 e2
        simp; omega
      · rw [if_neg a] at e1 g1
        by_cases b : i2 = h.next
        · rw [if_pos b] at e2 g2
          cases e2
          have := mlt i1 m1 l1 g1 e1
          simp; omega
        · rw [if_neg b] at e2 g2
          exact S.mapart i1 i2 m1 m2 l1 l2 hne g1 g2 e1 e2
  · refine ⟨rfl, rfl, rfl, by simp, fun b hb _ => old b hb, hle, fun i l h1 h2 => ?_, by simp, fun b hb => ?_⟩
    · unfold Emb.add at h2
      by_cases ei : i = h.next
      · simp; omega
      · rw [if_neg ei, h1] at h2; cases h2
    · rcases hb with ⟨i, k, l, g, r, el, rfl⟩ | ⟨i, m', l, g, el, rfl⟩
      · unfold Emb.add at el
        rw [if_neg (bne i k g)] at el
        exact .inl (.inl ⟨i, k, l, g, r, el, rfl⟩)
      · rw [H.mget_newMap] at g
        unfold Emb.add at el
        by_cases ei : i = h.next
        · rw [if_pos ei] at el; cases el; exact .inr (Nat.le_refl _)
        · rw [if_neg ei] at el g
          exact .inl (.inr ⟨i, m', l, g, el, rfl⟩)

/-- A map that is changed. -/
theorem Sim.setMap {φ : Emb} {h : H} {w : World} (S : Sim φ h w) {i : Nat} {m0 : Mp} {l : Loc} (hm0 : h.mget i = some m0) (hl : φ i = some l) (m : Mp) :
    Sim φ (h.setMap i m) { w with heap := w.heap.setIfInBounds l.blk (.map m.es.toArray m.ck) } ∧
    Fr φ h w φ (h.setMap i m) { w with heap := w.heap.setIfInBounds l.blk (.map m.es.toArray m.ck) } := by
  obtain ⟨l', hl', hc⟩ := S.maps i m0 hm0
  rw [hl] at hl'; cases hl'
  have hlt := (Array.getElem?_eq_some_iff.1 hc).1
  have old : ∀ b, b ≠ l.blk → (w.heap.setIfInBounds l.blk (.map m.es.toArray m.ck))[b]? = w.heap[b]? := fun b hb =>
    Array.getElem?_setIfInBounds_ne (Ne.symm hb)
  constructor
  · refine ⟨fun j k hk => ?_, S.apart, fun j m' hm => ?_, fun i1 i2 m1 m2 l1 l2 hne g1 g2 e1 e2 => ?_⟩
    · obtain ⟨l2, hl2, B⟩ := S.bears j k hk
      refine ⟨l2, hl2, B.heap (old _ ?_)⟩
      obtain ⟨c, t, fz, hc2, _⟩ := B
      intro e
      rw [e, hc] at hc2; cases hc2
    · rw [H.mget_setMap] at hm
      by_cases ej : j = i
      · subst ej
        rw [if_pos rfl] at hm
        cases hm
        exact ⟨l, hl, by rw [Array.getElem?_setIfInBounds_self_of_lt hlt]⟩
      · rw [if_neg ej] at hm
        obtain ⟨l2, hl2, hc2⟩ := S.maps j m' hm
        refine ⟨l2, hl2, ?_⟩
        rw [old _ (S.mapart j i m' m0 l2 l ej hm hm0 hl2 hl)]
        exact hc2
    · rw [H.mget_setMap] at g1 g2
      have h1 : ∃ m, h.mget i1 = some m := by
        split at g1
        · rename_i e; subst e; exact ⟨m0, hm0⟩
        · exact ⟨_, g1⟩
      have h2 : ∃ m, h.mget i2 = some m := by
        split at g2
        · rename_i e; subst e; exact ⟨m0, hm0⟩
        · exact ⟨_, g2⟩
      obtain ⟨n1, h1⟩ := h1
      obtain ⟨n2, h2⟩ := h2
      exact S.mapart i1 i2 n1 n2 l1 l2 hne h1 h2 e1 e2
  · refine ⟨rfl, rfl, rfl, by simp, fun b _ hn => old b (fun e => hn (.inr ⟨i, m0, l, hm0, hl, e.symm⟩)), .refl φ, fun i l a b => by simp [a] at b, Nat.le_refl _, fun b hb => ?_⟩
    rcases hb with hb | ⟨j, m', l2, g, el, rfl⟩
    · exact .inl (.inl hb)
    · rw [H.mget_setMap] at g
      split at g
      · rename_i e; subst e; exact .inl (.inr ⟨j, m0, l2, hm0, el, rfl⟩)
      · exact .inl (.inr ⟨j, m', l2, g, el, rfl⟩)
end Go.Ae
