/-
  Arguments found in the abstract heap: slices of slices of numbers.
-/
import Derived.Test.YtmmpnmekiplhfaaGreatAeOpen3
namespace Go.Ae
open Go Go.RowKit Go.ChangeShapes Go.WideShapes Go.ChangeAt

/-- A slice of slices of whole numbers of one kind, all older than n. -/
def RdsK (k : IntKind) (n : Nat) (h : H) (v : Value) (lss : List (List Int)) : Prop :=
  ∃ cs, Rd h v cs ∧ Old n v ∧ cs.length = lss.length ∧ ∀ (j : Nat) (c : Value) (l : List Int), cs[j]? = some c → lss[j]? = some l → Rd h c (l.map (.int k)) ∧ Old n c
theorem RdsK.ext {k : IntKind} {n : Nat} {h h' : H} {v : Value} {lss : List (List Int)} (r : RdsK k n h v lss) (e : Ext n h h') : RdsK k n h' v lss := by
  obtain ⟨cs, h1, h2, h3, h4⟩ := r
  exact ⟨cs, h1.ext h2 e, h2, h3, fun j c l hc hl => ⟨(h4 j c l hc hl).1.ext (h4 j c l hc hl).2 e, (h4 j c l hc hl).2⟩⟩
theorem RdsK.mono {k : IntKind} {n m : Nat} {h : H} {v : Value} {lss : List (List Int)} (r : RdsK k n h v lss) (e : n ≤ m) : RdsK k m h v lss := by
  obtain ⟨cs, h1, h2, h3, h4⟩ := r
  exact ⟨cs, h1, h2.mono e, h3, fun j c l hc hl => ⟨(h4 j c l hc hl).1, (h4 j c l hc hl).2.mono e⟩⟩
theorem RdsK.to {k : IntKind} {n : Nat} {h h' : H} {v : Value} {lss : List (List Int)} (r : RdsK k n h v lss) (hn : n ≤ h.next) (e : Ext n h h') : RdsK k h'.next h' v lss := (r.ext e).mono (Nat.le_trans hn e.1)
theorem RdsK.len {k : IntKind} {n : Nat} {h : H} {v : Value} {lss : List (List Int)} (r : RdsK k n h v lss) : ∃ a c, v = .slice a lss.length c := by
  obtain ⟨cs, h1, _, h3, _⟩ := r
  obtain ⟨a, c, e⟩ := h1.len
  exact ⟨a, c, by rw [e, h3]⟩
theorem RdsK.old {k : IntKind} {n : Nat} {h : H} {v : Value} {lss : List (List Int)} (r : RdsK k n h v lss) : Old n v := r.choose_spec.2.1
theorem RdsK.at {k : IntKind} {n : Nat} {h : H} {v : Value} {lss : List (List Int)} (r : RdsK k n h v lss) {i : Nat} (hi : i < lss.length) :
    ∃ b o s cap u, v = .slice (some ⟨b, o, s⟩) lss.length cap ∧ h.ld b (o + i) = some u ∧ Rd h u (lss[i].map (.int k)) ∧ Old n u := by
  obtain ⟨cs, h1, h2, h3, h4⟩ := r
  have hi' : i < cs.length := by omega
  obtain ⟨b, o, s, cap, e, hl⟩ := h1.at hi'
  have := h4 i cs[i] lss[i] (by simp [hi']) (by simp [hi])
  exact ⟨b, o, s, cap, cs[i], by rw [e, h3], hl, this.1, this.2⟩

section
variable {H : Type} {enc : TypeId × Value → H} {P : Program} {W : World}

theorem cells_lists {t e u : TypeId} {k : IntKind} {fuel : Nat} {x : Value} {y : DataW H × List MemPlace} (ht : P.underlying t = some (.slice e)) (he : P.underlying e = some (.slice u)) (hu : P.underlying u = some (.int k)) (hc : P.cellsOf e = 1) (hcu : P.cellsOf u = 1)
    (h : DataW.trod enc P W 0 (fun _ => true) true fuel t [x] = some y) :
    ∃ lss : List (List Int), RdsK k (ofWorld W).next (ofWorld W) (cln W x) lss ∧ (∀ l ∈ lss, l.length ≤ 9223372036854775807 ∧ ∀ z ∈ l, (Lit.int k z).wf = true) ∧ lss.length ≤ 9223372036854775807 := by
  obtain ⟨base, n, cap, hx, hn, hr⟩ := cells_rows ht hc (by omega) h
  have hle : n ≤ 9223372036854775807 := cells_le ht h hx
  rcases hr with rfl | ⟨b, o, rfl, hr⟩
  · exact ⟨[], ⟨[], ⟨base, cap, hx, hn, .inl rfl⟩, cln_old _ _, rfl, fun j c l hc => by simp at hc⟩, by simp, by simp⟩
  · have each : ∀ i, i < n → ∃ (v : Value) (l : List Int), (ofWorld W).ld b (o + i) = some v ∧ Rd (ofWorld W) v (l.map (.int k)) ∧ Old (ofWorld W).next v ∧ l.length ≤ 9223372036854775807 ∧ ∀ z ∈ l, (Lit.int k z).wf = true := by
      intro i hi
      obtain ⟨cs, z, f, hl, _, ht2, hld⟩ := hr i hi
      match cs, hl, ht2, hld with
      | [v], _, ht2, hld =>
        obtain ⟨ns, r1, r2, _⟩ := cells_ints he hu hcu ht2
        have := hld 0 (by simp)
        simp only [Nat.mul_one, Nat.add_zero, List.getElem_cons_zero] at this
        obtain ⟨a, c, e⟩ := r1.len
        rw [List.length_map] at e
        exact ⟨_, ns, this, r1, cln_old _ _, cells_le he ht2 e, r2⟩
    obtain ⟨F, hF⟩ : ∃ F : Nat → Value × List Int, ∀ i, i < n → (ofWorld W).ld b (o + i) = some (F i).1 ∧ Rd (ofWorld W) (F i).1 ((F i).2.map (.int k)) ∧ Old (ofWorld W).next (F i).1 ∧ (F i).2.length ≤ 9223372036854775807 ∧ ∀ z ∈ (F i).2, (Lit.int k z).wf = true := by
      refine ⟨fun i => if hi : i < n then ((each i hi).choose, (each i hi).choose_spec.choose) else (junk, []), fun i hi => ?_⟩
      simp only [dif_pos hi]
      exact (each i hi).choose_spec.choose_spec
    refine ⟨(List.range n).map fun i => (F i).2, ⟨(List.range n).map fun i => (F i).1, ⟨some ⟨b, o, none⟩, cap, by rw [hx, List.length_map, List.length_range], by simpa using hn, ?_⟩, cln_old _ _, by simp, fun j c l hc hl => ?_⟩, fun l hl => ?_, by simpa using hle⟩
    · by_cases h0 : n = 0
      · left; subst h0; rfl
      · right
        refine ⟨b, o, none, rfl, lds_of_ld (by simp; omega) fun j hj => ?_⟩
        simp at hj
        simp only [List.getElem_map, List.getElem_range]
        exact (hF j hj).1
    · simp only [List.getElem?_map, Option.map_eq_some_iff] at hc hl
      obtain ⟨a, ha, rfl⟩ := hc
      obtain ⟨a', ha', rfl⟩ := hl
      rw [ha] at ha'
      cases ha'
      have hj := List.getElem?_eq_some_iff.1 ha
      obtain ⟨hlt, he⟩ := hj
      simp at hlt he
      subst he
      exact ⟨(hF j hlt).2.1, (hF j hlt).2.2.1⟩
    · simp only [List.mem_map, List.mem_range] at hl
      obtain ⟨i, hi, rfl⟩ := hl
      exact (hF i hi).2.2.2
end
end Go.Ae
