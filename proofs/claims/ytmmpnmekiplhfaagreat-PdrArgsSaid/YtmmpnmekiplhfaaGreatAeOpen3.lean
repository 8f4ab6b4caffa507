/-
  Arguments found in the abstract heap: slices of rows of any number of cells, slices of triples of numbers.
-/
import Derived.Test.YtmmpnmekiplhfaaGreatAeOpen2
namespace Go.Ae
open Go Go.RowKit Go.ChangeShapes Go.WideShapes Go.ChangeAt

section
variable {H : Type} {enc : TypeId × Value → H} {P : Program} {W : World}

/-- A slice of rows of k cells. -/
theorem cells_rows {t e : TypeId} {k fuel : Nat} {x : Value} {y : DataW H × List MemPlace} (ht : P.underlying t = some (.slice e)) (hc : P.cellsOf e = k) (hk : 0 < k)
    (h : DataW.trod enc P W 0 (fun _ => true) true fuel t [x] = some y) :
    ∃ base n cap, cln W x = .slice base n cap ∧ n ≤ cap ∧ (n = 0 ∨ ∃ b o, base = some ⟨b, o, none⟩ ∧
      ∀ i, i < n → ∃ (cs : List Value) (z : DataW H × List MemPlace) (f : Nat), cs.length = k ∧ f + 1 = fuel ∧ DataW.trod enc P W 0 (fun _ => true) true f e cs = some z ∧ ∀ j (hj : j < cs.length), (ofWorld W).ld b (o + i * k + j) = some (cln W cs[j])) := by
  rcases DataW.trod_slice ht h with ⟨hcs, _⟩ | ⟨a, len, cap, elems, rest, n, hn, hcs, _, _, hl, hm, hlen, hel, hsr, _⟩
  · simp only [List.cons.injEq, and_true] at hcs
    subst hcs
    exact ⟨none, 0, 0, rfl, Nat.le_refl _, .inl rfl⟩
  · simp only [List.cons.injEq, and_true] at hcs
    subst hcs
    have each : ∀ i, i < len → ∃ (cs : List Value) (z : DataW H × List MemPlace), cs.length = k ∧ DataW.trod enc P W 0 (fun _ => true) true n e cs = some z ∧ ∀ j (hj : j < cs.length), W.cell? ((a.add (i * k)).add j) = some cs[j] := by
      intro i hi
      have hE := hel i hi
      rw [List.getElem?_eq_getElem (by omega), Option.bind_eq_some_iff, hc] at hE
      obtain ⟨cs, hcs, hy⟩ := hE
      have h2 := World.cells?_some hcs
      refine ⟨cs, _, h2.2.1, hy, fun j hj => ?_⟩
      have := h2.2.2 j (by omega)
      rw [List.getElem?_eq_getElem hj] at this
      exact this
    by_cases h0 : len = 0
    · subst h0
      have hz : ∃ base n' cap', cln W (.slice (some a) 0 cap) = .slice base n' cap' ∧ n' = 0 := by
        by_cases hcap : cap = 0
        · subst hcap
          simp only [cln]
          split
          · exact ⟨_, _, _, rfl, rfl⟩
          · simp only [and_self, if_true]
            exact ⟨_, _, _, rfl, rfl⟩
        · obtain ⟨hrl, hr⟩ := hsr rfl
          have := hr 0 (by omega)
          rw [List.getElem?_eq_getElem (by omega), Option.bind_eq_some_iff] at this
          obtain ⟨cs, hcs, _⟩ := this
          have hcl := (World.cells?_some hcs).2.1
          have q := (World.cells?_some hcs).2.2 0 (by rw [hc]; omega)
          rw [hc] at hcl
          rw [List.getElem?_eq_getElem (by omega)] at q
          have q0 : W.cell? a = some cs[0] := by simpa [Addr.add] using q
          have hsp : a.spot = none := World.cell?_spot q0
          obtain ⟨b, o, s⟩ := a
          simp only at hsp
          subst hsp
          have hic : isCells W b = true := (ofWorld_ld q0).2
          simp only [cln, hic, and_self, if_true]
          exact ⟨_, _, _, rfl, rfl⟩
      obtain ⟨base, n', cap', e, rfl⟩ := hz
      exact ⟨base, 0, cap', e, Nat.zero_le _, .inl rfl⟩
    · obtain ⟨cs, z, hcl, _, hq⟩ := each 0 (by omega)
      have q0 : W.cell? a = some cs[0] := by simpa [Addr.add] using hq 0 (by omega)
      have hsp : a.spot = none := World.cell?_spot q0
      obtain ⟨b, o, s⟩ := a
      simp only at hsp
      subst hsp
      have hic : isCells W b = true := (ofWorld_ld q0).2
      simp only [cln, hic, and_self, if_true]
      refine ⟨_, _, _, rfl, hl, .inr ⟨b, o, rfl, fun i hi => ?_⟩⟩
      obtain ⟨cs, z, hcl, hy, hq⟩ := each i hi
      refine ⟨cs, z, n, hcl, hn.symm, hy, fun j hj => ?_⟩
      have := hq j hj
      rw [add_plain, add_plain] at this
      exact (ofWorld_ld this).1

/-- A slice of triples of numbers. -/
theorem cells_triples {t e : TypeId} {f0 f1 f2 : Field} {k1 k2 k3 : IntKind} {fuel : Nat} {x : Value} {y : DataW H × List MemPlace} (ht : P.underlying t = some (.slice e)) (he : P.underlying e = some (.struct #[f0, f1, f2])) (hc : P.cellsOf e = 3)
    (h0 : P.underlying f0.type = some (.int k1)) (h1 : P.underlying f1.type = some (.int k2)) (h2 : P.underlying f2.type = some (.int k3)) (c0 : P.cellsOf f0.type = 1) (c1 : P.cellsOf f1.type = 1) (c2 : P.cellsOf f2.type = 1) (o0 : f0.offset = 0) (o1 : f1.offset = 1) (o2 : f2.offset = 2)
    (h : DataW.trod enc P W 0 (fun _ => true) true fuel t [x] = some y) :
    ∃ base n cap, cln W x = .slice base n cap ∧ (n = 0 ∨ ∃ b o, base = some ⟨b, o, none⟩ ∧
      ∀ i, i < n → ∃ u v w, (ofWorld W).lds b (o + i * 3) 3 = some [.int k1 u, .int k2 v, .int k3 w] ∧ (Lit.int k1 u).wf = true ∧ (Lit.int k2 v).wf = true ∧ (Lit.int k3 w).wf = true) := by
  obtain ⟨base, n, cap, e, _, hr⟩ := cells_rows (k := 3) ht hc (by decide) h
  refine ⟨base, n, cap, e, hr.imp id ?_⟩
  rintro ⟨b, o, hb, hr⟩
  refine ⟨b, o, hb, fun i hi => ?_⟩
  obtain ⟨cs, z, f, hcl, _, hy, hl⟩ := hr i hi
  obtain ⟨xs, m, _, _, hl', hlen, hf⟩ := DataW.trod_struct he hy
  match xs, hlen, hf with
  | [y0, y1, y2], _, hf =>
  have t0 := hf 0 f0 rfl
  have t1 := hf 1 f1 rfl
  have t2 := hf 2 f2 rfl
  rw [c0, o0] at t0
  rw [c1, o1] at t1
  rw [c2, o2] at t2
  obtain ⟨n0, e0, _, w0⟩ := DataW.trod_int h0 t0
  obtain ⟨n1, e1, _, w1⟩ := DataW.trod_int h1 t1
  obtain ⟨n2, e2, _, w2⟩ := DataW.trod_int h2 t2
  match cs, hcl, e0, e1, e2, hl with
  | [a, b', c], _, e0, e1, e2, hl =>
    simp at e0 e1 e2
    subst e0 e1 e2
    refine ⟨n0, n1, n2, ?_, w0, w1, w2⟩
    refine lds_of_ld (vs := [.int k1 n0, .int k2 n1, .int k3 n2]) (by simp) fun j hj => ?_
    rw [hl j hj]
    have : j < 3 := hj
    match j, this with
    | 0, _ => rfl
    | 1, _ => rfl
    | 2, _ => rfl
end
end Go.Ae
