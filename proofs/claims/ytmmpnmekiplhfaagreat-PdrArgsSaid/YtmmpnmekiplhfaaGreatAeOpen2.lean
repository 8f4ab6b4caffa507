/-
  Arguments found in the abstract heap: slices of numbers of any kind, slices of pairs.
-/
import Derived.Test.YtmmpnmekiplhfaaGreatAeOpen
import Derived.Test.YtmmpnmekiplhfaaGreatAeData
namespace Go.Ae
open Go Go.RowKit Go.ChangeShapes Go.WideShapes Go.ChangeAt

theorem add_one_add (a : Addr) (i : Nat) : (a.add i).add 1 = a.add (i + 1) := by
  unfold Addr.add
  by_cases h : i = 0
  · subst h; simp
  · simp [h, Nat.add_assoc]

theorem cln_old (W : World) (v : Value) : Old (ofWorld W).next (cln W v) := old_of_vr (cln_vr W v)

section
variable {H : Type} {enc : TypeId × Value → H} {P : Program} {W : World}

/-- A slice of whole numbers of one kind, among the cells of an argument. -/
theorem cells_ints {t e : TypeId} {k : IntKind} {fuel : Nat} {x : Value} {y : DataW H × List MemPlace} (ht : P.underlying t = some (.slice e)) (he : P.underlying e = some (.int k)) (hc : P.cellsOf e = 1)
    (h : DataW.trod enc P W 0 (fun _ => true) true fuel t [x] = some y) :
    ∃ ns : List Int, Rd (ofWorld W) (cln W x) (ns.map (.int k)) ∧ (∀ n ∈ ns, (Lit.int k n).wf = true) ∧ Spt (cln W x) := by
  rcases open_ints ht he hc h with ⟨hcs, hx⟩ | ⟨a, len', cap', zs, hcs, _, hl, hm, hz, hx, hcell, hwf⟩
  · simp only [List.cons.injEq, and_true] at hcs
    subst hcs
    exact ⟨[], Rd.nil _, by simp, fun a n c h => cln_spot h⟩
  · simp only [List.cons.injEq, and_true] at hcs
    subst hcs
    simp only [if_true] at hz
    have := Rd.of_cells (W := W) (a := a) (vs := zs.map (.int k)) hl (by simpa using hz) (fun j hj => by
      simp at hj
      refine ⟨_, hcell j hj, ?_⟩
      simp [cln_int, hj])
    refine ⟨zs.take len', ?_, fun n hn => hwf n (List.mem_of_mem_take hn), fun a n c h => cln_spot h⟩
    simpa [List.map_take] using this.1

/-- A slice of pairs of numbers. -/
theorem cells_pairs {t e : TypeId} {f0 f1 : Field} {k1 k2 : IntKind} {fuel : Nat} {x : Value} {y : DataW H × List MemPlace} (ht : P.underlying t = some (.slice e)) (he : P.underlying e = some (.struct #[f0, f1])) (hc : P.cellsOf e = 2)
    (h0 : P.underlying f0.type = some (.int k1)) (h1 : P.underlying f1.type = some (.int k2)) (c0 : P.cellsOf f0.type = 1) (c1 : P.cellsOf f1.type = 1) (o0 : f0.offset = 0) (o1 : f1.offset = 1)
    (h : DataW.trod enc P W 0 (fun _ => true) true fuel t [x] = some y) :
    ∃ l : List (Int × Int), RdP (ofWorld W) (cln W x) k1 k2 l ∧ ∀ p ∈ l, (Lit.int k1 p.1).wf = true ∧ (Lit.int k2 p.2).wf = true := by
  rcases DataW.trod_slice ht h with ⟨hcs, _⟩ | ⟨a, len, cap, elems, rest, n, _, hcs, _, _, hl, hm, hlen, hel, hsr, _⟩
  · simp only [List.cons.injEq, and_true] at hcs
    subst hcs
    exact ⟨[], ⟨none, 0, rfl, Nat.le_refl _, .inl rfl⟩, by simp⟩
  · simp only [List.cons.injEq, and_true] at hcs
    subst hcs
    -- each element
    have each : ∀ i, i < len → ∃ p : Int × Int, W.cell? (a.add (i * 2)) = some (.int k1 p.1) ∧ W.cell? (a.add (i * 2 + 1)) = some (.int k2 p.2) ∧ (Lit.int k1 p.1).wf = true ∧ (Lit.int k2 p.2).wf = true := by
      intro i hi
      have hE := hel i hi
      rw [List.getElem?_eq_getElem (by omega), Option.bind_eq_some_iff, hc] at hE
      obtain ⟨cs, hcs, hy⟩ := hE
      obtain ⟨y0, y1, m, _, hl2, t0, t1⟩ := trod_struct2 he hy
      rw [c0, o0] at t0
      rw [c1, o1] at t1
      rw [hc] at hl2
      obtain ⟨n0, e0, _, w0⟩ := DataW.trod_int h0 t0
      obtain ⟨n1, e1, _, w1⟩ := DataW.trod_int h1 t1
      have hcells := (World.cells?_some hcs).2.2
      match cs, hl2, e0, e1 with
      | [u, v], _, e0, e1 =>
        simp at e0 e1
        subst e0 e1
        have q0 := hcells 0 (by omega)
        have q1 := hcells 1 (by omega)
        refine ⟨(n0, n1), by simpa [Addr.add] using q0, by rw [← add_one_add]; simpa using q1, w0, w1⟩
    -- all of them
    obtain ⟨l, hll, hlp⟩ : ∃ l : List (Int × Int), l.length = len ∧ ∀ i (hi : i < l.length), W.cell? (a.add (i * 2)) = some (.int k1 l[i].1) ∧ W.cell? (a.add (i * 2 + 1)) = some (.int k2 l[i].2) ∧ (Lit.int k1 l[i].1).wf = true ∧ (Lit.int k2 l[i].2).wf = true := by
      refine ⟨(List.range len).map fun i => if hi : i < len then (each i hi).choose else (0, 0), by simp, fun i hi => ?_⟩
      simp at hi
      simp only [List.getElem_map, List.getElem_range, dif_pos hi]
      exact (each i hi).choose_spec
    subst hll
    refine ⟨l, ?_, fun p hp => ?_⟩
    · by_cases h00 : l = []
      · subst h00
        by_cases hcap : cap = 0
        · subst hcap
          simp only [cln]
          split
          · exact ⟨_, _, rfl, Nat.zero_le _, .inl rfl⟩
          · simp only [List.length_nil, and_self, if_true]
            exact ⟨_, _, rfl, Nat.le_refl _, .inl rfl⟩
        · obtain ⟨hrl, hr⟩ := hsr rfl
          have := hr 0 (by simp; omega)
          rw [List.getElem?_eq_getElem (by simp at hrl; omega), Option.bind_eq_some_iff] at this
          obtain ⟨cs, hcs, _⟩ := this
          have q := (World.cells?_some hcs).2.2 0 (by rw [hc]; omega)
          have hcl := (World.cells?_some hcs).2.1
          rw [hc] at hcl
          rw [List.getElem?_eq_getElem (by omega)] at q
          have q0 : W.cell? a = some cs[0] := by simpa [Addr.add] using q
          have hsp : a.spot = none := World.cell?_spot q0
          obtain ⟨b, o, s⟩ := a
          simp only at hsp
          subst hsp
          have hic : isCells W b = true := (ofWorld_ld q0).2
          simp only [cln, hic, and_self, if_true]
          exact ⟨_, _, rfl, Nat.zero_le _, .inl rfl⟩
      · have hp := List.length_pos_iff.2 h00
        obtain ⟨q0, _⟩ := hlp 0 hp
        have hsp : a.spot = none := by simpa [Addr.add] using World.cell?_spot q0
        obtain ⟨b, o, s⟩ := a
        simp only at hsp
        subst hsp
        have hic : isCells W b = true := (ofWorld_ld (by rw [add_plain] at q0; exact q0)).2
        simp only [cln, hic, and_self, if_true]
        refine ⟨_, cap, rfl, hl, .inr ⟨b, o, none, rfl, ?_⟩⟩
        have hpl := prs_length k1 k2 l
        rw [← hpl]
        refine lds_of_ld (by intro e; rw [e] at hpl; simp at hpl; omega) fun j hj => ?_
        have hj2 : j / 2 < l.length := by omega
        obtain ⟨r0, r1, _⟩ := hlp (j / 2) hj2
        have hat := prs_at k1 k2 l (j / 2) hj2
        rw [add_plain] at r0 r1
        rcases (by omega : j = j / 2 * 2 ∨ j = j / 2 * 2 + 1) with hjj | hjj
        · have e : (prs k1 k2 l)[j] = .int k1 l[j / 2].1 := by
            have := congrArg (fun z => z[0]?) hat
            simp only [List.getElem?_take, List.getElem?_drop, Nat.zero_lt_succ, if_true, Nat.add_zero] at this
            rw [← hjj, List.getElem?_eq_getElem hj] at this
            simpa using this
          rw [e]
          have := (ofWorld_ld r0).1
          rw [← hjj] at this
          exact this
        · have e : (prs k1 k2 l)[j] = .int k2 l[j / 2].2 := by
            have := congrArg (fun z => z[1]?) hat
            simp only [List.getElem?_take, List.getElem?_drop, show 1 < 2 from Nat.one_lt_two, if_true] at this
            rw [← hjj, List.getElem?_eq_getElem hj] at this
            simpa using this
          rw [e]
          have := (ofWorld_ld r1).1
          rw [← hjj] at this
          exact this
    · obtain ⟨i, hi, rfl⟩ := List.getElem_of_mem hp
      exact (hlp i hi).2.2

/-- A slice that is handed in is no longer than any. -/
theorem cells_le {t e : TypeId} {fuel : Nat} {x : Value} {y : DataW H × List MemPlace} (ht : P.underlying t = some (.slice e)) (h : DataW.trod enc P W 0 (fun _ => true) true fuel t [x] = some y)
    {a : Option Addr} {n c : Nat} (hx : cln W x = .slice a n c) : n ≤ 9223372036854775807 := by
  rcases DataW.trod_slice ht h with ⟨hcs, _⟩ | ⟨a', len, cap, elems, rest, m, _, hcs, _, _, hl, hm, _⟩
  · simp only [List.cons.injEq, and_true] at hcs
    subst hcs
    simp only [cln, plain, if_true] at hx
    cases hx
    exact Nat.zero_le _
  · simp only [List.cons.injEq, and_true] at hcs
    subst hcs
    have hm' : cap ≤ 9223372036854775807 := hm
    simp only [cln] at hx
    split at hx
    · cases hx; omega
    · split at hx
      · cases hx; exact Nat.zero_le _
      · cases hx
end
end Go.Ae
