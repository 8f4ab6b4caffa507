/-
  Arguments found in the abstract heap: slices of whole numbers, and where their room ends.
-/
import Derived.Test.YtmmpnmekiplhfaaGreatAeMore
namespace Go.Ae
open Go Go.RowKit Go.ChangeShapes Go.WideShapes Go.ChangeAt

theorem cln_spot {W : World} {v : Value} {a : Addr} {n c : Nat} (h : cln W v = .slice (some a) n c) : a.spot = none ∨ a.spot = some 1 := by
  unfold cln at h
  split at h
  · split at h
    · cases h
    · cases h
  · split at h
    · rename_i hc; cases h; exact .inl hc.1
    · split at h
      · cases h; exact .inr rfl
      · cases h
  · rename_i v h1 h2
    split at h
    · subst h; exact absurd rfl (h2 a n c)
    · cases h

/-- A slice of whole numbers that is handed in; its room. -/
theorem open_ints_sp {H : Type} {enc : TypeId × Value → H} {P : Program} {W : World} {t e : TypeId} {v : Value} {d : DataW H} {p : List MemPlace} {r : Reach} {b0 : Nat} (ht : P.underlying t = some (.slice e))
    (he : P.underlying e = some (.int .i64)) (hc : P.cellsOf e = 1) (hval : Value.okWide P W r b0 t v) (hd : DataW.Trod enc P W 0 (fun _ => true) true t v d p) :
    ∃ (ns : List Int) (u : Value), Rd (ofWorld W) u (ints ns) ∧ VR (emb W) u v ∧ (∀ n ∈ ns, (Lit.int .i64 n).wf = true) ∧ ((d = .nil ∧ ns = []) ∨ ∃ elems spare, d = .slice elems spare ∧ elems.length = ns.length) ∧
      ∀ a n c, u = .slice (some a) n c → a.spot = none ∨ a.spot = some 1 := by
  obtain ⟨a0, len, cap, rfl⟩ := okWide_slice ht hval
  obtain ⟨fuel, hf⟩ := hd
  rcases open_ints ht he hc hf with ⟨hcs, hx⟩ | ⟨a, len', cap', zs, hcs, _, hl, hm, hz, hx, hcell, hwf⟩
  · simp [Value.cells] at hcs
    obtain ⟨rfl, rfl, rfl⟩ := hcs
    simp only [Prod.mk.injEq] at hx
    exact ⟨[], .slice none 0 0, ⟨none, 0, rfl, Nat.le_refl _, .inl rfl⟩, .sl0 0 0, by simp, .inl ⟨hx.1, rfl⟩, fun a n c h => by cases h⟩
  · simp [Value.cells] at hcs
    obtain ⟨rfl, rfl, rfl⟩ := hcs
    simp only [if_true] at hz
    simp only [Prod.mk.injEq] at hx
    have := Rd.of_cells (W := W) (a := a) (vs := ints zs) hl (by simpa using hz) (fun j hj => by
      simp at hj
      refine ⟨_, hcell j hj, ?_⟩
      simp [cln_int, hj])
    refine ⟨zs.take len, _, ?_, this.2, fun n hn => hwf n (List.mem_of_mem_take hn), .inr ⟨_, _, hx.1, ?_⟩, fun a n c h => cln_spot h⟩
    · simpa [ints, List.map_take] using this.1
    · simp [lits]
end Go.Ae
