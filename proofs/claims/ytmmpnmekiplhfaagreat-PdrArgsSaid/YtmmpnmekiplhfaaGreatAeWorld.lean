/-
  The abstract heap of a whole world, of which nothing may be written; and how the kit's openings of arguments are found in it.
-/
import Derived.Test.YtmmpnmekiplhfaaGreatAeWp
namespace Go.Ae
open Go Go.RowKit Go.ChangeShapes Go.WideShapes Go.ChangeAt

def isCells (W : World) (b : Nat) : Bool := match W.heap[b]? with | some (.cells _ _ _) => true | _ => false

/-- Every block by its own number; one number more, for slices without any place. -/
def emb (W : World) : Emb := fun i => match W.heap[i]? with
  | some (.cells c _ _) => some ⟨i, 0, c.size⟩
  | some _ => none
  | none => if i = W.heap.size then some ⟨0, 0, 0⟩ else none

/-- What a value is in that heap. -/
def cln (W : World) : Value → Value
  | .pointer (some a) => if a.spot = none ∧ isCells W a.block = true then .pointer (some a) else junk
  | .slice (some a) n c => if a.spot = none ∧ isCells W a.block = true then .slice (some a) n c
    else if n = 0 ∧ c = 0 then .slice (some ⟨W.heap.size, 0, some 1⟩) 0 0 else junk
  | v => if plain v = true then v else junk

theorem emb_cells {W : World} {b : Nat} (h : isCells W b = true) : ∃ n, emb W b = some ⟨b, 0, n⟩ := by
  unfold isCells at h
  split at h
  · rename_i c e fz hb; exact ⟨c.size, by simp [emb, hb]⟩
  · cases h

theorem cln_vr (W : World) (v : Value) : VR (emb W) (cln W v) v := by
  unfold cln
  split
  · rename_i a
    split
    · rename_i ha
      obtain ⟨n, hn⟩ := emb_cells ha.2
      obtain ⟨b, o, s⟩ := a
      obtain ⟨rfl, _⟩ := ha
      simpa using VR.ptr (off := o) hn
    · exact .junk _
  · rename_i a n c
    split
    · rename_i ha
      obtain ⟨m, hm⟩ := emb_cells ha.2
      obtain ⟨b, o, s⟩ := a
      obtain ⟨rfl, _⟩ := ha
      simpa using VR.sl (off := o) (n := n) (c := c) hm
    · split
      · rename_i h0
        obtain ⟨rfl, rfl⟩ := h0
        refine .slx (l := ⟨0, 0, 0⟩) (by simp [emb]) (Nat.le_refl _) (Nat.le_refl _) (.inl rfl) (by simp)
      · exact .junk _
  · split
    · exact .plain ‹_›
    · exact .junk _

def ofWorld (W : World) : H := ⟨.nil, fun i => match W.heap[i]? with | some (.cells c _ _) => some ⟨c.toList.map (cln W), true⟩ | _ => none, W.heap.size + 1, .nil⟩

theorem ofWorld_get (W : World) (i : Nat) : (ofWorld W).get i = match W.heap[i]? with | some (.cells c _ _) => some ⟨c.toList.map (cln W), true⟩ | _ => none := by
  unfold H.get ofWorld; simp [Tr.get_nil]

theorem ofWorld_some {W : World} {i : Nat} {k : Blk} (h : (ofWorld W).get i = some k) : ∃ c e fz, W.heap[i]? = some (.cells c e fz) ∧ k = ⟨c.toList.map (cln W), true⟩ := by
  rw [ofWorld_get] at h
  split at h
  · rename_i c e fz hb; cases h; exact ⟨c, e, fz, hb, rfl⟩
  · cases h

theorem ofWorld_sim (W : World) : Sim (emb W) (ofWorld W) W where
  bears := fun i k h => by
    obtain ⟨c, e, fz, hb, rfl⟩ := ofWorld_some h
    refine ⟨⟨i, 0, c.size⟩, by simp [emb, hb], c, e, fz, hb, rfl, by simp, by simp, ?_⟩
    intro j v hv
    simp only [List.getElem?_map, Option.map_eq_some_iff] at hv
    obtain ⟨v', hv', rfl⟩ := hv
    exact ⟨v', by simpa using hv', cln_vr W v'⟩
  apart := fun i i' k k' l l' _ h _ _ _ hro => by
    obtain ⟨c, e, fz, hb, rfl⟩ := ofWorld_some h
    cases hro
  maps := fun i m h => by simp [H.mget, ofWorld, Tr.get_nil] at h
  mapart := fun i i' m m' l l' _ h => by simp [H.mget, ofWorld, Tr.get_nil] at h

theorem ofWorld_fresh (W : World) : Fresh (emb W) (ofWorld W) := by
  intro i hi
  simp only [ofWorld] at hi
  have : W.heap[i]? = none := by simp; omega
  simp only [emb, this]
  rw [if_neg (by omega)]

theorem ofWorld_owns (W : World) (b : Nat) : ¬ Owns (emb W) (ofWorld W) b := by
  rintro (⟨i, k, l, h, hro, _⟩ | ⟨i, m, l, h, _⟩)
  · obtain ⟨c, e, fz, hb, rfl⟩ := ofWorld_some h
    cases hro
  · simp [H.mget, ofWorld, Tr.get_nil] at h

theorem ofWorld_ld {W : World} {b o : Nat} {v : Value} (h : W.cell? ⟨b, o, none⟩ = some v) : (ofWorld W).ld b o = some (cln W v) ∧ isCells W b = true := by
  unfold H.ld
  rw [ofWorld_get]
  unfold isCells
  unfold World.cell? at h
  split at h
  · split at h
    · simp at h
    · simp at h
      rename_i c e fz hb _
      simp only at hb
      rw [hb]
      simp [h]
  · cases h

/-- A law over a world: what the evaluator says of it is so. -/
theorem law_true {P : Program} {spec : FuncId → List Value → H → Option (Value × H)} (hspec : SpecOk P spec) {f : FuncId} {args args' : List Value} {W : World}
    (ev : AF (env P spec) f args (ofWorld W) fun v _ => v = .bool true) (ha : VRs (emb W) args args') :
    Calls P f args'.toArray W fun e w' => e = .returned (.bool true) ∧ Below W.heap.size W w' := by
  obtain ⟨n, v, h', e, rfl⟩ := ev
  exact call_true (E := env P spec) (fun _ _ h => h) hspec (n := n) (by rw [e]; rfl) (ofWorld_sim W) (ofWorld_fresh W) (fun b _ => ofWorld_owns W b) ha

/-- A slice that reads as a row of values, each of one cell. -/
def Rd (h : H) (v : Value) (vs : List Value) : Prop :=
  ∃ base cap, v = .slice base vs.length cap ∧ vs.length ≤ cap ∧ (vs = [] ∨ ∃ b o s, base = some ⟨b, o, s⟩ ∧ h.lds b o vs.length = some vs)

abbrev int (n : Int) : Value := .int .i64 n
abbrev ints (ns : List Int) : List Value := ns.map int

theorem lds_of_ld {h : H} {b o : Nat} {vs : List Value} (hne : vs ≠ []) (hl : ∀ j (hj : j < vs.length), h.ld b (o + j) = some vs[j]) : h.lds b o vs.length = some vs := by
  unfold H.ld at hl
  unfold H.lds
  have h0 := hl 0 (List.length_pos_iff.2 hne)
  cases hk : h.get b with
  | none => simp [hk] at h0
  | some k =>
    simp only [hk, Option.bind_some] at hl ⊢
    have hle : o + vs.length ≤ k.cells.length := by
      have := hl (vs.length - 1) (by have := List.length_pos_iff.2 hne; omega)
      have := (List.getElem?_eq_some_iff.1 this).1
      have := List.length_pos_iff.2 hne
      omega
    rw [if_pos hle]
    congr 1
    apply List.ext_getElem?
    intro j
    rw [List.getElem?_take]
    split
    · rename_i hj
      rw [List.getElem?_drop, hl j hj, List.getElem?_eq_getElem hj]
    · rename_i hj
      rw [List.getElem?_eq_none (by omega)]

theorem ld_of_lds {h : H} {b o n : Nat} {vs : List Value} (e : h.lds b o n = some vs) : vs.length = n ∧ ∀ j (hj : j < vs.length), h.ld b (o + j) = some vs[j] := by
  unfold H.lds at e
  unfold H.ld
  cases hk : h.get b with
  | none => simp [hk] at e
  | some k =>
    simp only [hk, Option.bind_some] at e ⊢
    split at e
    · rename_i hle
      cases e
      refine ⟨by simp; omega, fun j hj => ?_⟩
      simp at hj
      simp only [List.getElem_take, List.getElem_drop]
      exact List.getElem?_eq_getElem _
    · cases e

theorem Rd.of_cells {W : World} {a : Addr} {len cap : Nat} {vs : List Value} (hl : len ≤ cap) (hlen : vs.length = cap) (hc : ∀ j, j < vs.length → ∃ v, W.cell? (a.add j) = some v ∧ vs[j]? = some (cln W v)) :
    Rd (ofWorld W) (cln W (.slice (some a) len cap)) (vs.take len) ∧ VR (emb W) (cln W (.slice (some a) len cap)) (.slice (some a) len cap) := by
  refine ⟨?_, cln_vr W _⟩
  by_cases h0 : cap = 0
  · have : len = 0 := by omega
    subst h0; subst this
    simp only [cln]
    split
    · exact ⟨_, _, rfl, Nat.le_refl _, .inl rfl⟩
    · simp; exact ⟨_, _, rfl, Nat.le_refl _, .inl rfl⟩
  · obtain ⟨v0, hv0, _⟩ := hc 0 (by omega)
    have hsp : a.spot = none := by simpa [Addr.add] using World.cell?_spot hv0
    obtain ⟨b, o, s⟩ := a
    simp only at hsp
    subst hsp
    have hic : isCells W b = true := (ofWorld_ld (by rw [add_plain] at hv0; exact hv0)).2
    simp only [cln, hic, and_self, if_true]
    refine ⟨_, cap, by rw [List.length_take, hlen, Nat.min_eq_left hl], by simp; omega, ?_⟩
    by_cases hn : vs.take len = []
    · exact .inl hn
    · refine .inr ⟨b, o, none, rfl, lds_of_ld hn fun j hj => ?_⟩
      simp at hj
      obtain ⟨v, hv, hvs⟩ := hc j (by omega)
      rw [add_plain] at hv
      rw [(ofWorld_ld hv).1, ← hvs]
      simp only [List.getElem_take]
      rw [List.getElem?_eq_getElem]

theorem cln_int (W : World) (k : IntKind) (n : Int) : cln W (.int k n) = .int k n := rfl

/-- A slice of whole numbers that is handed in. -/
theorem open_ints_rd {H : Type} {enc : TypeId × Value → H} {P : Program} {W : World} {t e : TypeId} {v : Value} {d : DataW H} {p : List MemPlace} {r : Reach} {b0 : Nat} (ht : P.underlying t = some (.slice e))
    (he : P.underlying e = some (.int .i64)) (hc : P.cellsOf e = 1) (hval : Value.okWide P W r b0 t v) (hd : DataW.Trod enc P W 0 (fun _ => true) true t v d p) :
    ∃ (ns : List Int) (u : Value), Rd (ofWorld W) u (ints ns) ∧ VR (emb W) u v ∧ (∀ n ∈ ns, (Lit.int .i64 n).wf = true) ∧ ((d = .nil ∧ ns = []) ∨ ∃ elems spare, d = .slice elems spare ∧ elems.length = ns.length) := by
  obtain ⟨a0, len, cap, rfl⟩ := okWide_slice ht hval
  obtain ⟨fuel, hf⟩ := hd
  rcases open_ints ht he hc hf with ⟨hcs, hx⟩ | ⟨a, len', cap', zs, hcs, _, hl, hm, hz, hx, hcell, hwf⟩
  · simp [Value.cells] at hcs
    obtain ⟨rfl, rfl, rfl⟩ := hcs
    simp only [Prod.mk.injEq] at hx
    exact ⟨[], .slice none 0 0, ⟨none, 0, rfl, Nat.le_refl _, .inl rfl⟩, .sl0 0 0, by simp, .inl ⟨hx.1, rfl⟩⟩
  · simp [Value.cells] at hcs
    obtain ⟨rfl, rfl, rfl⟩ := hcs
    simp only [if_true] at hz
    simp only [Prod.mk.injEq] at hx
    have := Rd.of_cells (W := W) (a := a) (vs := ints zs) hl (by simpa using hz) (fun j hj => by
      simp at hj
      refine ⟨_, hcell j hj, ?_⟩
      simp [cln_int, hj])
    refine ⟨zs.take len, _, ?_, this.2, fun n hn => hwf n (List.mem_of_mem_take hn), .inr ⟨_, _, hx.1, ?_⟩⟩
    · simpa [ints, List.map_take] using this.1
    · simp [lits]
end Go.Ae
