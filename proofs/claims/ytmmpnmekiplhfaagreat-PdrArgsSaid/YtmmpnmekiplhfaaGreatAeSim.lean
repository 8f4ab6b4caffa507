/-
  Each operation that is no call does in the machine what the evaluator says of it.
-/
import Derived.Test.YtmmpnmekiplhfaaGreatAeComp
import Derived.Laws.Append
import Derived.ChangeKeysEq
namespace Go.Ae
open Go

/-- The machine's answer stands for the evaluator's. -/
def Done (φ : Emb) (h : H) (w : World) (v : Value) (h' : H) (r : Result Next) : Prop :=
  ∃ φ' w' v', (r = .ok (.value v') w' ∨ (r = .ok .skip w' ∧ v' = undef)) ∧ Sim φ' h' w' ∧ VR φ' v v' ∧ Fr φ h w φ' h' w'

theorem Done.value {φ : Emb} {h : H} {w : World} {v v' : Value} {r : Result Next} (S : Sim φ h w) (e : r = .ok (.value v') w) (hv : VR φ v v') : Done φ h w v h r :=
  ⟨φ, w, v', .inl e, S, hv, .refl φ h w⟩

theorem run_info {P : Program} {t : TypeId} {i : TypeInfo} (h : P.info? t = some i) (w : World) : (typeInfo t).run P w = .ok i w := by
  simp [typeInfo, h]
theorem run_size {P : Program} {t : TypeId} {i : TypeInfo} (h : P.info? t = some i) (w : World) : (sizeOf t).run P w = .ok i.size w := by
  simp [sizeOf, run_info h]
theorem run_under {P : Program} {t : TypeId} {d : TypeDesc} (h : P.underlying t = some d) (w : World) : (underlying t).run P w = .ok d w := by
  simp [underlying, h]
theorem run_zero {P : Program} {t : TypeId} {i : TypeInfo} {z : Value} (h : P.info? t = some i) (hz : i.zero = some z) (w : World) : (zeroValue t).run P w = .ok z w := by
  simp [zeroValue, run_info h, hz]

theorem zeroOf_some {P : Program} {t : TypeId} {zs : List Value} (h : zeroOf P t = some zs) :
    ∃ i z, P.info? t = some i ∧ i.zero = some z ∧ isTuple z = false ∧ z.cells.toList = zs ∧ ∀ v ∈ zs, plain v = true := by
  unfold zeroOf at h
  split at h
  · rename_i i hi
    split at h
    · rename_i z hz
      split at h
      · rename_i hc
        cases h
        refine ⟨i, z, hi, hz, hc.1, rfl, fun v hv => ?_⟩
        have := hc.2
        rw [Array.all_eq_true_iff_forall_mem] at this
        exact this v (by simpa using hv)
      · cases h
    · cases h
  · cases h

theorem VRs.plain {φ : Emb} {zs : List Value} (h : ∀ v ∈ zs, plain v = true) : VRs φ zs zs :=
  ⟨rfl, fun j x y hx hy => by rw [hx] at hy; cases hy; exact .plain (h x (List.mem_of_getElem? hx))⟩

theorem VR.cells {φ : Emb} {v v' : Value} (h : VR φ v v') (ht : isTuple v = false) : VRs φ v.cells.toList v'.cells.toList := by
  cases h with
  | agg h hi => exact VRs.ofArray h hi
  | tuple h hi => cases ht
  | junk v => cases ht
  | bool b => exact VRs.cons (.bool b) (.nil φ)
  | int k n => exact VRs.cons (.int k n) (.nil φ)
  | string s => exact VRs.cons (.string s) (.nil φ)
  | ptr0 => exact VRs.cons .ptr0 (.nil φ)
  | ptr h => exact VRs.cons (.ptr h) (.nil φ)
  | sl0 n c => exact VRs.cons (.sl0 n c) (.nil φ)
  | sl h => exact VRs.cons (.sl h) (.nil φ)
  | slx h hn hc ha hs => exact VRs.cons (.slx h hn hc ha hs) (.nil φ)
  | map0 => exact VRs.cons .map0 (.nil φ)
  | map h => exact VRs.cons (.map h) (.nil φ)
  | func f h hi h' hi' => exact VRs.cons (.func f h hi h' hi') (.nil φ)
  | nilFunc => exact VRs.cons .nilFunc (.nil φ)
  | iface t h => exact VRs.cons (.iface t h) (.nil φ)
  | nilIface => exact VRs.cons .nilIface (.nil φ)

theorem VR.notTuple {φ : Emb} {v v' : Value} (h : VR φ v v') (ht : isTuple v = false) : isTuple v' = false := by
  cases h <;> first | rfl | cases ht

/-- A new block that holds just these cells. -/
theorem Done.new {φ : Emb} {h : H} {w : World} (S : Sim φ h w) (hf : φ h.next = none) {r : Result Next} (cs : List Value) (cs' : Array Value) (e : TypeId) (hv : VRs φ cs cs'.toList)
    (mkv mkv' : Addr → Value) (hr : r = .ok (.value (mkv' ⟨w.heap.size, 0, none⟩)) { w with heap := w.heap.push (.cells cs' e) })
    (hm : ∀ ψ : Emb, ψ h.next = some ⟨w.heap.size, 0, cs'.size⟩ → VR ψ (mkv ⟨h.next, 0, none⟩) (mkv' ⟨w.heap.size, 0, none⟩)) :
    Done φ h w (mkv ⟨h.next, 0, none⟩) (h.new ⟨cs, false⟩) r := by
  have hl := hv.1
  obtain ⟨S', F⟩ := S.alloc hf cs cs' e (by simp at hl; omega) (by rw [List.take_of_length_le (by simp at hl ⊢; omega)]; exact hv)
  exact ⟨_, _, _, .inl hr, S', hm _ (Emb.add_self _ _ _), F⟩

theorem VR.ptr' {φ : Emb} {i : Nat} {b : Nat} {n : Nat} (h : φ i = some ⟨b, 0, n⟩) : VR φ (.pointer (some ⟨i, 0, none⟩)) (.pointer (some ⟨b, 0, none⟩)) := by
  have := VR.ptr (off := 0) h
  simpa using this
theorem VR.sl' {φ : Emb} {i : Nat} {b : Nat} {n : Nat} (h : φ i = some ⟨b, 0, n⟩) (len cap : Nat) : VR φ (.slice (some ⟨i, 0, none⟩) len cap) (.slice (some ⟨b, 0, none⟩) len cap) := by
  have := VR.sl (off := 0) (n := len) (c := cap) h
  simpa using this

theorem adr_some {φ : Emb} {v v' : Value} {p : Nat × Nat} (h : VR φ v v') (e : adr v = some p) :
    ∃ l, φ p.1 = some l ∧ v' = .pointer (some ⟨l.blk, l.base + p.2, none⟩) := by
  unfold adr at e
  split at e
  · cases e
    cases h with
    | ptr h => exact ⟨_, h, rfl⟩
  · cases e

theorem loadCells_run {P : Program} {w : World} (b o : Nat) : ∀ (n : Nat) (i : Nat) (acc : Array Value) (vs : List Value), vs.length = n →
    (∀ j, j < n → w.cell? ⟨b, o + i + j, none⟩ = vs[j]?) → (loadCellsFrom ⟨b, o, none⟩ i n acc).run P w = .ok (acc ++ vs.toArray) w := by
  intro n
  induction n with
  | zero => intro i acc vs hl _; have : vs = [] := List.eq_nil_of_length_eq_zero hl; subst this; simp [loadCellsFrom]
  | succ n ih =>
    intro i acc vs hl hc
    cases vs with
    | nil => cases hl
    | cons v vs =>
      have h0 := hc 0 (by omega)
      simp only [List.getElem?_cons_zero, Nat.add_zero] at h0
      have ha : Addr.add ⟨b, o, none⟩ i = ⟨b, o + i, none⟩ := by
        unfold Addr.add; split
        · rename_i e; subst e; rfl
        · rfl
      simp only [loadCellsFrom, Sem.run_bind, ha, run_load, h0, Result.andThen_ok]
      rw [ih (i + 1) (acc.push v) vs (by simpa using hl) (fun j hj => by
        have := hc (j + 1) (by omega)
        simp only [List.getElem?_cons_succ] at this
        rw [show o + (i + 1) + j = o + i + (j + 1) by omega]; exact this)]
      simp

theorem loadVar_one {P : Program} {w : World} {t : TypeId} {a : Addr} {v : Value} (hu : ldForm P t = some none) (hc : w.cell? a = some v) :
    (loadVar t a).run P w = .ok v w := by
  have : (isAgg t).run P w = .ok false w := by
    unfold ldForm at hu
    split at hu
    · cases h : P.info? t <;> simp [h] at hu
    · cases h : P.info? t <;> simp [h] at hu
    · rename_i d hs ha hd
      simp only [isAgg, Sem.run_bind, run_under hd, Result.andThen_ok]
      cases d <;> first | rfl | (exfalso; exact hs _ rfl) | (exfalso; exact ha _ _ rfl)
    · cases hu
  simp [loadVar, this, hc]

theorem loadVar_agg {P : Program} {w : World} {t : TypeId} {b o n : Nat} {vs : List Value} (hu : ldForm P t = some (some n)) (hl : vs.length = n)
    (hc : ∀ j, j < n → w.cell? ⟨b, o + j, none⟩ = vs[j]?) : (loadVar t ⟨b, o, none⟩).run P w = .ok (.agg vs.toArray) w := by
  have h1 : (isAgg t).run P w = .ok true w := by
    unfold ldForm at hu
    split at hu
    · rename_i hd; simp [isAgg, run_under hd]
    · rename_i hd; simp [isAgg, run_under hd]
    · cases hu
    · cases hu
  have h2 : (sizeOf t).run P w = .ok n w := by
    unfold ldForm at hu
    split at hu
    · cases hi : P.info? t with
      | none => simp [hi] at hu
      | some i => simp [hi] at hu; rw [run_size hi, hu]
    · cases hi : P.info? t with
      | none => simp [hi] at hu
      | some i => simp [hi] at hu; rw [run_size hi, hu]
    · cases hu
    · cases hu
  have h3 := loadCells_run (P := P) (w := w) b o n 0 #[] vs hl (by simpa using hc)
  simp only [loadVar, Sem.run_bind, h1, Result.andThen_ok, if_true, h2, loadCells, h3, Sem.run_pure]
  simp

theorem fold_put : ∀ (vs : List Value) (cs : Array Value) (off j : Nat),
    ((vs.zipIdx j).foldl (fun cs (x : Value × Nat) => cs.setIfInBounds (off + x.2) x.1) cs).toList = put cs.toList (off + j) vs := by
  intro vs
  induction vs with
  | nil => intro cs off j; rfl
  | cons v vs ih =>
    intro cs off j
    simp only [List.zipIdx_cons, List.foldl_cons, put]
    rw [ih]
    simp [Nat.add_assoc]

theorem fill_run {φ : Emb} (place : Nat → Option (Nat × Nat)) : ∀ (ps : List (Nat × Nat × Value)) (qs : List (Nat × Value)) (cs out : List Value) (cs' : Array Value),
    ps.length = qs.length → (∀ (j : Nat) (p : Nat × Nat × Value) (q : Nat × Value), ps[j]? = some p → qs[j]? = some q → place q.1 = some (p.1, p.2.1) ∧ VR φ p.2.2 q.2) →
    VRs φ cs cs'.toList → fill' cs ps = some out → ∃ out', Instr.fill place cs' qs = some out' ∧ VRs φ out out'.toList := by
  intro ps
  induction ps with
  | nil =>
    intro qs cs out cs' hl _ hv he
    have : qs = [] := List.eq_nil_of_length_eq_zero (by simpa using hl.symm)
    subst this
    simp only [fill', Option.some.injEq] at he
    subst he
    exact ⟨cs', rfl, hv⟩
  | cons p ps ih =>
    intro qs cs out cs' hl hq hv he
    cases qs with
    | nil => cases hl
    | cons q qs =>
      obtain ⟨off, sz, v⟩ := p
      obtain ⟨i, u⟩ := q
      simp only [fill'] at he
      split at he
      · rename_i hc
        obtain ⟨hp, hvu⟩ := hq 0 _ _ rfl rfl
        simp only at hp hvu
        have hcells := hvu.cells hc.1
        have hsz : u.cells.size = v.cells.size := by simpa using hcells.1.symm
        have hlen : cs.length = cs'.size := by simpa using hv.1
        have hfold : (u.cells.zipIdx.foldl (fun cs (x : Value × Nat) => cs.setIfInBounds (off + x.2) x.1) cs').toList = put cs'.toList off u.cells.toList := by
          rw [← Array.foldl_toList, Array.toList_zipIdx]
          simpa using fold_put u.cells.toList cs' off 0
        have hput : ∀ (vs us xs ys : List Value) (o : Nat), VRs φ vs us → VRs φ xs ys → VRs φ (put xs o vs) (put ys o us) := by
          intro vs
          induction vs with
          | nil => intro us xs ys o h1 h2; have : us = [] := List.eq_nil_of_length_eq_zero (by simpa using h1.1.symm); subst this; exact h2
          | cons v vs ih =>
            intro us xs ys o h1 h2
            cases us with
            | nil => have := h1.1; simp at this
            | cons u us =>
              simp only [put]
              refine ih us _ _ _ h1.tail ⟨by simp [h2.1], fun j x y hx hy => ?_⟩
              rw [List.getElem?_set] at hx hy
              have := h2.1
              by_cases e : o = j
              · subst e
                rw [if_pos rfl] at hx hy
                split at hx
                · rw [if_pos (by omega)] at hy; cases hx; cases hy; exact h1.head
                · cases hx
              · rw [if_neg e] at hx hy; exact h2.2 j x y hx hy
        obtain ⟨out', h1, h2⟩ := ih qs _ out (u.cells.zipIdx.foldl (fun cs (x : Value × Nat) => cs.setIfInBounds (off + x.2) x.1) cs') (by simpa using hl)
          (fun j p q hp hq' => hq (j + 1) p q (by simpa using hp) (by simpa using hq')) (by rw [hfold]; exact hput _ _ _ _ _ hcells hv) he
        refine ⟨out', ?_, h2⟩
        simp only [Instr.fill, hp]
        have h2 := hc.2.1
        have h3 := hc.2.2
        rw [if_neg (by simp; omega)]
        exact h1
      · cases he
end Go.Ae
