/-
  Rows compared cell by cell, strings, bytes made a string, parts of arrays, copy, maps.
-/
import Derived.Test.YtmmpnmekiplhfaaGreatAeSim5
import Derived.Laws.StructEq
import Derived.Laws.BytesString
namespace Go.Ae
open Go

variable {P : Program} {φ : Emb} {h : H} {w : World} {ρ ρ' : Operand → Value}

theorem ldForm_int {t : TypeId} {k : IntKind} (hu : P.underlying t = some (.int k)) : ldForm P t = some none := by simp [ldForm, hu]
theorem ldForm_bool {t : TypeId} (hu : P.underlying t = some .bool) : ldForm P t = some none := by simp [ldForm, hu]

theorem agg_at {xs xs' : Array Value} {o : Nat} {u : Value} (hx : VR φ (.agg xs) (.agg xs')) (e : xs[o]? = some u) {t : TypeId} (hf : ldForm P t = some none) : ∃ u', (part t xs' o).run P w = .ok u' w ∧ VR φ u u' :=
  part_run hf hx (by simp only [fld]; exact e)

theorem isInt_some {t : TypeId} (h : isInt P t = true) : ∃ k, P.underlying t = some (.int k) := by
  unfold isInt at h
  split at h
  · rename_i k hu; exact ⟨k, hu⟩
  · cases h
theorem isBool_some {t : TypeId} (h : isBool P t = true) : P.underlying t = some .bool := by
  unfold isBool at h
  split at h
  · rename_i hu; exact hu
  · cases h

theorem aggEq_run (d : Nat) : ∀ (fs : List Field) {xs ys xs' ys' : Array Value} {r : Bool}, (∀ f ∈ fs, (isInt P f.type || isBool P f.type) = true ∧ f.name ≠ "_") → VR φ (.agg xs) (.agg xs') → VR φ (.agg ys) (.agg ys') →
    aggEq (fs.map fun f => (f.offset, isInt P f.type)) xs ys = some r → (Op.eqFields (d + 1) xs' ys' fs).run P w = .ok r w
  | [], _, _, _, _, _, _, _, _, e => by
    simp only [List.map_nil, aggEq, Option.some.injEq] at e
    subst e
    simp [Op.eqFields]
  | f :: fs, xs, ys, xs', ys', r, hf, hx, hy, e => by
    have hf0 := hf f (by simp)
    have ih : ∀ r, aggEq (fs.map fun f => (f.offset, isInt P f.type)) xs ys = some r → (Op.eqFields (d + 1) xs' ys' fs).run P w = .ok r w := fun r => aggEq_run d fs (fun g hg => hf g (by simp [hg])) hx hy
    simp only [List.map_cons, aggEq] at e
    simp only [Op.eqFields, if_pos hf0.2, Sem.run_bind]
    split at e
    · rename_i k a k' b ha hb
      split at e
      · rename_i hk
        obtain ⟨rfl, hi⟩ := hk
        obtain ⟨k'', hu⟩ := isInt_some hi
        obtain ⟨u, r1, v1⟩ := agg_at (P := P) (w := w) hx ha (ldForm_int hu)
        obtain ⟨v, r2, v2⟩ := agg_at (P := P) (w := w) hy hb (ldForm_int hu)
        cases v1.int_inv
        cases v2.int_inv
        simp only [r1, r2, Result.andThen_ok, run_equalIn_int w d f.type k k'' a b hu]
        split at e
        · rename_i hab
          simp only [hab, Bool.not_true, Bool.false_eq_true, if_false]
          exact ih r e
        · rename_i hab
          cases e
          simp [hab]
      · cases e
    · rename_i a b ha hb
      split at e
      · rename_i hi
        have hu : P.underlying f.type = some .bool := by
          have := hf0.1
          simp only [hi, Bool.false_or] at this
          exact isBool_some this
        obtain ⟨u, r1, v1⟩ := agg_at (P := P) (w := w) hx ha (ldForm_bool hu)
        obtain ⟨v, r2, v2⟩ := agg_at (P := P) (w := w) hy hb (ldForm_bool hu)
        cases v1.bool_inv
        cases v2.bool_inv
        simp only [r1, r2, Result.andThen_ok, run_equalIn_bool' w d f.type a b hu]
        split at e
        · rename_i hab
          simp only [hab, Bool.not_true, Bool.false_eq_true, if_false]
          exact ih r e
        · rename_i hab
          cases e
          simp [hab]
      · cases e
    · cases e

theorem VR.agg_inv {φ : Emb} {xs : Array Value} {v : Value} (h : VR φ (.agg xs) v) : ∃ ys, v = .agg ys := by cases h; exact ⟨_, rfl⟩

theorem eqs_run {t : TypeId} {x y : Operand} {l : List (Nat × Bool)} (hl : flatOffs P t = some l) {a b : Array Value} {a' b' : Value} (hx : VR φ (.agg a) a') (hy : VR φ (.agg b) b') {r : Bool} (e : aggEq l a b = some r) (neg : Bool) :
    (do eqGuard (if neg then .neq else .eql) t x y a' b'; binOp (if neg then .neq else .eql) t a' b' : Sem Value).run P w = .ok (.bool (r != neg)) w := by
  obtain ⟨xs, rfl⟩ := hx.agg_inv
  obtain ⟨ys, rfl⟩ := hy.agg_inv
  unfold flatOffs at hl
  split at hl
  · rename_i fs hu
    split at hl
    · rename_i hc
      obtain ⟨hall, hst, hgd⟩ := hc
      cases hl
      have hall' : ∀ f ∈ fs.toList, (isInt P f.type || isBool P f.type) = true ∧ f.name ≠ "_" := by
        intro f hf
        rw [List.all_eq_true] at hall
        have := hall f hf
        rw [Bool.and_eq_true] at this
        refine ⟨this.1, ?_⟩
        have h2 := this.2
        intro hn
        rw [hn] at h2
        simp at h2
      have hfo : P.fieldsOf t = fs := by simp [Program.fieldsOf, hu]
      have hq : (Op.equalIn 10000 t (.agg xs) (.agg ys)).run P w = .ok r w := by
        have := run_equalIn_struct (P := P) w 9999 t xs ys (by rw [hfo]; exact hu) hst
        rw [this, hfo]
        exact aggEq_run 9998 fs.toList hall' hx hy e
      rw [Sem.run_bind, run_eqGuard_agg w _ t x y xs ys hgd]
      cases neg
      · simp only [Result.andThen_ok, Bool.false_eq_true, if_false, run_eql_struct, hq]
        simp
      · simp only [Result.andThen_ok, if_true, run_neq_struct, hq]
        simp
    · cases hl
  · cases hl

theorem sqs_run {t : TypeId} {x y : Operand} {a b : ByteArray} {a' b' : Value} (hx : VR φ (.string a) a') (hy : VR φ (.string b) b') (neg : Bool) :
    (do eqGuard (if neg then .neq else .eql) t x y a' b'; binOp (if neg then .neq else .eql) t a' b' : Sem Value).run P w = .ok (.bool (decide (a.data = b.data) != neg)) w := by
  cases hx.string_inv
  cases hy.string_inv
  have hq : (a.toList == b.toList) = decide (a.data = b.data) := by
    rw [ByteArray.toList_eq, ByteArray.toList_eq]
    by_cases hd : a.data = b.data
    · simp [hd]
    · have : ¬ a.data.toList = b.data.toList := fun e => hd (Array.toList_inj.1 e)
      simp [hd]
  cases neg
  · simp [eqGuard, binOp, Op.stringOp, hq]
  · simp [eqGuard, binOp, Op.stringOp, hq]

theorem bytesOf_map : ∀ {cs : List Value} {l : List Int}, bytesOf cs = some l → cs = l.map (Value.int .u8)
  | [], l, e => by simp [bytesOf] at e; subst e; rfl
  | v :: vs, l, e => by
    unfold bytesOf at e
    split at e
    · rename_i heq; cases heq
    · rename_i n vs' heq
      cases heq
      cases hb : bytesOf vs with
      | none => simp [hb] at e
      | some l' =>
        simp [hb] at e
        subst e
        rw [bytesOf_map hb]
        rfl
    · cases e

theorem VRs.u8s {φ : Emb} : ∀ {l : List Int} {cs : List Value}, VRs φ (l.map (Value.int .u8)) cs → cs = l.map (Value.int .u8)
  | [], cs, h => List.eq_nil_of_length_eq_zero (by simpa using h.1.symm)
  | n :: l, [], h => by have := h.1; simp at this
  | n :: l, c :: cs, h => by
    simp only [List.map_cons]
    rw [(show VR φ (.int .u8 n) c from h.head).int_inv, VRs.u8s (l := l) h.tail]

theorem push_fold : ∀ (l : List Int) (s : ByteArray), l.foldl (fun r n => r.push (UInt8.ofNat n.toNat)) s = ⟨s.data ++ (l.map fun n => UInt8.ofNat n.toNat).toArray⟩
  | [], s => by simp
  | n :: l, s => by
    rw [List.foldl_cons, push_fold l]
    congr 1
    simp [ByteArray.push]

theorem str_run (S : Sim φ h w) {s t : TypeId} (hs : isBytes P s = true) (ht : P.underlying t = some .string) {x x' : Value} (hx : VR φ x x') {n : Nat} (hn : lenOf x = some n) {cs : List Value} (hc : cellsOf h 1 n x = some cs) {l : List Int} (hl : bytesOf cs = some l) :
    (convert s t x').run P w = .ok (.string (strOf l)) w := by
  unfold isBytes at hs
  split at hs
  · rename_i e hu
    split at hs
    · rename_i he
      obtain ⟨a, c, a', c', rfl, rfl⟩ := lenOf_inv hn hx
      rw [run_convert_bytes_string w s t e a' n c' hu he ht]
      obtain ⟨cs', hr, hv, hsz⟩ := firstCells_run (P := P) S hx (fun m hm => by simp [lenOf] at hm; omega) hc
      rw [bytesOf_map hl] at hv
      have hcs := hv.u8s
      have hf : l.foldl (fun r n => r.push (UInt8.ofNat n.toNat)) ByteArray.empty = strOf l := by
        rw [push_fold]
        have he : ByteArray.empty.data = #[] := rfl
        rw [he]
        simp [strOf]
      cases a' with
      | none =>
        have h0 : cs' = #[] := by
          simp only [Builtin.firstCells, Sem.run_pure, Result.ok.injEq] at hr
          exact hr.1.symm
        have hl0 : l = [] := by
          rw [h0] at hcs
          simpa using hcs.symm
        subst hl0
        simp [Conv.bytesToString, strOf]
        rfl
      | some a =>
        rw [← hf]
        refine run_bytesToString w a n c' l ?_
        simp only [Builtin.firstCells, Nat.mul_one] at hr
        rw [hr]
        congr 1
        exact Array.ext' (by simpa using hcs)
    · cases hs
  · cases hs

theorem natOf_run {v v' : Value} {n : Nat} (e : natOf v = some n) (hv : VR φ v v') : ∃ k, (asIntOf v').run P w = .ok (k, (n : Int)) w := by
  obtain ⟨k, rfl, _⟩ := natOf_inv e hv
  exact ⟨k, by simp [asIntOf]⟩

theorem idx_run {t e : TypeId} {len n : Nat} {m : Option Nat} (hu : P.underlying t = some (.array len e)) (hn : sizeOf? P e = some n) (hm : ldForm P e = some m) {x x' i i' v : Value} (hx : VR φ x x') (hi : VR φ i i') {j : Nat} (hj : natOf i = some j) (hlt : j < len)
    (ev : fld (j * n) m x = some v) : ∃ v', (Instr.index t x' i').run P w = .ok v' w ∧ VR φ v v' := by
  obtain ⟨k, rk⟩ := natOf_run (P := P) (w := w) hj hi
  obtain ⟨cs', hcs⟩ : ∃ cs', x' = .agg cs' := by
    unfold fld at ev
    split at ev
    · cases hx; exact ⟨_, rfl⟩
    · cases ev
  subst hcs
  obtain ⟨v', r1, r2⟩ := part_run (P := P) (w := w) hm hx ev
  refine ⟨v', ?_, r2⟩
  unfold sizeOf? at hn
  cases hinf : P.info? e with
  | none => simp [hinf] at hn
  | some ti =>
    simp [hinf] at hn
    have hb : (0 : Int) ≤ j ∧ (j : Int) < len := ⟨by omega, by omega⟩
    simp only [Instr.index, Sem.run_bind, rk, Result.andThen_ok, run_under hu, if_pos hb, run_size hinf, hn, Int.toNat_natCast, r1]

theorem sidx_run {t : TypeId} (hu : P.underlying t = some .string) {x x' i i' : Value} {s : ByteArray} (hs : x = .string s) (hx : VR φ x x') (hi : VR φ i i') {j : Nat} (hj : natOf i = some j) {b : UInt8} (hb : s.data.toList[j]? = some b) :
    (Instr.index t x' i').run P w = .ok (.int .u8 b.toNat) w := by
  subst hs
  cases hx.string_inv
  obtain ⟨k, rk⟩ := natOf_run (P := P) (w := w) hj hi
  have h1 : s[j]? = some b := by
    rw [Array.getElem?_toList] at hb
    obtain ⟨hlt, he⟩ := Array.getElem?_eq_some_iff.1 hb
    have hlt' : j < s.size := hlt
    rw [getElem?_pos s j hlt']
    rw [← he]
    rfl
  simp only [Instr.index, Sem.run_bind, rk, Result.andThen_ok, run_under hu]
  simp [h1]

theorem iaa_run {t e : TypeId} {len n : Nat} (hu : P.underlying t = some (.array len e)) (hn : sizeOf? P e = some n) {x x' i i' : Value} {p : Nat × Nat} (hx : VR φ x x') (ha : adr x = some p) (hi : VR φ i i') {j : Nat} (hj : natOf i = some j) (hlt : j < len) :
    ∃ v', (Instr.indexAt t x' i').run P w = .ok v' w ∧ VR φ (.pointer (some ⟨p.1, p.2 + j * n, none⟩)) v' := by
  obtain ⟨k, rk⟩ := natOf_run (P := P) (w := w) hj hi
  obtain ⟨l, hl, rfl⟩ := adr_some hx ha
  refine ⟨_, ?_, .ptr (off := p.2 + j * n) hl⟩
  unfold sizeOf? at hn
  cases hinf : P.info? e with
  | none => simp [hinf] at hn
  | some ti =>
    simp [hinf] at hn
    have hb : (0 : Int) ≤ j ∧ (j : Int) < len := ⟨by omega, by omega⟩
    simp [Instr.indexAt, rk, run_under hu, Instr.sureAddr, hlt, run_size hinf, hn, add_off, Nat.add_assoc]

theorem cpy_run (S : Sim φ h w) {t u e : TypeId} {sz : Nat} (ty : TypeId) (hu : P.underlying t = some (.slice e)) (hn : sizeOf? P e = some sz) {x x' y y' v : Value} {h' : H} (hx : VR φ x x') (hy : VR φ y y') (ev : cpy h sz x y = some (v, h')) :
    ∃ w' v', (Builtin.copy_ #[t, u] ty #[x', y']).run P w = .ok v' w' ∧ Sim φ h' w' ∧ VR φ v v' ∧ Fr φ h w φ h' w' := by
  unfold cpy at ev
  split at ev
  case h_2 => cases ev
  rename_i base d cap m hlen
  obtain ⟨ya, yc, ya', yc', rfl, rfl⟩ := lenOf_inv hlen hy
  obtain ⟨a', cap', rfl, hcc, hnone, hpos, hex, hinx⟩ := hx.slice_inv
  unfold sizeOf? at hn
  cases hinf : P.info? e with
  | none => simp [hinf] at hn
  | some ti =>
    simp [hinf] at hn
    have hnr : ∀ {cs' : Array Value}, (Builtin.firstCells sz (Nat.min m d) (.slice ya' m yc')).run P w = .ok cs' w →
        (Builtin.copy_ #[t, u] ty #[.slice a' d cap', .slice ya' m yc']).run P w = (match a' with
          | some a => ((storeCells a cs'.toList).run P w).andThen fun _ w' => .ok (.int .i64 (Nat.min m d : Nat)) w'
          | none => .ok (.int .i64 (Nat.min m d : Nat)) w) := by
      intro cs' hr
      cases a' <;> simp [Builtin.copy_, run_under hu, Builtin.lenOf, run_size hinf, hn, hr, goInt]
    split at ev
    · rename_i h0
      cases ev
      have hfc : (Builtin.firstCells sz (Nat.min m d) (.slice ya' m yc')).run P w = .ok #[] w := by
        rw [h0]; cases ya' <;> simp [Builtin.firstCells, loadCells, loadCellsFrom]
      refine ⟨w, .int .i64 0, ?_, S, .int _ _, .refl φ h w⟩
      rw [hnr hfc, h0]
      cases a' <;> simp [storeCells]
    · rename_i h0
      cases hnew : cellsOf h sz (Nat.min m d) (.slice ya m yc) with
      | none => rw [hnew] at ev; cases ev
      | some new =>
        simp only [hnew, Option.bind_some] at ev
        obtain ⟨new', hr, hv, hs⟩ := firstCells_run (P := P) S hy (fun k hk => by simp [lenOf] at hk; subst hk; exact Nat.min_le_left _ _) hnew
        split at ev
        · rename_i i o s
          cases hst : h.sts i o new with
          | none => rw [hst] at ev; cases ev
          | some h1 =>
            simp only [hst, Option.map_some, Option.some.injEq, Prod.mk.injEq] at ev
            obtain ⟨rfl, rfl⟩ := ev
            have hd : 0 < d := by
              rcases Nat.eq_zero_or_pos d with hz | hz
              · exact absurd (by rw [hz]; exact Nat.min_zero m) h0
              · exact hz
            have hl : ∃ l, φ i = some l ∧ a' = some ⟨l.blk, l.base + o, none⟩ := by
              cases s with
              | none => exact (hex i o rfl).2
              | some s =>
                obtain ⟨hle, _⟩ := hinx i o s rfl
                exact hpos i o _ rfl (by omega)
            obtain ⟨l, hl, rfl⟩ := hl
            obtain ⟨w', r, S', F⟩ := S.sts hst hl hv P
            refine ⟨w', .int .i64 (Nat.min m d : Nat), ?_, S', .int _ _, F⟩
            rw [hnr hr]
            simp only [r, Result.andThen_ok]
        · cases ev

/-! Maps whose keys are whole numbers of one kind. -/

theorem run_getMap {r : Nat} {es : Array MapEntry} {ck : Nat} (hb : w.heap[r]? = some (.map es ck)) : (getObj r).run P w = .ok (.map es ck) w := by
  simp [getObj, Sem.run, hb]
theorem run_setMap {r : Nat} {es : Array MapEntry} {ck : Nat} (o : Obj) (hb : w.heap[r]? = some (.map es ck)) : (setObj r o).run P w = .ok () { w with heap := w.heap.setIfInBounds r o } := by
  simp [setObj, Sem.run, hb]

theorem mfind_now {k : IntKind} {n : Int} : ∀ {es : List MapEntry} {i : Nat} {o : Option (Nat × Value)}, mfind k n es i = some o → ∀ k0, Instr.findNow (.int k0) (.int k n) es i = some o
  | [], i, o, e, k0 => by simp only [mfind, Option.some.injEq] at e; subst e; rfl
  | x :: es, i, o, e, k0 => by
    simp only [mfind] at e
    split at e
    · rename_i k' m hk
      split at e
      · rename_i hkk
        subst hkk
        split at e
        · rename_i hnm
          cases e
          simp [Instr.findNow, hk, Instr.sameNow, hnm]
        · rename_i hnm
          have := mfind_now e k0
          simp [Instr.findNow, hk, Instr.sameNow, hnm, this]
      · cases e
    · cases e

theorem mfind_spec {k : IntKind} {n : Int} : ∀ {es : List MapEntry} {i j : Nat} {v : Value}, mfind k n es i = some (some (j, v)) → i ≤ j ∧ ∃ e, es[j - i]? = some e ∧ e.key = .int k n ∧ e.val = v
  | [], i, j, v, e => by simp [mfind] at e
  | x :: es, i, j, v, e => by
    simp only [mfind] at e
    split at e
    · rename_i k' m hk
      split at e
      · rename_i hkk
        subst hkk
        split at e
        · rename_i hnm
          simp only [Option.some.injEq, Prod.mk.injEq] at e
          obtain ⟨rfl, rfl⟩ := e
          refine ⟨Nat.le_refl _, x, by simp, ?_, rfl⟩
          have : n = m := by simpa using hnm
          rw [hk, this]
        · obtain ⟨h1, e', h2, h3⟩ := mfind_spec e
          refine ⟨by omega, e', ?_, h3⟩
          rw [show j - i = (j - (i + 1)) + 1 by omega, List.getElem?_cons_succ]
          exact h2
      · cases e
    · cases e

theorem run_checkInt {kt : TypeId} {k k' : IntKind} (hd : P.underlying kt = some (.int k)) (n : Int) (e : Bool) (d : Nat) : (Instr.checkKey e (d + 1) kt (.int k' n)).run P w = .ok () w := by
  simp [Instr.checkKey, run_under hd]

theorem run_find {kt : TypeId} {k k' : IntKind} (hd : P.underlying kt = some (.int k)) {n : Int} {es : List MapEntry} {o : Option (Nat × Value)} (e : mfind k' n es 0 = some o) : (Instr.findKey kt (.int k' n) es).run P w = .ok o w := by
  simp [Instr.findKey, run_under hd, mfind_now e k]

theorem run_stays (k : IntKind) (n : Int) : (Instr.keyThatStays (.int k n) (.int k n)).run P w = .ok (.int k n) w := by
  simp [Instr.keyThatStays, Instr.sameBits]

theorem VR.map_inv {φ : Emb} {r : Nat} {v : Value} (h : VR φ (.map (some r)) v) : ∃ l, φ r = some l ∧ v = .map (some l.blk) := by
  cases h with | map h => exact ⟨_, h, rfl⟩
theorem VR.map0_inv {φ : Emb} {v : Value} (h : VR φ (.map none) v) : v = .map none := by cases h; rfl

theorem zeroV_run {et : TypeId} {z : Value} (hz : zeroV P et = some z) : plain z = true ∧ (zeroValue et).run P w = .ok z w := by
  unfold zeroV at hz
  split at hz
  · rename_i i hi
    split at hz
    · rename_i zz hzz
      split at hz
      · rename_i hp
        cases hz
        exact ⟨hp, run_zero hi hzz w⟩
      · cases hz
    · cases hz
  · cases hz

theorem mlook_run (S : Sim φ h w) {t kt et : TypeId} {k : IntKind} {z : Value} (hu : P.underlying t = some (.map kt et)) (hk : P.underlying kt = some (.int k)) (hz : zeroV P et = some z) {x x' i i' v : Value} {b : Bool} (hx : VR φ x x') (hi : VR φ i i')
    (ev : mlook h k z x i = some (v, b)) (ok : Bool) : plain v = true ∧ (Instr.lookup t x' i' ok).run P w = .ok (if ok then .tuple #[v, .bool b] else v) w := by
  obtain ⟨hpz, hrz⟩ := zeroV_run (P := P) (w := w) hz
  unfold mlook at ev
  split at ev
  · rename_i k' n
    cases hx.map0_inv
    cases hi.int_inv
    simp only [Option.some.injEq, Prod.mk.injEq] at ev
    obtain ⟨rfl, rfl⟩ := ev
    refine ⟨hpz, ?_⟩
    have hf : mfind k' n [] 0 = some none := rfl
    simp only [Instr.lookup, Sem.run_bind, run_under hu, Result.andThen_ok, Sem.run_pure]
    rw [run_checkInt hk]
    simp only [Result.andThen_ok, run_find hk hf, Sem.run_bind, hrz, Sem.run_pure]
  · rename_i r k' n
    obtain ⟨l, hl, rfl⟩ := hx.map_inv
    cases hi.int_inv
    split at ev
    · rename_i hkk
      subst hkk
      cases hm : h.mget r with
      | none => simp [hm] at ev
      | some m =>
        simp only [hm, Option.bind_some] at ev
        obtain ⟨l2, hl2, hb⟩ := S.maps r m hm
        rw [hl] at hl2; cases hl2
        cases hf : mfind k n m.es 0 with
        | none => simp [hf] at ev
        | some o =>
          simp only [hf, Option.bind_some] at ev
          have hrun : ∀ (r : Value × Bool), (match o with | some (_, v) => (pure (v, true) : Sem (Value × Bool)) | none => do pure (← zeroValue et, false)).run P w = .ok r w →
              (Instr.lookup t (.map (some l.blk)) (.int k n) ok).run P w = .ok (if ok then .tuple #[r.1, .bool r.2] else r.1) w := by
            intro r hr
            simp only [Instr.lookup, Sem.run_bind, run_under hu, Result.andThen_ok, run_getMap hb, Sem.run_pure]
            rw [run_checkInt hk]
            simp only [Result.andThen_ok, run_find hk hf]
            cases o with
            | none =>
              simp only [Sem.run_bind, hrz, Result.andThen_ok, Sem.run_pure, Result.ok.injEq, and_true] at hr ⊢
              subst hr
              cases ok <;> rfl
            | some p =>
              obtain ⟨j, u⟩ := p
              simp only [Sem.run_bind, Result.andThen_ok, Sem.run_pure, Result.ok.injEq, and_true] at hr ⊢
              subst hr
              cases ok <;> rfl
          cases o with
          | none =>
            simp only [Option.some.injEq, Prod.mk.injEq] at ev
            obtain ⟨rfl, rfl⟩ := ev
            exact ⟨hpz, hrun (z, false) (by simp [hrz])⟩
          | some p =>
            obtain ⟨j, u⟩ := p
            simp only at ev
            split at ev
            · rename_i hp
              simp only [Option.some.injEq, Prod.mk.injEq] at ev
              obtain ⟨rfl, rfl⟩ := ev
              exact ⟨hp, hrun (u, true) (by simp)⟩
            · cases ev
    · cases ev
  · cases ev

theorem modify_list (es : List MapEntry) (j : Nat) (f : MapEntry → MapEntry) : (es.toArray.modify j f) = (es.modify j f).toArray := by
  apply Array.ext'
  simp

theorem mput_run (S : Sim φ h w) {t kt et : TypeId} {k : IntKind} (hu : P.underlying t = some (.map kt et)) (hk : P.underlying kt = some (.int k)) {m m' i i' x x' : Value} {h' : H} (hm : VR φ m m') (hi : VR φ i i') (hx : VR φ x x') (ev : mput h k m i x = some h') :
    ∃ w', (Instr.mapUpdate t m' i' x').run P w = .ok () w' ∧ Sim φ h' w' ∧ Fr φ h w φ h' w' := by
  unfold mput at ev
  split at ev
  · rename_i r k' n
    obtain ⟨l, hl, rfl⟩ := hm.map_inv
    cases hi.int_inv
    split at ev
    · rename_i hc
      obtain ⟨rfl, hp⟩ := hc
      have hxe : x' = x := by
        unfold plain at hp
        split at hp <;> first | (cases hp; done) | (cases hx; rfl)
      subst hxe
      cases hmg : h.mget r with
      | none => simp [hmg] at ev
      | some mp =>
        simp only [hmg, Option.bind_some] at ev
        obtain ⟨l2, hl2, hb⟩ := S.maps r mp hmg
        rw [hl] at hl2; cases hl2
        cases hf : mfind k n mp.es 0 with
        | none => simp [hf] at ev
        | some o =>
          simp only [hf, Option.map_some, Option.some.injEq] at ev
          cases o with
          | none =>
            simp only at ev
            subst ev
            obtain ⟨S', F⟩ := S.setMap hmg hl ⟨mp.es ++ [⟨.int k n, x', mp.ck⟩], mp.ck + 1⟩
            refine ⟨_, ?_, S', F⟩
            simp only [Instr.mapUpdate, Sem.run_bind, run_under hu, Result.andThen_ok, run_getMap hb]
            rw [run_checkInt hk]
            simp only [Result.andThen_ok, run_find hk hf, run_setMap _ hb]
            simp
          | some p =>
            obtain ⟨j, v⟩ := p
            simp only at ev
            subst ev
            obtain ⟨_, e, he, hek, hev⟩ := mfind_spec hf
            simp only [Nat.sub_zero] at he
            obtain ⟨S', F⟩ := S.setMap hmg hl ⟨mp.es.modify j fun e => { e with key := .int k n, val := x' }, mp.ck⟩
            refine ⟨_, ?_, S', F⟩
            simp only [Instr.mapUpdate, Sem.run_bind, run_under hu, Result.andThen_ok, run_getMap hb]
            rw [run_checkInt hk]
            simp only [Result.andThen_ok, run_find hk hf]
            have hge : ((mp.es.toArray[j]?).map (·.key)).getD (.int k n) = .int k n := by simp [he, hek]
            simp only [hge, Sem.run_bind, run_stays, Result.andThen_ok, run_setMap _ hb, modify_list]
    · cases ev
  · cases ev

theorem mentry_run (S : Sim φ h w) {t kt et : TypeId} {k : IntKind} {z : Value} (hu : P.underlying t = some (.map kt et)) (hk : P.underlying kt = some (.int k)) (hz : zeroV P et = some z) {m m' i i' v : Value} {h' : H} (hm : VR φ m m') (hi : VR φ i i') (ev : mentry h k z m i = some (v, h')) :
    ∃ w', (Instr.mapEntry t m' i').run P w = .ok v w' ∧ Sim φ h' w' ∧ VR φ v v ∧ Fr φ h w φ h' w' := by
  obtain ⟨hpz, hrz⟩ := zeroV_run (P := P) (w := w) hz
  have hpair : ∀ (u : Value) (n : Int), plain u = true → VR φ (.tuple #[u, .int .i64 n]) (.tuple #[u, .int .i64 n]) := fun u n hp =>
    .tuple' (VRs.cons (.plain hp) (VRs.cons (.int _ _) (.nil φ)))
  unfold mentry at ev
  split at ev
  · rename_i r k' n
    obtain ⟨l, hl, rfl⟩ := hm.map_inv
    cases hi.int_inv
    split at ev
    · rename_i hkk
      subst hkk
      cases hmg : h.mget r with
      | none => simp [hmg] at ev
      | some mp =>
        simp only [hmg, Option.bind_some] at ev
        obtain ⟨l2, hl2, hb⟩ := S.maps r mp hmg
        rw [hl] at hl2; cases hl2
        cases hf : mfind k n mp.es 0 with
        | none => simp [hf] at ev
        | some o =>
          simp only [hf, Option.bind_some] at ev
          cases o with
          | none =>
            simp only [Option.some.injEq, Prod.mk.injEq] at ev
            obtain ⟨rfl, rfl⟩ := ev
            obtain ⟨S', F⟩ := S.setMap hmg hl ⟨mp.es ++ [⟨.int k n, z, mp.ck⟩], mp.ck + 1⟩
            refine ⟨_, ?_, S', hpair _ _ hpz, F⟩
            simp only [Instr.mapEntry, Sem.run_bind, run_under hu, Result.andThen_ok, run_getMap hb]
            rw [run_checkInt hk]
            simp only [Result.andThen_ok, run_find hk hf, Sem.run_bind, hrz, run_setMap _ hb, Sem.run_pure, goInt]
            simp
          | some p =>
            obtain ⟨j, u⟩ := p
            simp only at ev
            split at ev
            · rename_i hp
              simp only [Option.some.injEq, Prod.mk.injEq] at ev
              obtain ⟨rfl, rfl⟩ := ev
              obtain ⟨_, e, he, hek, hev⟩ := mfind_spec hf
              simp only [Nat.sub_zero] at he
              obtain ⟨S', F⟩ := S.setMap hmg hl ⟨mp.es.modify j fun e => { e with key := .int k n }, mp.ck⟩
              refine ⟨_, ?_, S', hpair _ _ hp, F⟩
              simp only [Instr.mapEntry, Sem.run_bind, run_under hu, Result.andThen_ok, run_getMap hb]
              rw [run_checkInt hk]
              simp only [Result.andThen_ok, run_find hk hf]
              have hge : ((mp.es.toArray[j]?).map (·.key)).getD (.int k n) = .int k n := by simp [he, hek]
              simp only [hge, Sem.run_bind, run_stays, Result.andThen_ok, run_setMap _ hb, modify_list, Sem.run_pure, goInt]
              simp [he]
            · cases ev
    · cases ev
  · cases ev

theorem mborn_idx {n : Int} : ∀ {es : List MapEntry} {i j : Nat}, mborn n es i = some j → ∃ d, j = i + d ∧ (es.toArray.findIdx? fun e => (e.born : Int) == n) = some d
  | [], i, j, e => by cases e
  | x :: es, i, j, e => by
    simp only [mborn] at e
    split at e
    · rename_i hx
      cases e
      exact ⟨0, rfl, by simp [List.findIdx?_cons, hx]⟩
    · rename_i hx
      obtain ⟨d, rfl, hd⟩ := mborn_idx e
      refine ⟨d + 1, by omega, ?_⟩
      simp only [List.findIdx?_toArray] at hd ⊢
      simp [List.findIdx?_cons, hx, hd]

theorem mstore_run (S : Sim φ h w) (t : TypeId) {m m' s s' x x' : Value} {h' : H} (hm : VR φ m m') (hs : VR φ s s') (hx : VR φ x x') (ev : mstore h m s x = some h') :
    ∃ w', (Instr.entryStore t m' s' x').run P w = .ok () w' ∧ Sim φ h' w' ∧ Fr φ h w φ h' w' := by
  unfold mstore at ev
  split at ev
  · rename_i r k n
    obtain ⟨l, hl, rfl⟩ := hm.map_inv
    cases hs.int_inv
    split at ev
    · rename_i hp
      have hxe : x' = x := by
        unfold plain at hp
        split at hp <;> first | (cases hp; done) | (cases hx; rfl)
      subst hxe
      cases hmg : h.mget r with
      | none => simp [hmg] at ev
      | some mp =>
        simp only [hmg, Option.bind_some] at ev
        obtain ⟨l2, hl2, hb⟩ := S.maps r mp hmg
        rw [hl] at hl2; cases hl2
        cases hf : mborn n mp.es 0 with
        | none => simp [hf] at ev
        | some j =>
          simp only [hf, Option.map_some, Option.some.injEq] at ev
          subst ev
          obtain ⟨d, hd, hfi⟩ := mborn_idx hf
          have : j = d := by omega
          subst this
          obtain ⟨S', F⟩ := S.setMap hmg hl ⟨mp.es.modify j fun e => { e with val := x' }, mp.ck⟩
          refine ⟨_, ?_, S', F⟩
          simp only [Instr.entryStore, Sem.run_bind, Result.andThen_ok, run_getMap hb, asInt, asIntOf, Sem.run_pure]
          simp only [hfi, run_setMap _ hb, modify_list]
    · cases ev
  · cases ev
end Go.Ae
