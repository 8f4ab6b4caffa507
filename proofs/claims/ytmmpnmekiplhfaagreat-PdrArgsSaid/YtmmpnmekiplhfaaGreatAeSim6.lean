/-
  Each operation that is no call does in the machine what the evaluator says of it: all of them.
-/
import Derived.Test.YtmmpnmekiplhfaaGreatAeSim7
namespace Go.Ae
open Go

variable {P : Program} {φ : Emb} {h : H} {w : World} {ρ ρ' : Operand → Value}

theorem compParts_some {place : Nat → Option (Nat × Nat)} : ∀ {ps : List (Nat × Operand)} {r : List (Nat × Nat × Operand)}, compParts place ps = some r →
    r.length = ps.length ∧ ∀ (j : Nat) (p : Nat × Operand) (q : Nat × Nat × Operand), ps[j]? = some p → r[j]? = some q → place p.1 = some (q.1, q.2.1) ∧ q.2.2 = p.2 := by
  intro ps
  induction ps with
  | nil => intro r e; simp [compParts] at e; subst e; exact ⟨rfl, fun j p q h => by simp at h⟩
  | cons p ps ih =>
    intro r e
    obtain ⟨i, x⟩ := p
    simp only [compParts] at e
    cases hp : place i with
    | none => simp [hp] at e
    | some pl =>
      cases hr : compParts place ps with
      | none => simp [hp, hr] at e
      | some r' =>
        simp [hp, hr] at e
        subst e
        obtain ⟨h1, h2⟩ := ih hr
        refine ⟨by simp [h1], fun j a b ha hb => ?_⟩
        cases j with
        | zero => simp at ha hb; subst ha; subst hb; exact ⟨hp, rfl⟩
        | succ j => exact h2 j a b (by simpa using ha) (by simpa using hb)

theorem parts_rel {place : Nat → Option (Nat × Nat)} {ps : List (Nat × Operand)} {r : List (Nat × Nat × Operand)} (hc : compParts place ps = some r)
    (hρ : ∀ x, okOpd x = true → VR φ (ρ x) (ρ' x)) (hok : ∀ p ∈ ps, okOpd p.2 = true) :
    (parts' ρ r).length = (ps.map fun p => (p.1, ρ' p.2)).length ∧ ∀ (j : Nat) (p : Nat × Nat × Value) (q : Nat × Value), (parts' ρ r)[j]? = some p → (ps.map fun p => (p.1, ρ' p.2))[j]? = some q →
      place q.1 = some (p.1, p.2.1) ∧ VR φ p.2.2 q.2 := by
  obtain ⟨h1, h2⟩ := compParts_some hc
  refine ⟨by simp [parts', h1], fun j p q hp hq => ?_⟩
  unfold parts' at hp
  rw [List.getElem?_map] at hp hq
  cases ha : r[j]? with
  | none => simp [ha] at hp
  | some a =>
    cases hb : ps[j]? with
    | none => simp [hb] at hq
    | some b =>
      simp [ha] at hp; simp [hb] at hq
      subst hp; subst hq
      obtain ⟨g1, g2⟩ := h2 j b a hb ha
      exact ⟨g1, by simp only [g2]; exact hρ _ (hok b (List.mem_of_getElem? hb))⟩

theorem map_parts (ps : Array (Nat × Operand)) : (ps.map fun x => (x.1, ρ' x.2)).toList = ps.toList.map fun p => (p.1, ρ' p.2) := by simp

theorem places_run {fs : Array Field} (hs : allSized P fs = true) :
    ∃ places : Array (Nat × Nat), (fs.mapM (fun f => do pure (f.offset, ← sizeOf f.type)) : Sem (Array (Nat × Nat))).run P w = .ok places w ∧ ∀ i p, fieldPlaces P fs i = some p → places[i]? = some p := by
  have key : ∀ l : List Field, (∀ f ∈ l, (P.info? f.type).isSome = true) →
      (l.mapM (fun f => do pure (f.offset, ← sizeOf f.type)) : Sem (List (Nat × Nat))).run P w = .ok (l.map fun f => (f.offset, ((P.info? f.type).map (·.size)).getD 0)) w := by
    intro l
    induction l with
    | nil => intro _; simp
    | cons f l ih =>
      intro hl
      have hf := hl f (by simp)
      obtain ⟨i, hi⟩ := Option.isSome_iff_exists.1 hf
      simp only [List.mapM_cons, Sem.run_bind, run_size hi, Result.andThen_ok, Sem.run_pure, ih (fun g hg => hl g (by simp [hg])), List.map_cons, hi, Option.map_some, Option.getD_some]
  have hall : ∀ f ∈ fs.toList, (P.info? f.type).isSome = true := by
    intro f hf
    unfold allSized at hs
    rw [Array.all_eq_true_iff_forall_mem] at hs
    exact hs f (by simpa using hf)
  refine ⟨(fs.toList.map fun f => (f.offset, ((P.info? f.type).map (·.size)).getD 0)).toArray, ?_, fun i p hp => ?_⟩
  · rw [Array.mapM_eq_mapM_toList]
    simp only [Sem.run_map, key _ hall, Result.andThen_ok]
  · unfold fieldPlaces at hp
    cases hf : fs[i]? with
    | none => simp [hf] at hp
    | some f =>
      simp only [hf, Option.bind_some, sizeOf?] at hp
      cases hi : P.info? f.type with
      | none => simp [hi] at hp
      | some ti =>
        simp [hi] at hp
        subst hp
        simp [hf, hi]

theorem clr_sts (S : Sim φ h w) {h' : H} {z : Array Value} {i o n : Nat} {l : Loc} (hz : ∀ v ∈ z.toList, plain v = true) (hl : φ i = some l) (e : h.sts i o (reps n z.toList) = some h') :
    ∃ w', (storeCells ⟨l.blk, l.base + o, none⟩ (Builtin.zeroCells z n).toList).run P w = .ok () w' ∧ Sim φ h' w' ∧ Fr φ h w φ h' w' :=
  S.sts e hl (zeros_rel hz n _ rfl) P

set_option maxHeartbeats 1000000 in
theorem sim_comp (S : Sim φ h w) (hfr : φ h.next = none) {o : Oper} {i : I} (hc : comp P o = some i) (hok : o.op.operands.all okOpd = true) (hρ : ∀ x, okOpd x = true → VR φ (ρ x) (ρ' x)) {v : Value} {h' : H}
    (ev : evI ρ h i = some (v, h')) : Done φ h w v h' ((execOp ρ' o).run P w) := by
  have hok' : ∀ x ∈ o.op.operands, okOpd x = true := by
    rw [Array.all_eq_true_iff_forall_mem] at hok; exact hok
  have hv : ∀ x ∈ o.op.operands, VR φ (ρ x) (ρ' x) := fun x hx => hρ x (hok' x hx)
  clear hok
  unfold comp at hc
  cases hop : o.op with
  | move x =>
    simp only [hop, Option.some.injEq] at hc hv; subst hc
    simp only [evI, Option.some.injEq, Prod.mk.injEq] at ev; obtain ⟨rfl, rfl⟩ := ev
    exact .value S (by simp [execOp, hop]) (hv x (by simp [Op.operands]))
  | assign x =>
    simp only [hop, Option.some.injEq] at hc hv; subst hc
    simp only [evI, Option.some.injEq, Prod.mk.injEq] at ev; obtain ⟨rfl, rfl⟩ := ev
    exact .value S (by simp [execOp, hop]) (hv x (by simp [Op.operands]))
  | pick c a b =>
    simp only [hop, Option.some.injEq] at hc hv; subst hc
    simp only [evI] at ev
    split at ev
    · rename_i t ht
      cases ev
      have h1 := hv c (by simp [Op.operands])
      rw [ht] at h1
      have h2 := h1.bool_inv
      refine .value S (v' := if t then ρ' a else ρ' b) (by cases t <;> simp [execOp, hop, h2, asBool]) ?_
      cases t
      · exact hv b (by simp [Op.operands])
      · exact hv a (by simp [Op.operands])
    · cases ev
  | alloc t =>
    simp only [hop] at hc
    cases hz : zeroOf P t with
    | none => simp [hz] at hc
    | some zs =>
      simp only [hz, Option.map_some, Option.some.injEq] at hc; subst hc
      simp only [evI, Option.some.injEq, Prod.mk.injEq] at ev; obtain ⟨rfl, rfl⟩ := ev
      obtain ⟨ti, z, h1, h2, h3, h4, h5⟩ := zeroOf_some hz
      exact .new S hfr zs z.cells t (by rw [h4]; exact .plain h5) (fun a => .pointer (some a)) (fun a => .pointer (some a))
        (by simp [execOp, hop, Instr.alloc, run_zero h1 h2, newVar, newRow]) (fun ψ hψ => .ptr' hψ)
  | box t x =>
    simp only [hop, Option.some.injEq] at hc hv; subst hc
    simp only [evI] at ev
    split at ev
    · cases ev
    · rename_i ht
      simp only [Option.some.injEq, Prod.mk.injEq] at ev; obtain ⟨rfl, rfl⟩ := ev
      exact .new S hfr _ (ρ' x).cells t ((hv x (by simp [Op.operands])).cells (by simpa using ht)) (fun a => .pointer (some a)) (fun a => .pointer (some a))
        (by simp [execOp, hop, Instr.box, newVar, newRow]) (fun ψ hψ => .ptr' hψ)
  | build t ps =>
    simp only [hop] at hc hok'
    split at hc
    · rename_i fs zs hu hz
      split at hc
      · rename_i hs
        cases hr : compParts (fieldPlaces P fs) ps.toList with
        | none => simp [hr] at hc
        | some r =>
          simp only [hr, Option.map_some, Option.some.injEq] at hc; subst hc
          simp only [evI] at ev
          cases hf : fill' zs (parts' ρ r) with
          | none => simp [hf] at ev
          | some out =>
            simp only [hf, Option.map_some, Option.some.injEq, Prod.mk.injEq] at ev; obtain ⟨rfl, rfl⟩ := ev
            obtain ⟨ti, z, h1, h2, h3, h4, h5⟩ := zeroOf_some hz
            obtain ⟨places, hpr, hpl⟩ := places_run (P := P) (w := w) hs
            obtain ⟨g1, g2⟩ := parts_rel hr hρ (fun p hp => hok' p.2 (by simp [Op.operands]; exact ⟨p.1, by simpa using hp⟩))
            obtain ⟨out', k1, k2⟩ := fill_run (φ := φ) (places[·]?) _ _ zs out z.cells g1 (fun j p q hp hq => ⟨hpl _ _ (g2 j p q hp hq).1, (g2 j p q hp hq).2⟩) (by rw [h4]; exact .plain h5) hf
            refine .value S (v' := .agg out') ?_ (.agg' (by simpa using k2))
            simp only [execOp, hop, Instr.build, Sem.run_bind, run_zero h1 h2, Result.andThen_ok, run_under hu, hpr, map_parts, k1, Sem.run_pure]
      · cases hc
    · rename_i len e zs hu hz
      split at hc
      · rename_i n hn
        cases hr : compParts (fun i => some (i * n, n)) ps.toList with
        | none => simp [hr] at hc
        | some r =>
          simp only [hr, Option.map_some, Option.some.injEq] at hc; subst hc
          simp only [evI] at ev
          cases hf : fill' zs (parts' ρ r) with
          | none => simp [hf] at ev
          | some out =>
            simp only [hf, Option.map_some, Option.some.injEq, Prod.mk.injEq] at ev; obtain ⟨rfl, rfl⟩ := ev
            obtain ⟨ti, z, h1, h2, h3, h4, h5⟩ := zeroOf_some hz
            obtain ⟨g1, g2⟩ := parts_rel hr hρ (fun p hp => hok' p.2 (by simp [Op.operands]; exact ⟨p.1, by simpa using hp⟩))
            obtain ⟨out', k1, k2⟩ := fill_run (φ := φ) (fun i => some (i * n, n)) _ _ zs out z.cells g1 g2 (by rw [h4]; exact .plain h5) hf
            unfold sizeOf? at hn
            cases hi : P.info? e with
            | none => simp [hi] at hn
            | some ti2 =>
              simp [hi] at hn
              refine .value S (v' := .agg out') ?_ (.agg' (by simpa using k2))
              simp only [execOp, hop, Instr.build, Sem.run_bind, run_zero h1 h2, Result.andThen_ok, run_under hu, run_size hi, hn, map_parts, k1, Sem.run_pure]
      · cases hc
    · cases hc
  | buildSlice t len ps =>
    simp only [hop] at hc hok'
    split at hc
    · rename_i e hu
      split at hc
      · rename_i n zs hn hz
        split at hc
        · rename_i hcond
          obtain ⟨hbig, hzl, hpos⟩ := hcond
          cases hr : compParts (fun i => some (i * n, n)) ps.toList with
          | none => simp [hr] at hc
          | some r =>
            simp only [hr, Option.map_some, Option.some.injEq] at hc; subst hc
            simp only [evI] at ev
            cases hf : fill' (reps len zs) (parts' ρ r) with
            | none => simp [hf] at ev
            | some out =>
              simp only [hf, Option.map_some, Option.some.injEq, Prod.mk.injEq] at ev; obtain ⟨rfl, rfl⟩ := ev
              obtain ⟨ti, z, h1, h2, h3, h4, h5⟩ := zeroOf_some hz
              have hsz : ti.size = n := by simp [sizeOf?, h1] at hn; exact hn
              have hzc : z.cells.size = n := by rw [← hzl, ← h4]; simp
              obtain ⟨g1, g2⟩ := parts_rel hr hρ (fun p hp => hok' p.2 (by simp [Op.operands]; exact ⟨p.1, by simpa using hp⟩))
              have hzr : VRs φ (reps len zs) ((Array.range (len * n)).map (fun i => z.cells[i % z.cells.size]!)).toList := by
                rw [← h4]
                exact zeros_rel (by rw [h4]; exact h5) len _ (by rw [hzc])
              obtain ⟨out', k1, k2⟩ := fill_run (φ := φ) (fun i => some (i * n, n)) _ _ (reps len zs) out _ g1 g2 hzr hf
              refine .new S hfr out out' e k2 (fun a => .slice (some a) len len) (fun a => .slice (some a) len len) ?_ (fun ψ hψ => .sl' hψ _ _)
              have hbig' : ¬ (16777216 < len * n) := by omega
              by_cases h0 : len * n = 0
              · have hl0 : len = 0 := by
                  rcases Nat.mul_eq_zero.1 h0 with h | h
                  · exact h
                  · omega
                subst hl0
                simp only [Nat.zero_mul, Array.range_zero', Array.map_empty] at k1
                simp [execOp, hop, Instr.buildSlice, run_under hu, run_size h1, hsz, k1, newRow, Array.range_zero']
              · simp only [execOp, hop, Instr.buildSlice, Sem.run_bind, run_under hu, run_size h1, hsz, Result.andThen_ok, map_parts]
                rw [if_neg (by omega), if_neg h0]
                simp only [Sem.run_bind, run_zero h1 h2, Sem.run_pure, Result.andThen_ok, k1, newRow, run_newObj]
        · cases hc
      · cases hc
    · cases hc
  | load t a =>
    simp only [hop] at hc hv
    cases hn : ldForm P t with
    | none => simp [hn] at hc
    | some n =>
      simp only [hn, Option.map_some, Option.some.injEq] at hc; subst hc
      simp only [evI] at ev
      cases ha : adr (ρ a) with
      | none => simp [ha] at ev
      | some p =>
        simp only [ha, Option.bind_some] at ev
        obtain ⟨l, hl, hpa⟩ := adr_some (hv a (by simp [Op.operands])) ha
        cases n with
        | none =>
          simp only at ev
          cases hld : h.ld p.1 p.2 with
          | none => simp [hld] at ev
          | some u =>
            simp only [hld, Option.map_some, Option.some.injEq, Prod.mk.injEq] at ev; obtain ⟨rfl, rfl⟩ := ev
            obtain ⟨v', h1, h2⟩ := S.ld hld hl
            exact .value S (by simp [execOp, hop, Instr.loadAt, hpa, Instr.sureAddr, loadVar_one hn h1]) h2
        | some n =>
          simp only at ev
          cases hld : h.lds p.1 p.2 n with
          | none => simp [hld] at ev
          | some u =>
            simp only [hld, Option.map_some, Option.some.injEq, Prod.mk.injEq] at ev; obtain ⟨rfl, rfl⟩ := ev
            obtain ⟨vs', h0, h1, h2⟩ := S.lds hld hl
            exact .value S (v' := .agg vs'.toArray) (by simp [execOp, hop, Instr.loadAt, hpa, Instr.sureAddr, loadVar_agg hn h0 h1]) (.agg' (by simpa using h2))
  | store t a x =>
    simp only [hop] at hc hv
    cases hn : sizeOf? P t with
    | none => simp [hn] at hc
    | some n =>
      simp only [hn, Option.map_some, Option.some.injEq] at hc; subst hc
      simp only [evI] at ev
      cases ha : adr (ρ a) with
      | none => simp [ha] at ev
      | some p =>
        simp only [ha, Option.bind_some] at ev
        obtain ⟨l, hl, hpa⟩ := adr_some (hv a (by simp [Op.operands])) ha
        split at ev
        · rename_i hcond
          cases hst : h.sts p.1 p.2 (ρ x).cells.toList with
          | none => simp [hst] at ev
          | some h1 =>
            simp only [hst, Option.map_some, Option.some.injEq, Prod.mk.injEq] at ev; obtain ⟨rfl, rfl⟩ := ev
            have hcx := (hv x (by simp [Op.operands])).cells hcond.1
            obtain ⟨w', r, S', F⟩ := S.sts hst hl hcx P
            have hsz : (ρ' x).cells.size = n := by rw [← hcond.2]; have := hcx.1; simpa using this.symm
            refine ⟨φ, w', undef, .inr ⟨?_, rfl⟩, S', .undef φ, F⟩
            unfold sizeOf? at hn
            cases hi : P.info? t with
            | none => simp [hi] at hn
            | some ti =>
              simp [hi] at hn
              simp only [execOp, hop, Instr.storeAt, Sem.run_bind, hpa, Instr.sureAddr, Sem.run_pure, Result.andThen_ok, storeVar, run_size hi]
              rw [if_neg (by simp [hsz, hn])]
              simp only [r, Result.andThen_ok]
        · cases ev
  | nilCheck x =>
    simp only [hop, Option.some.injEq] at hc hv; subst hc
    have hx := hv x (by simp [Op.operands])
    simp only [evI] at ev
    split at ev
    · rename_i a he
      cases ev
      rw [he] at hx
      generalize hy : ρ' x = y at hx
      obtain ⟨b, rfl⟩ : ∃ b, y = .pointer (some b) := by cases hx; exact ⟨_, rfl⟩
      exact .value S (by simp [execOp, hop, hy]) hx
    · rename_i f a b he
      cases ev
      rw [he] at hx
      generalize hy : ρ' x = y at hx
      obtain ⟨c, d, rfl⟩ : ∃ c d, y = .func (.func f) c d := by cases hx; exact ⟨_, _, rfl⟩
      exact .value S (by simp [execOp, hop, hy]) hx
    · rename_i t u he
      cases ev
      rw [he] at hx
      generalize hy : ρ' x = y at hx
      obtain ⟨c, rfl⟩ : ∃ c, y = .iface t c := by cases hx; exact ⟨_, rfl⟩
      exact .value S (by simp [execOp, hop, hy]) hx
    · cases ev
  | binOp op t x y yt =>
    simp only [hop] at hc hv
    have hx := hv x (by simp [Op.operands])
    have hy := hv y (by simp [Op.operands])
    have hrun : ∀ r, (do eqGuard op t x y (ρ' x) (ρ' y); binOp op t (ρ' x) (ρ' y) : Sem Value).run P w = .ok r w → (execOp ρ' o).run P w = .ok (.value r) w := by
      intro r hr
      simp only [execOp, hop]
      rw [Sem.run_bind, hr]
      rfl
    split at hc
    · rename_i ht
      simp only [Option.some.injEq] at hc; subst hc
      simp only [evI] at ev
      cases hb : bin op (ρ x) (ρ y) with
      | none => simp [hb] at ev
      | some r =>
        simp only [hb, Option.map_some, Option.some.injEq, Prod.mk.injEq] at ev; obtain ⟨rfl, rfl⟩ := ev
        obtain ⟨h1, h2⟩ := bin_run (P := P) (w := w) (x := x) (y := y) ht hx hy hb
        exact .value S (hrun _ h1) h2
    · split at hc
      · rename_i ht
        have key : ∀ neg, op = (if neg then .neq else .eql) → evI ρ h (.beq neg x y) = some (v, h') → Done φ h w v h' ((execOp ρ' o).run P w) := by
          intro neg hneg ev
          simp only [evI] at ev
          split at ev
          · rename_i a b ha hb
            cases ev
            rw [ha] at hx; rw [hb] at hy
            have := beq_run (P := P) (w := w) (x := x) (y := y) ht hx hy neg
            rw [← hneg] at this
            exact .value S (hrun _ this) (.bool _)
          · cases ev
        cases op <;> simp only [Option.some.injEq] at hc <;> first | (cases hc; done) | (subst hc; first | exact key false rfl ev | exact key true rfl ev)
      · split at hc
        · have key : ∀ neg, op = (if neg then .neq else .eql) → evI ρ h (.sqs neg x y) = some (v, h') → Done φ h w v h' ((execOp ρ' o).run P w) := by
            intro neg hneg ev
            simp only [evI] at ev
            split at ev
            · rename_i a b ha hb
              cases ev
              rw [ha] at hx; rw [hb] at hy
              have := sqs_run (P := P) (w := w) (t := t) (x := x) (y := y) hx hy neg
              rw [← hneg] at this
              exact .value S (hrun _ this) (.bool _)
            · cases ev
          cases op <;> simp only [Option.some.injEq] at hc <;> first | (cases hc; done) | (subst hc; first | exact key false rfl ev | exact key true rfl ev)
        · split at hc
          · rename_i l hl
            have key : ∀ neg, op = (if neg then .neq else .eql) → evI ρ h (.eqs l neg x y) = some (v, h') → Done φ h w v h' ((execOp ρ' o).run P w) := by
              intro neg hneg ev
              simp only [evI] at ev
              split at ev
              · rename_i a b ha hb
                cases hag : aggEq l a b with
                | none => simp [hag] at ev
                | some r =>
                  simp only [hag, Option.map_some, Option.some.injEq, Prod.mk.injEq] at ev; obtain ⟨rfl, rfl⟩ := ev
                  rw [ha] at hx; rw [hb] at hy
                  have := eqs_run (P := P) (w := w) (x := x) (y := y) hl hx hy hag neg
                  rw [← hneg] at this
                  exact .value S (hrun _ this) (.bool _)
              · cases ev
            cases op <;> simp only [Option.some.injEq] at hc <;> first | (cases hc; done) | (subst hc; first | exact key false rfl ev | exact key true rfl ev)
          · split at hc
            · rename_i k hk hcst
              have key : ∀ neg, op = (if neg then .neq else .eql) → evI ρ h (.nil k neg x y) = some (v, h') → Done φ h w v h' ((execOp ρ' o).run P w) := by
                intro neg hneg ev
                simp only [evI] at ev
                cases hb : nilEq k (ρ x) (ρ y) with
                | none => simp [hb] at ev
                | some b =>
                  simp only [hb, Option.map_some, Option.some.injEq, Prod.mk.injEq] at ev; obtain ⟨rfl, rfl⟩ := ev
                  have := nil_run (P := P) (w := w) (x := x) (y := y) hk hcst (nilEq_inv hb hx hy) neg
                  rw [← hneg] at this
                  exact .value S (hrun _ this) (.bool _)
              cases op <;> simp only [Option.some.injEq] at hc <;> first | (cases hc; done) | (subst hc; first | exact key false rfl ev | exact key true rfl ev)
            · cases hc
  | unOp op t x =>
    simp only [hop, Option.some.injEq] at hc hv; subst hc
    simp only [evI] at ev
    cases hb : un op (ρ x) with
    | none => simp [hb] at ev
    | some r =>
      simp only [hb, Option.map_some, Option.some.injEq, Prod.mk.injEq] at ev; obtain ⟨rfl, rfl⟩ := ev
      obtain ⟨h1, h2⟩ := un_run (P := P) (w := w) (hv x (by simp [Op.operands])) hb
      exact .value S (by simp [execOp, hop, h1]) h2
  | convert s t x =>
    simp only [hop] at hc hv
    split at hc
    · rename_i d k hs ht
      simp only [Option.some.injEq] at hc; subst hc
      have hx := hv x (by simp [Op.operands])
      simp only [evI] at ev
      split at ev
      · rename_i k0 n he
        cases ev
        rw [he] at hx
        have := hx.int_inv
        exact .value S (by simp [execOp, hop, this, convert, run_under hs, run_under ht, Conv.intToInt]) (.int _ _)
      · cases ev
    · rename_i e hs ht
      split at hc
      · rename_i hb
        simp only [Option.some.injEq] at hc; subst hc
        have hx := hv x (by simp [Op.operands])
        simp only [evI] at ev
        cases hn : lenOf (ρ x) with
        | none => simp [hn] at ev
        | some n =>
          cases hcs : cellsOf h 1 n (ρ x) with
          | none => simp [hn, hcs] at ev
          | some cs =>
            cases hl : bytesOf cs with
            | none => simp [hn, hcs, hl] at ev
            | some l =>
              simp only [hn, hcs, hl, Option.bind_some, Option.map_some, Option.some.injEq, Prod.mk.injEq] at ev; obtain ⟨rfl, rfl⟩ := ev
              have := str_run (P := P) S hb ht hx hn hcs hl
              exact .value S (by simp [execOp, hop, this]) (.string _)
      · cases hc
    · cases hc
  | makeInterface t x =>
    simp only [hop] at hc hv
    split at hc
    · cases hc
    · rename_i d hd hne
      simp only [Option.some.injEq] at hc; subst hc
      simp only [evI, Option.some.injEq, Prod.mk.injEq] at ev; obtain ⟨rfl, rfl⟩ := ev
      refine .value S (v' := .iface t (ρ' x)) ?_ (.iface t (hv x (by simp [Op.operands])))
      simp only [execOp, hop, Instr.makeInterface, Sem.run_bind, run_under hne, Result.andThen_ok]
      cases d <;> first | (exact absurd rfl (hd _)) | rfl
    · cases hc
  | makeFunc fn a b =>
    simp only [hop] at hc hv
    cases fn <;> simp only [Option.some.injEq] at hc <;> try (cases hc; done)
    rename_i f
    subst hc
    simp only [evI, Option.some.injEq, Prod.mk.injEq] at ev; obtain ⟨rfl, rfl⟩ := ev
    refine .value S (v' := .func (.func f) (a.map ρ') (b.map ρ')) (by simp [execOp, hop, Instr.makeFunc]) ?_
    refine .func _ (by simp) (fun j h1 h2 => ?_) (by simp) (fun j h1 h2 => ?_)
    · simp only [List.getElem_toArray, List.getElem_map, Array.getElem_map, Array.getElem_toList]
      exact hv _ (by simp [Op.operands])
    · simp only [List.getElem_toArray, List.getElem_map, Array.getElem_map, Array.getElem_toList]
      exact hv _ (by simp [Op.operands])
  | makeSlice t l c =>
    simp only [hop] at hc hv
    split at hc
    · rename_i e hu
      split at hc
      · rename_i ti zs hi hz
        split at hc
        · rename_i hcond
          simp only [Option.some.injEq] at hc; subst hc
          simp only [evI] at ev
          split at ev
          · rename_i ln cp hl hcp
            split at ev
            · rename_i hb
              cases ev
              obtain ⟨k1, e1, _⟩ := natOf_inv hl (hv l (by simp [Op.operands]))
              obtain ⟨k2, e2, _⟩ := natOf_inv hcp (hv c (by simp [Op.operands]))
              obtain ⟨ti2, z, h1, h2, h3, h4, h5⟩ := zeroOf_some hz
              rw [hi] at h1; cases h1
              have hzc : z.cells.size = ti.size := by rw [← hcond.1, ← h4]; simp
              have hw : ∀ n : Nat, n ≤ 2 ^ 48 → IntKind.i64.wrap (n : Int) = n := by
                intro n hn
                have : (n : Int) ≤ 281474976710656 := by omega
                simp only [IntKind.wrap, IntKind.signed, IntKind.bits]
                simp; omega
              have hzr : VRs φ (reps cp zs) ((Array.range (cp * ti.size)).map (fun i => z.cells[i % z.cells.size]!)).toList := by
                rw [← h4]
                exact zeros_rel (by rw [h4]; exact h5) cp _ (by rw [hzc])
              refine .new S hfr (reps cp zs) ((Array.range (cp * ti.size)).map (fun i => z.cells[i % z.cells.size]!)) e hzr (fun a => .slice (some a) ln cp) (fun a => .slice (some a) ln cp) ?_ (fun ψ hψ => .sl' hψ _ _)
              have w1 := hw ln (by omega)
              have w2 := hw cp (by omega)
              have b1 : ¬ ((cp : Int) < 0) := by omega
              have b2 : ¬ ((ti.bytes : Int) * (cp : Int) > 281474976710656) := by
                have := hb.2.2
                have : ((ti.bytes * cp : Nat) : Int) ≤ 281474976710656 := by omega
                rw [Int.natCast_mul] at this
                omega
              have b3 : ¬ ((ln : Int) < 0) := by omega
              have b4 : ¬ ((ln : Int) > (cp : Int)) := by omega
              by_cases h0 : cp * ti.size = 0
              · have hc0 : cp = 0 := by
                  rcases Nat.mul_eq_zero.1 h0 with h | h
                  · exact h
                  · omega
                subst hc0
                obtain rfl : ln = 0 := by omega
                have w0 : IntKind.i64.wrap 0 = 0 := by decide
                simp [execOp, hop, Instr.makeSlice, run_under hu, run_info hi, run_size hi, e1, e2, asInt, asIntOf, w0, newRow, Array.range_zero']
              · have hc0 : cp ≠ 0 := by intro e; subst e; simp at h0
                have hs0 : ti.size ≠ 0 := by omega
                have b5 : ¬ (281474976710656 < (ti.bytes : Int) * (cp : Int)) := by omega
                have b6 : ¬ (cp < ln) := by omega
                simp [execOp, hop, Instr.makeSlice, run_under hu, run_info hi, run_size hi, run_zero hi h2, e1, e2, asInt, asIntOf, w1, w2, b1, b3, b5, b6, newRow]
                exact fun hz => absurd hz h0
            · cases ev
          · cases ev
        · cases hc
      · cases hc
    · cases hc
  | slice t x lo hi mx =>
    simp only [hop] at hc hv
    split at hc
    · rename_i e hu
      split at hc
      · cases hc
      rename_i hmh
      cases hn : sizeOf? P e with
      | none => simp [hn] at hc
      | some n =>
        simp only [hn, Option.map_some, Option.some.injEq] at hc; subst hc
        simp only [evI] at ev
        cases h1 : optNat (lo.map ρ) with
        | none => simp [h1] at ev
        | some lo' =>
          cases h2 : optNat (hi.map ρ) with
          | none => simp [h1, h2] at ev
          | some hi' =>
            cases h3 : optNat (mx.map ρ) with
            | none => simp [h1, h2, h3] at ev
            | some mx' =>
              simp only [h1, h2, h3, Option.bind_some] at ev
              cases hs : slc n (ρ x) lo' hi' mx' with
              | none => simp [hs] at ev
              | some r =>
                simp only [hs, Option.map_some, Option.some.injEq, Prod.mk.injEq] at ev; obtain ⟨rfl, rfl⟩ := ev
                unfold sizeOf? at hn
                cases hi0 : P.info? e with
                | none => simp [hi0] at hn
                | some ti =>
                  simp [hi0] at hn
                  subst hn
                  have o1 := optNat_inv (ρ' := ρ') (fun o ho => hv o (by subst ho; simp [Op.operands])) h1
                  have o2 := optNat_inv (ρ' := ρ') (fun o ho => hv o (by subst ho; simp [Op.operands])) h2
                  have o3 := optNat_inv (ρ' := ρ') (fun o ho => hv o (by subst ho; simp [Op.operands])) h3
                  have hm : mx'.isSome = true → hi'.isSome = true := by
                    intro hm
                    cases mx with
                    | none => simp [optNat] at h3; subst h3; simp at hm
                    | some m =>
                      cases hi with
                      | none => simp at hmh
                      | some hi =>
                        cases hi' with
                        | some _ => rfl
                        | none =>
                          simp only [Option.map_some, optNat] at h2
                          cases hq : natOf (ρ hi) <;> simp [hq] at h2
                  obtain ⟨v', r1, r2⟩ := slc_run (P := P) (w := w) hu hi0 (hv x (by simp [Op.operands])) o1 o2 o3 hm hs
                  exact .value S (by simp [execOp, hop, r1]) r2
    · cases hc
  | fieldAddr t x f =>
    simp only [hop] at hc hv
    split at hc
    · rename_i fs hu
      split at hc
      · rename_i fd hf
        split at hc
        · rename_i n hn
          split at hc
          · cases hc
          · rename_i h0
            simp only [Option.some.injEq] at hc; subst hc
            simp only [evI] at ev
            cases ha : adr (ρ x) with
            | none => simp [ha] at ev
            | some p =>
              simp only [ha, Option.map_some, Option.some.injEq, Prod.mk.injEq] at ev; obtain ⟨rfl, rfl⟩ := ev
              obtain ⟨l, hl, hpa⟩ := adr_some (hv x (by simp [Op.operands])) ha
              unfold sizeOf? at hn
              cases hi : P.info? fd.type with
              | none => simp [hi] at hn
              | some ti =>
                simp [hi] at hn
                refine .value S (v' := .pointer (some ⟨l.blk, l.base + (p.2 + fd.offset), none⟩)) ?_ (.ptr hl)
                simp only [execOp, hop, Instr.fieldAt, Sem.run_bind, run_under hu, Result.andThen_ok, hf, hpa, Instr.sureAddr, Sem.run_pure, fieldPlace, run_size hi, hn]
                rw [if_neg h0]
                simp [add_off, Nat.add_assoc]
        · cases hc
      · cases hc
    · cases hc
  | field t x f =>
    simp only [hop] at hc hv
    split at hc
    · rename_i fs hu
      split at hc
      · rename_i fd hf
        cases hn : ldForm P fd.type with
        | none => simp [hn] at hc
        | some n =>
          simp only [hn, Option.map_some, Option.some.injEq] at hc; subst hc
          simp only [evI] at ev
          cases hfl : fld fd.offset n (ρ x) with
          | none => simp [hfl] at ev
          | some r =>
            simp only [hfl, Option.map_some, Option.some.injEq, Prod.mk.injEq] at ev; obtain ⟨rfl, rfl⟩ := ev
            have hx := hv x (by simp [Op.operands])
            obtain ⟨cs', hcs⟩ : ∃ cs', ρ' x = .agg cs' := by
              unfold fld at hfl
              split at hfl
              · rename_i cs he
                rw [he] at hx
                generalize hy : ρ' x = y at hx
                cases hx; exact ⟨_, rfl⟩
              · cases hfl
            rw [hcs] at hx
            obtain ⟨v', r1, r2⟩ := part_run (P := P) (w := w) hn hx hfl
            exact .value S (by simp [execOp, hop, Instr.field, run_under hu, hf, hcs, asAgg, r1]) r2
      · cases hc
    · cases hc
  | indexAddr t x ix =>
    simp only [hop] at hc hv
    split at hc
    · rename_i e hu
      cases hn : sizeOf? P e with
      | none => simp [hn] at hc
      | some n =>
        simp only [hn, Option.map_some, Option.some.injEq] at hc; subst hc
        simp only [evI] at ev
        split at ev
        · rename_i b oo s ln cp j he hj
          split at ev
          · rename_i hlt
            cases ev
            obtain ⟨k, e1, _⟩ := natOf_inv hj (hv ix (by simp [Op.operands]))
            have hx := hv x (by simp [Op.operands])
            rw [he] at hx
            obtain ⟨a', c', hxe, hcc, hnone, hpos, hex, hinx⟩ := hx.slice_inv
            have hp : ∃ l, φ b = some l ∧ a' = some ⟨l.blk, l.base + oo, none⟩ := by
              cases s with
              | none => exact (hex b oo rfl).2
              | some s =>
                obtain ⟨h1, _⟩ := hinx b oo s rfl
                exact hpos b oo _ rfl (by omega)
            obtain ⟨l, hl, rfl⟩ := hp
            unfold sizeOf? at hn
            cases hi : P.info? e with
            | none => simp [hi] at hn
            | some ti =>
              simp [hi] at hn
              have b1 : (0 : Int) ≤ j ∧ (j : Int) < ln := ⟨by omega, by omega⟩
              refine .value S (v' := .pointer (some ⟨l.blk, l.base + (oo + j * n), none⟩)) ?_ (.ptr hl)
              simp [execOp, hop, Instr.indexAt, e1, asIntOf, run_under hu, hxe, hlt, run_size hi, hn, add_off, Nat.add_assoc]
          · cases ev
        · cases ev
    · rename_i len e hu
      cases hn : sizeOf? P e with
      | none => simp [hn] at hc
      | some n =>
        simp only [hn, Option.map_some, Option.some.injEq] at hc; subst hc
        simp only [evI] at ev
        split at ev
        · rename_i p j ha hj
          split at ev
          · rename_i hlt
            cases ev
            obtain ⟨v', r1, r2⟩ := iaa_run (P := P) (w := w) hu hn (hv x (by simp [Op.operands])) ha (hv ix (by simp [Op.operands])) hj hlt
            exact .value S (by simp [execOp, hop, r1]) r2
          · cases ev
        · cases ev
    · cases hc
  | index t x ix =>
    simp only [hop] at hc hv
    split at hc
    · rename_i len e hu
      split at hc
      · rename_i n m hn hm
        simp only [Option.some.injEq] at hc; subst hc
        simp only [evI] at ev
        split at ev
        · rename_i j hj
          split at ev
          · rename_i hlt
            cases hfl : fld (j * n) m (ρ x) with
            | none => simp [hfl] at ev
            | some r =>
              simp only [hfl, Option.map_some, Option.some.injEq, Prod.mk.injEq] at ev; obtain ⟨rfl, rfl⟩ := ev
              obtain ⟨v', r1, r2⟩ := idx_run (P := P) (w := w) hu hn hm (hv x (by simp [Op.operands])) (hv ix (by simp [Op.operands])) hj hlt hfl
              exact .value S (by simp [execOp, hop, r1]) r2
          · cases ev
        · cases ev
      · cases hc
    · rename_i hu
      simp only [Option.some.injEq] at hc; subst hc
      simp only [evI] at ev
      split at ev
      · rename_i s j hs hj
        cases hb : s.data.toList[j]? with
        | none => simp [hb] at ev
        | some b =>
          simp only [hb, Option.map_some, Option.some.injEq, Prod.mk.injEq] at ev; obtain ⟨rfl, rfl⟩ := ev
          have := sidx_run (P := P) (w := w) hu hs (hv x (by simp [Op.operands])) (hv ix (by simp [Op.operands])) hj hb
          exact .value S (by simp [execOp, hop, this]) (.int _ _)
      · cases ev
    · cases hc
  | lookup t x ix ok =>
    simp only [hop] at hc hv
    split at hc
    · rename_i kt et hu
      split at hc
      · rename_i k z hk hz
        simp only [Option.some.injEq] at hc; subst hc
        simp only [evI] at ev
        cases hm : mlook h k z (ρ x) (ρ ix) with
        | none => simp [hm] at ev
        | some r =>
          obtain ⟨u, b⟩ := r
          simp only [hm, Option.map_some, Option.some.injEq, Prod.mk.injEq] at ev; obtain ⟨rfl, rfl⟩ := ev
          obtain ⟨hp, hr⟩ := mlook_run (P := P) S hu hk hz (hv x (by simp [Op.operands])) (hv ix (by simp [Op.operands])) hm ok
          refine .value S (v' := if ok = true then .tuple #[u, .bool b] else u) (by simp only [execOp, hop, Sem.run_bind, hr, Result.andThen_ok, Sem.run_pure]) ?_
          cases ok
          · exact .plain hp
          · exact .tuple' (VRs.cons (.plain hp) (VRs.cons (.bool _) (.nil φ)))
      · cases hc
    · cases hc
  | makeMap t r =>
    simp only [hop] at hc
    cases r with
    | some r => cases hc
    | none =>
      simp only [Option.some.injEq] at hc; subst hc
      simp only [evI, Option.some.injEq, Prod.mk.injEq] at ev; obtain ⟨rfl, rfl⟩ := ev
      obtain ⟨S', F⟩ := S.newMap hfr ⟨[], 0⟩
      exact ⟨_, _, _, .inl (by simp [execOp, hop, Instr.makeMap]), S', .map (Emb.add_self φ h.next ⟨w.heap.size, 0, 0⟩), F⟩
  | mapUpdate t m ix x =>
    simp only [hop] at hc hv
    split at hc
    · rename_i kt et hu
      split at hc
      · rename_i k hk
        simp only [Option.some.injEq] at hc; subst hc
        simp only [evI] at ev
        cases hm : mput h k (ρ m) (ρ ix) (ρ x) with
        | none => simp [hm] at ev
        | some h1 =>
          simp only [hm, Option.map_some, Option.some.injEq, Prod.mk.injEq] at ev; obtain ⟨rfl, rfl⟩ := ev
          obtain ⟨w', r, S', F⟩ := mput_run (P := P) S hu hk (hv m (by simp [Op.operands])) (hv ix (by simp [Op.operands])) (hv x (by simp [Op.operands])) hm
          exact ⟨φ, w', undef, .inr ⟨by simp [execOp, hop, r], rfl⟩, S', .undef φ, F⟩
      · cases hc
    · cases hc
  | insert t m ix x =>
    simp only [hop] at hc hv
    split at hc
    · rename_i kt et hu
      split at hc
      · rename_i k hk
        simp only [Option.some.injEq] at hc; subst hc
        simp only [evI] at ev
        cases hm : mput h k (ρ m) (ρ ix) (ρ x) with
        | none => simp [hm] at ev
        | some h1 =>
          simp only [hm, Option.map_some, Option.some.injEq, Prod.mk.injEq] at ev; obtain ⟨rfl, rfl⟩ := ev
          obtain ⟨w', r, S', F⟩ := mput_run (P := P) S hu hk (hv m (by simp [Op.operands])) (hv ix (by simp [Op.operands])) (hv x (by simp [Op.operands])) hm
          exact ⟨φ, w', undef, .inr ⟨by simp [execOp, hop, r], rfl⟩, S', .undef φ, F⟩
      · cases hc
    · cases hc
  | mapEntry t m ix =>
    simp only [hop] at hc hv
    split at hc
    · rename_i kt et hu
      split at hc
      · rename_i k z hk hz
        simp only [Option.some.injEq] at hc; subst hc
        simp only [evI] at ev
        obtain ⟨w', r, S', hv', F⟩ := mentry_run (P := P) S hu hk hz (hv m (by simp [Op.operands])) (hv ix (by simp [Op.operands])) ev
        exact ⟨φ, w', v, .inl (by simp [execOp, hop, r]), S', hv', F⟩
      · cases hc
    · cases hc
  | entryStore t m s x =>
    simp only [hop, Option.some.injEq] at hc hv; subst hc
    simp only [evI] at ev
    cases hm : mstore h (ρ m) (ρ s) (ρ x) with
    | none => simp [hm] at ev
    | some h1 =>
      simp only [hm, Option.map_some, Option.some.injEq, Prod.mk.injEq] at ev; obtain ⟨rfl, rfl⟩ := ev
      obtain ⟨w', r, S', F⟩ := mstore_run (P := P) S t (hv m (by simp [Op.operands])) (hv s (by simp [Op.operands])) (hv x (by simp [Op.operands])) hm
      exact ⟨φ, w', undef, .inr ⟨by simp [execOp, hop, r], rfl⟩, S', .undef φ, F⟩
  | extract x ix =>
    simp only [hop, Option.some.injEq] at hc hv; subst hc
    simp only [evI] at ev
    split at ev
    · rename_i vs he
      split at ev
      · rename_i h2
        cases hx : vs[ix]? with
        | none => simp [hx] at ev
        | some r =>
          simp only [hx, Option.map_some, Option.some.injEq, Prod.mk.injEq] at ev; obtain ⟨rfl, rfl⟩ := ev
          have hr := hv x (by simp [Op.operands])
          rw [he] at hr
          generalize hy : ρ' x = y at hr
          cases hr with
          | junk v => simp at h2
          | tuple hsz hi =>
            rename_i ys
            obtain ⟨hlt, hge⟩ := Array.getElem?_eq_some_iff.1 hx
            have := hi ix hlt (by omega)
            rw [hge] at this
            exact .value S (by simp [execOp, hop, hy, Instr.extract, show ix < ys.size by omega]) this
      · cases ev
    · cases ev
  | typeAssert x xt t ok =>
    simp only [hop] at hc hv
    cases ok with
    | true => simp at hc
    | false =>
      simp only at hc
      split at hc
      · cases hc
      · rename_i d hd hne
        simp only [Option.some.injEq] at hc; subst hc
        simp only [evI] at ev
        split at ev
        · rename_i u r he
          split at ev
          · rename_i hut
            cases ev
            have hr := hv x (by simp [Op.operands])
            rw [he] at hr
            generalize hy : ρ' x = y at hr
            cases hr with
            | iface _ hr =>
              rename_i r'
              refine .value S (v' := r') ?_ hr
              simp only [execOp, hop, hy, Instr.typeAssert, Sem.run_bind, run_under hne, Result.andThen_ok]
              cases d <;> first | (exact absurd rfl (hd _)) | (simp [hut])
          · cases ev
        · cases ev
      · cases hc
  | call c =>
    obtain ⟨callee, args, ts⟩ := c
    simp only [hop] at hc hv
    cases callee with
    | value f => simp at hc
    | invoke f n => simp at hc
    | builtin b =>
      have hx : ∀ x ∈ args, VR φ (ρ x) (ρ' x) := fun x hx => hv x (by simp [Op.operands, Call.operands, hx])
      obtain ⟨consts, hrun⟩ : ∃ consts, (execOp ρ' o).run P w = (builtin b ts o.type consts (args.map ρ')).run P w :=
        ⟨_, by simp only [execOp, hop, resolve, invoke, Sem.run_bind, Sem.run_pure, Result.andThen_ok]; rfl⟩
      rw [hrun]
      clear hrun
      obtain ⟨al⟩ := args
      obtain ⟨tl⟩ := ts
      cases b <;> simp only at hc <;> try (cases hc; done)
      case append =>
        split at hc
        · rename_i x y t u
          split at hc
          · rename_i e e2 hu hu2
            split at hc
            · rename_i ti zs hi hz
              split at hc
              · rename_i hcond
                simp only [Option.some.injEq] at hc; subst hc
                simp only [evI] at ev
                obtain ⟨ti2, z, h1, h2, h3, h4, h5⟩ := zeroOf_some hz
                rw [hi] at h1; cases h1
                obtain ⟨φ', w', v', r, S', hv', F⟩ := app_run S hfr o.type hu hu2 hi h2 (by rw [← hcond.2.2, ← h4]; simp) hcond.2.1 hcond.1 (hx x (by simp)) (hx y (by simp)) ev
                exact ⟨φ', w', v', .inl (by simp [builtin, r]), S', hv', F⟩
              · cases hc
            · cases hc
          · cases hc
        · cases hc
      case cap =>
        split at hc
        · rename_i x t
          have hr := hx x (by simp)
          split at hc
          · rename_i e hu
            simp only [Option.some.injEq] at hc; subst hc
            simp only [evI] at ev
            split at ev
            · rename_i n c he
              cases ev
              rw [he] at hr
              generalize hy : ρ' x = y at hr
              cases hr
              exact .value S (v' := .int .i64 c) (by simp [builtin, Builtin.cap_, run_under hu, hy, goInt]) (.int _ _)
            · rename_i i oo n c he
              cases ev
              rw [he] at hr
              generalize hy : ρ' x = y at hr
              cases hr
              exact .value S (v' := .int .i64 c) (by simp [builtin, Builtin.cap_, run_under hu, hy, goInt]) (.int _ _)
            · cases ev
          · cases hc
        · cases hc
      case copy =>
        split at hc
        · rename_i x y t u
          split at hc
          · rename_i e e2 hu hu2
            cases hn : sizeOf? P e with
            | none => simp [hn] at hc
            | some n =>
              simp only [hn, Option.map_some, Option.some.injEq] at hc; subst hc
              simp only [evI] at ev
              obtain ⟨w', v', r, S', hv', F⟩ := cpy_run (P := P) (u := u) S o.type hu hn (hx x (by simp)) (hx y (by simp)) ev
              exact ⟨φ, w', v', .inl (by simp [builtin, r]), S', hv', F⟩
          · cases hc
        · cases hc
      case clear =>
        split at hc
        · rename_i x t
          split at hc
          · rename_i e hu
            cases hz : zeroOf P e with
            | none => simp [hz] at hc
            | some zs =>
              simp only [hz, Option.map_some, Option.some.injEq] at hc; subst hc
              obtain ⟨ti, z, h1, h2, h3, h4, h5⟩ := zeroOf_some hz
              have hr := hx x (by simp)
              simp only [evI] at ev
              split at ev
              · rename_i n c he
                cases ev
                rw [he] at hr
                generalize hy : ρ' x = y at hr
                cases hr
                exact .value S (v' := .tuple #[]) (by simp [builtin, Builtin.clear_, run_under hu, hy]) (.undef φ)
              · rename_i i oo s n c he
                rw [he] at hr
                split at ev
                · rename_i h0
                  cases ev
                  subst h0
                  obtain ⟨a', c', hxe, _⟩ := hr.slice_inv
                  refine .value S (v' := .tuple #[]) ?_ (.undef φ)
                  cases a' <;> simp [builtin, Builtin.clear_, run_under hu, hxe]
                · rename_i h0
                  cases hst : h.sts i oo (reps n zs) with
                  | none => simp [hst] at ev
                  | some h9 =>
                    simp only [hst, Option.map_some, Option.some.injEq, Prod.mk.injEq] at ev; obtain ⟨rfl, rfl⟩ := ev
                    obtain ⟨a', c', hxe, hcc, hnone, hpos, hex, hinx⟩ := hr.slice_inv
                    have hp : ∃ l, φ i = some l ∧ a' = some ⟨l.blk, l.base + oo, none⟩ := by
                      cases s with
                      | none => exact (hex i oo rfl).2
                      | some s =>
                        obtain ⟨h1, _⟩ := hinx i oo s rfl
                        exact hpos i oo _ rfl (by omega)
                    obtain ⟨l, hl, rfl⟩ := hp
                    rw [← h4] at hst
                    obtain ⟨w', r, S', F⟩ := clr_sts (P := P) S (by rw [h4]; exact h5) hl hst
                    refine ⟨φ, w', .tuple #[], .inl ?_, S', .undef φ, F⟩
                    obtain ⟨n, rfl⟩ : ∃ m, n = m + 1 := ⟨n - 1, by omega⟩
                    simp [builtin, Builtin.clear_, run_under hu, hxe, run_zero h1 h2, r]
              · cases ev
          · cases hc
        · cases hc
      case len =>
        split at hc
        · rename_i x t
          have hr := hx x (by simp)
          split at hc
          · rename_i e hu
            simp only [Option.some.injEq] at hc; subst hc
            simp only [evI] at ev
            split at ev
            · rename_i a n c he
              cases ev
              rw [he] at hr
              obtain ⟨a', c', hxe, _⟩ := hr.slice_inv
              exact .value S (by simp [builtin, Builtin.len_, run_under hu, hxe, goInt]) (.int _ _)
            · cases ev
          · rename_i hu
            simp only [Option.some.injEq] at hc; subst hc
            simp only [evI] at ev
            split at ev
            · rename_i s he
              cases ev
              rw [he] at hr
              exact .value S (by simp [builtin, Builtin.len_, run_under hu, hr.string_inv, goInt]) (.int _ _)
            · cases ev
          · cases hc
        · cases hc
      case max =>
        split at hc
        · rename_i x xs
          simp only [Option.some.injEq] at hc; subst hc
          simp only [evI] at ev
          split at ev
          · rename_i k a he
            cases hm : mmI true k a (xs.map ρ) with
            | none => simp [hm] at ev
            | some r =>
              simp only [hm, Option.map_some, Option.some.injEq, Prod.mk.injEq] at ev; obtain ⟨rfl, rfl⟩ := ev
              have hr := hx x (by simp)
              rw [he] at hr
              have hxs : VRs φ (xs.map ρ) (xs.map ρ') := by
                refine ⟨by simp, fun j u v hu hv => ?_⟩
                rw [List.getElem?_map] at hu hv
                cases hj : xs[j]? with
                | none => simp [hj] at hu
                | some y => simp [hj] at hu hv; subst hu; subst hv; exact hx y (by simp [List.mem_of_getElem? hj])
              obtain ⟨h1, h2⟩ := mm_run (P := P) (w := w) _ _ k a r hxs hm
              refine .value S (v' := r) ?_ h2
              simp only [if_true] at h1
              simp [builtin, Builtin.max_, hr.int_inv, h1]
          · cases ev
        · cases hc
      case min =>
        split at hc
        · rename_i x xs
          simp only [Option.some.injEq] at hc; subst hc
          simp only [evI] at ev
          split at ev
          · rename_i k a he
            cases hm : mmI false k a (xs.map ρ) with
            | none => simp [hm] at ev
            | some r =>
              simp only [hm, Option.map_some, Option.some.injEq, Prod.mk.injEq] at ev; obtain ⟨rfl, rfl⟩ := ev
              have hr := hx x (by simp)
              rw [he] at hr
              have hxs : VRs φ (xs.map ρ) (xs.map ρ') := by
                refine ⟨by simp, fun j u v hu hv => ?_⟩
                rw [List.getElem?_map] at hu hv
                cases hj : xs[j]? with
                | none => simp [hj] at hu
                | some y => simp [hj] at hu hv; subst hu; subst hv; exact hx y (by simp [List.mem_of_getElem? hj])
              obtain ⟨h1, h2⟩ := mm_run (P := P) (w := w) _ _ k a r hxs hm
              refine .value S (v' := r) ?_ h2
              simp only [Bool.false_eq_true, if_false] at h1
              simp [builtin, Builtin.min_, hr.int_inv, h1]
          · cases ev
        · cases hc
  | _ => simp [hop] at hc
end Go.Ae
