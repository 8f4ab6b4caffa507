/-
  THE EVALUATOR IS SOUND: regions, code, functions.
-/
import Derived.Test.YtnejnaoehcahbaaAeDrawn2
namespace Go.Ae
open Go

variable {P : Program}

theorem ops_wp {call : CallF} (hcall : CallOk P call) {nt : Nat} {ops : Array Oper} (Q : Exit → Act → World → Prop) : ∀ (os : List Oper) (k : Nat) (xs : List O) (φ : Emb) (h : H) (w : World) (T : Tm) (a : Act)
    (T' : Tm) (h' : H), (∀ j, os[j]? = ops[k + j]?) → compOs P nt ops os = some xs → Sim φ h w → Fresh φ h → TR φ T a.tmps → nt ≤ a.tmps.size → evOs call xs T h = some (T', h') →
    (∀ φ' a' w', Sim φ' h' w' → TR φ' T' a'.tmps → nt ≤ a'.tmps.size → a'.defers = a.defers → Fr φ h w φ' h' w' → Q .normal a' w') →
    wpOps P ops Q (List.range' k os.length) a w := by
  intro os
  induction os with
  | nil =>
    intro k xs φ h w T a T' h' _ hc S hf hT hn ev hK
    simp only [compOs, Option.some.injEq] at hc
    subst hc
    simp only [evOs, Option.some.injEq, Prod.mk.injEq] at ev
    obtain ⟨rfl, rfl⟩ := ev
    simp only [List.length_nil, List.range'_zero, wpOps]
    exact hK φ a w S hT hn rfl (.refl φ h w)
  | cons o os ih =>
    intro k xs φ h w T a T' h' hos hc S hf hT hn ev hK
    simp only [compOs] at hc
    cases hx : compO P nt ops o with
    | none => simp [hx] at hc
    | some x =>
      cases hxs : compOs P nt ops os with
      | none => simp [hx, hxs] at hc
      | some xs' =>
        simp only [hx, hxs, Option.bind_some, Option.map_some, Option.some.injEq] at hc
        subst hc
        have h0 := hos 0
        simp only [List.getElem?_cons_zero, Nat.add_zero] at h0
        have hos' : ∀ j, os[j]? = ops[k + 1 + j]? := fun j => by
          have := hos (j + 1)
          simp only [List.getElem?_cons_succ] at this
          rw [this]; congr 1; omega
        have hdst : dstOk nt o.dst = true ∧ x.dst = o.dst ∧ compG ops o.guard = some x.g := by
          unfold compO at hx
          split at hx
          · rename_i hcond
            cases hg : compG ops o.guard with
            | none => simp [hg] at hx
            | some gd =>
              cases hk : compK P o with
              | none => simp [hg, hk] at hx
              | some kk => simp [hg, hk] at hx; subst hx; exact ⟨hcond.2, rfl, rfl⟩
          · cases hx
        obtain ⟨hd1, hd2, hg⟩ := hdst
        have run : ∀ r, evK call (rho T) h x.k = some r → evOs call xs' (T.set x.dst r.1) r.2 = some (T', h') → Region.wanted o (yielded ops a.tmps) = true →
            wpOps P ops Q (List.range' k (o :: os).length) a w := by
          intro r hr hrest hw
          simp only [List.length_cons, List.range'_succ, wpOps, ← h0, hw, if_true]
          refine .inl (op_wp hcall hx S (hf _ (Nat.le_refl _)) (fun _ => hf) hT hn (v := r.1) (h' := r.2) hr _ Q ?_)
          intro φ1 a1 w1 S1 hT1 hn1 hdf F1
          exact ih (k + 1) xs' φ1 r.2 w1 _ a1 T' h' hos' hxs S1 (F1.fresh hf) hT1 hn1 hrest (fun φ2 a2 w2 S2 hT2 hn2 hdf2 F2 => hK φ2 a2 w2 S2 hT2 hn2 (hdf2.trans hdf) (F1.trans F2))
        have skip : evOs call xs' (T.set x.dst undef) h = some (T', h') → Region.wanted o (yielded ops a.tmps) = false →
            wpOps P ops Q (List.range' k (o :: os).length) a w := by
          intro hrest hw
          simp only [List.length_cons, List.range'_succ, wpOps, ← h0, hw, if_false, Bool.false_eq_true]
          refine ih (k + 1) xs' φ h w (T.set x.dst undef) (a.put o.dst undef) T' h' hos' hxs S hf ?_ (by rw [put_size]; exact hn) hrest (fun φ2 a2 w2 S2 hT2 hn2 hdf2 F2 => hK φ2 a2 w2 S2 hT2 hn2 (by rw [hdf2, put_defers]) F2)
          rw [hd2]
          exact hT.set (dstOk_mono hn hd1) (.undef φ)
        simp only [evOs] at ev
        cases hd : dec T x.g with
        | none => simp [evO, hd] at ev
        | some b =>
          have hw := wanted_dec hT hg hd
          cases b with
          | true =>
            cases hr : evK call (rho T) h x.k with
            | none => simp [evO, hd, hr] at ev
            | some r => simp only [evO, hd, hr, Option.bind_some] at ev; exact run r hr ev hw
          | false =>
            simp only [evO, hd, Option.bind_some] at ev
            exact skip ev hw

/-- Code is sound. -/
def CodeOk (P : Program) (nt : Nat) (c : Code) (f : Tm → H → Option (Ex × Tm × H)) : Prop :=
  ∀ (φ : Emb) (h : H) (w : World) (T : Tm) (a : Act) (e : Ex) (T' : Tm) (h' : H) (Q : Exit → Act → World → Prop), Sim φ h w → Fresh φ h → TR φ T a.tmps → nt ≤ a.tmps.size → f T h = some (e, T', h') →
    (∀ φ' a' w', Sim φ' h' w' → TR φ' T' a'.tmps → nt ≤ a'.tmps.size → a'.defers = a.defers → Fr φ h w φ' h' w' → Q (toExit e) a' w') → c.wp P Q a w

theorem loop_ok {nt : Nat} {c : Code} {f : Tm → H → Option (Ex × Tm × H)} (hc : CodeOk P nt c f) (n : Nat) : CodeOk P nt (.loop c) (iter f n) := by
  intro φ h w T a e T' h' Q S hf hT hn ev hK
  -- the number of rounds that are left is the measure
  let I : Act → World → Nat → Prop := fun a1 w1 m => ∃ φ1 h1 T1, Sim φ1 h1 w1 ∧ TR φ1 T1 a1.tmps ∧ nt ≤ a1.tmps.size ∧ a1.defers = a.defers ∧ Fr φ h w φ1 h1 w1 ∧ iter f m T1 h1 = some (e, T', h')
  have key : ∀ (m : Nat) (a1 : Act) (w1 : World), I a1 w1 m → c.wp P (Exit.then (fun a2 w2 => ∃ m', m' < m ∧ I a2 w2 m') Q) a1 w1 := by
    intro m a1 w1 hI
    obtain ⟨φ1, h1, T1, S1, hT1, hn1, hd1, F1, e1⟩ := hI
    cases m with
    | zero => cases e1
    | succ m =>
      simp only [iter] at e1
      cases hr : f T1 h1 with
      | none => simp [hr] at e1
      | some r =>
        obtain ⟨er, Tr', hr'⟩ := r
        simp only [hr, Option.bind_some] at e1
        refine hc φ1 h1 w1 T1 a1 er Tr' hr' _ S1 (F1.fresh hf) hT1 hn1 hr ?_
        intro φ2 a2 w2 S2 hT2 hn2 hd2 F2
        cases er with
        | normal =>
          simp only at e1
          exact ⟨m, Nat.lt_succ_self m, φ2, hr', Tr', S2, hT2, hn2, hd2.trans hd1, F1.trans F2, e1⟩
        | exit id =>
          simp only [Option.some.injEq, Prod.mk.injEq] at e1
          obtain ⟨rfl, rfl, rfl⟩ := e1
          exact hK φ2 a2 w2 S2 hT2 hn2 (hd2.trans hd1) (F1.trans F2)
        | ret =>
          simp only [Option.some.injEq, Prod.mk.injEq] at e1
          obtain ⟨rfl, rfl, rfl⟩ := e1
          exact hK φ2 a2 w2 S2 hT2 hn2 (hd2.trans hd1) (F1.trans F2)
  intro b k cs
  have go : ∀ (m : Nat) (a1 : Act) (w1 : World), I a1 w1 m → ∃ e a' w', Q e a' w' ∧ Arrives P (lone (b.at a1 (.code c :: .inLoop c :: k)) cs w1) b k cs e a' w' := by
    intro m
    induction m using Nat.strongRecOn with
    | _ m ih =>
      intro a1 w1 hI
      obtain ⟨e1, a2, w2, hq, harr⟩ := key m a1 w1 hI b (.inLoop c :: k) cs
      cases e1 with
      | normal =>
        obtain ⟨m', hlt, hI'⟩ := hq
        obtain ⟨e2, a3, w3, hq2, harr2⟩ := ih m' hlt a2 w2 hI'
        exact ⟨e2, a3, w3, hq2, .of_steps (Steps.trans harr (.one step_inLoop)) harr2⟩
      | exit id => exact ⟨_, a2, w2, hq, .pass (x := .inLoop c) rfl (fun _ _ => .inl (by simp)) harr⟩
      | goto l => exact ⟨_, a2, w2, hq, .pass (x := .inLoop c) rfl (fun _ _ => .inl (by simp)) harr⟩
      | ret => exact ⟨_, a2, w2, hq, .pass (x := .inLoop c) rfl (fun _ _ => .inl (by simp)) harr⟩
      | panic ch => exact ⟨_, a2, w2, hq, .pass (x := .inLoop c) rfl (fun _ _ => .inl (by simp)) harr⟩
      | outgrown => exact ⟨_, a2, w2, hq, .pass (x := .inLoop c) rfl (fun _ _ => .inl (by simp)) harr⟩
  obtain ⟨e', a', w', hq, harr⟩ := go n a w ⟨φ, h, T, S, hT, hn, rfl, .refl φ h w, ev⟩
  exact ⟨e', a', w', hq, .of_steps (.one step_loop) harr⟩

theorem code_ok {call : CallF} (hcall : CallOk P call) (n nt : Nat) : ∀ (c : Code) (x : C), compC P nt c = some x → CodeOk P nt c (evC call n x) := by
  intro c
  induction c with
  | skip =>
    intro x hc φ h w T a e T' h' Q S hf hT hn ev hK
    simp only [compC, Option.some.injEq] at hc; subst hc
    simp only [evC, Option.some.injEq, Prod.mk.injEq] at ev
    obtain ⟨rfl, rfl, rfl⟩ := ev
    exact wp_skip (hK φ a w S hT hn rfl (.refl φ h w))
  | region id ops draw =>
    intro x hc φ h w T a e T' h' Q S hf hT hn ev hK
    simp only [compC] at hc
    cases draw with
    | true =>
      simp only [if_true] at hc
      exact drawn_region hcall n hc S hf hT hn ev hK
    | false =>
      simp only [Bool.false_eq_true, if_false] at hc
      cases hxs : compOs P nt ops ops.toList with
      | none => simp [hxs] at hc
      | some xs =>
        simp only [hxs, Option.map_some, Option.some.injEq] at hc; subst hc
        simp only [evC] at ev
        cases hr : evOs call xs T h with
        | none => simp [hr] at ev
        | some r =>
          simp only [hr, Option.map_some, Option.some.injEq, Prod.mk.injEq] at ev
          obtain ⟨rfl, rfl, rfl⟩ := ev
          refine wp_region ?_
          have := ops_wp hcall Q ops.toList 0 xs φ h w T a r.1 r.2 (fun j => by simp) hxs S hf hT hn hr hK
          rw [List.range_eq_range']
          simpa using this
  | seq c1 c2 ih1 ih2 =>
    intro x hc φ h w T a e T' h' Q S hf hT hn ev hK
    simp only [compC] at hc
    cases h1 : compC P nt c1 with
    | none => simp [h1] at hc
    | some x1 =>
      cases h2 : compC P nt c2 with
      | none => simp [h1, h2] at hc
      | some x2 =>
        simp only [h1, h2, Option.bind_some, Option.map_some, Option.some.injEq] at hc; subst hc
        simp only [evC] at ev
        cases hr : evC call n x1 T h with
        | none => simp [hr] at ev
        | some r =>
          obtain ⟨e1, T1, hh1⟩ := r
          simp only [hr, Option.bind_some] at ev
          refine wp_seq (ih1 x1 h1 φ h w T a e1 T1 hh1 _ S hf hT hn hr ?_)
          intro φ1 a1 w1 S1 hT1 hn1 hd1 F1
          cases e1 with
          | normal => exact ih2 x2 h2 φ1 hh1 w1 T1 a1 e T' h' Q S1 (F1.fresh hf) hT1 hn1 ev (fun φ2 a2 w2 S2 hT2 hn2 hd2 F2 => hK φ2 a2 w2 S2 hT2 hn2 (hd2.trans hd1) (F1.trans F2))
          | exit id =>
            simp only [Option.some.injEq, Prod.mk.injEq] at ev
            obtain ⟨rfl, rfl, rfl⟩ := ev
            exact hK φ1 a1 w1 S1 hT1 hn1 hd1 F1
          | ret =>
            simp only [Option.some.injEq, Prod.mk.injEq] at ev
            obtain ⟨rfl, rfl, rfl⟩ := ev
            exact hK φ1 a1 w1 S1 hT1 hn1 hd1 F1
  | cond c c1 c2 ih1 ih2 =>
    intro x hc φ h w T a e T' h' Q S hf hT hn ev hK
    simp only [compC] at hc
    split at hc
    · rename_i hok
      cases h1 : compC P nt c1 with
      | none => simp [h1] at hc
      | some x1 =>
        cases h2 : compC P nt c2 with
        | none => simp [h1, h2] at hc
        | some x2 =>
          simp only [h1, h2, Option.bind_some, Option.map_some, Option.some.injEq] at hc; subst hc
          simp only [evC] at ev
          have hv := hT.rho c hok
          split at ev
          · rename_i hb
            rw [hb] at hv
            exact wp_cond_true hv.bool_inv (ih1 x1 h1 φ h w T a e T' h' Q S hf hT hn ev hK)
          · rename_i hb
            rw [hb] at hv
            exact wp_cond_false hv.bool_inv (ih2 x2 h2 φ h w T a e T' h' Q S hf hT hn ev hK)
          · cases ev
    · cases hc
  | block id c ih =>
    intro x hc φ h w T a e T' h' Q S hf hT hn ev hK
    simp only [compC] at hc
    cases h1 : compC P nt c with
    | none => simp [h1] at hc
    | some x1 =>
      simp only [h1, Option.map_some, Option.some.injEq] at hc; subst hc
      simp only [evC] at ev
      cases hr : evC call n x1 T h with
      | none => simp [hr] at ev
      | some r =>
        obtain ⟨e1, T1, hh1⟩ := r
        simp only [hr, Option.map_some, Option.some.injEq] at ev
        refine wp_block (ih x1 h1 φ h w T a e1 T1 hh1 _ S hf hT hn hr ?_)
        intro φ1 a1 w1 S1 hT1 hn1 hd1 F1
        cases e1 with
        | normal =>
          simp only [Prod.mk.injEq] at ev
          obtain ⟨rfl, rfl, rfl⟩ := ev
          exact hK φ1 a1 w1 S1 hT1 hn1 hd1 F1
        | exit id' =>
          simp only at ev
          simp only [toExit, Exit.inBlock]
          by_cases hid : id' = id
          · rw [if_pos hid] at ev ⊢
            simp only [Prod.mk.injEq] at ev
            obtain ⟨rfl, rfl, rfl⟩ := ev
            exact hK φ1 a1 w1 S1 hT1 hn1 hd1 F1
          · rw [if_neg hid] at ev ⊢
            simp only [Prod.mk.injEq] at ev
            obtain ⟨rfl, rfl, rfl⟩ := ev
            exact hK φ1 a1 w1 S1 hT1 hn1 hd1 F1
        | ret =>
          simp only [Prod.mk.injEq] at ev
          obtain ⟨rfl, rfl, rfl⟩ := ev
          exact hK φ1 a1 w1 S1 hT1 hn1 hd1 F1
  | loop c ih =>
    intro x hc
    simp only [compC] at hc
    cases h1 : compC P nt c with
    | none => simp [h1] at hc
    | some x1 =>
      simp only [h1, Option.map_some, Option.some.injEq] at hc; subst hc
      exact loop_ok (ih x1 h1) n
  | exit id =>
    intro x hc φ h w T a e T' h' Q S hf hT hn ev hK
    simp only [compC, Option.some.injEq] at hc; subst hc
    simp only [evC, Option.some.injEq, Prod.mk.injEq] at ev
    obtain ⟨rfl, rfl, rfl⟩ := ev
    exact wp_exit (hK φ a w S hT hn rfl (.refl φ h w))
  | ret =>
    intro x hc φ h w T a e T' h' Q S hf hT hn ev hK
    simp only [compC, Option.some.injEq] at hc; subst hc
    simp only [evC, Option.some.injEq, Prod.mk.injEq] at ev
    obtain ⟨rfl, rfl, rfl⟩ := ev
    exact wp_ret (hK φ a w S hT hn rfl (.refl φ h w))
  | rangeFunc f ps as b => intro x hc; simp [compC] at hc
  | scope b => intro x hc; simp [compC] at hc
  | label l => intro x hc; simp [compC] at hc
  | goto l => intro x hc; simp [compC] at hc
  | refuse y => intro x hc; simp [compC] at hc
end Go.Ae
