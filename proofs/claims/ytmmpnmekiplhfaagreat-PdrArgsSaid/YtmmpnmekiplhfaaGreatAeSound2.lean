/-
  THE EVALUATOR IS SOUND: regions, code, functions.
-/
import Derived.Test.YtmmpnmekiplhfaaGreatAeDrawn2
import Derived.Scope
namespace Go.Ae
open Go

variable {P : Program}

theorem ops_wp {call : CallF} (hcall : CallOk P call) {nt : Nat} {ops : Array Oper} (Q : Exit → Act → World → Prop) : ∀ (os : List Oper) (k : Nat) (xs : List O) (φ : Emb) (h : H) (w : World) (T : Tm) (a : Act)
    (T' : Tm) (h' : H), (∀ j, os[j]? = ops[k + j]?) → compOs P nt ops os = some xs → Sim φ h w → Fresh φ h → TR φ T a.tmps → nt ≤ a.tmps.size → evOs call xs T h = some (T', h') →
    (∀ φ' a' w', Sim φ' h' w' → TR φ' T' a'.tmps → nt ≤ a'.tmps.size → a'.defers = a.defers → Fr φ h w φ' h' w' → Q .normal a' w') →
    wpOps P ops Q (List.range' k os.length) a w := by
  intro os
  induction os with
  | nil =>
    intro k xs φ h w T a T' h' _ hc S hf hT hn ev hK
    simp only [compOs, Option.some.injEq] at hc
    subst hc
    simp only [evOs, Option.some.injEq, Prod.mk.injEq] at ev
    obtain ⟨rfl, rfl⟩ := ev
    simp only [List.length_nil, List.range'_zero, wpOps]
    exact hK φ a w S hT hn rfl (.refl φ h w)
  | cons o os ih =>
    intro k xs φ h w T a T' h' hos hc S hf hT hn ev hK
    simp only [compOs] at hc
    cases hx : compO P nt ops o with
    | none => simp [hx] at hc
    | some x =>
      cases hxs : compOs P nt ops os with
      | none => simp [hx, hxs] at hc
      | some xs' =>
        simp only [hx, hxs, Option.bind_some, Option.map_some, Option.some.injEq] at hc
        subst hc
        have h0 := hos 0
        simp only [List.getElem?_cons_zero, Nat.add_zero] at h0
        have hos' : ∀ j, os[j]? = ops[k + 1 + j]? := fun j => by
          have := hos (j + 1)
          simp only [List.getElem?_cons_succ] at this
          rw [this]; congr 1; omega
        have hdst : dstOk nt o.dst = true ∧ x.dst = o.dst ∧ compG ops o.guard = some x.g := by
          unfold compO at hx
          split at hx
          · rename_i hcond
            cases hg : compG ops o.guard with
            | none => simp [hg] at hx
            | some gd =>
              cases hk : compK P o with
              | none => simp [hg, hk] at hx
              | some kk => simp [hg, hk] at hx; subst hx; exact ⟨hcond.2, rfl, rfl⟩
          · cases hx
        obtain ⟨hd1, hd2, hg⟩ := hdst
        have run : ∀ r, evK call (rho T) h x.k = some r → evOs call xs' (T.set x.dst r.1) r.2 = some (T', h') → Region.wanted o (yielded ops a.tmps) = true →
            wpOps P ops Q (List.range' k (o :: os).length) a w := by
          intro r hr hrest hw
          simp only [List.length_cons, List.range'_succ, wpOps, ← h0, hw, if_true]
          refine .inl (op_wp hcall hx S (hf _ (Nat.le_refl _)) (fun _ => hf) hT hn (v := r.1) (h' := r.2) hr _ Q ?_)
          intro φ1 a1 w1 S1 hT1 hn1 hdf F1
          exact ih (k + 1) xs' φ1 r.2 w1 _ a1 T' h' hos' hxs S1 (F1.fresh hf) hT1 hn1 hrest (fun φ2 a2 w2 S2 hT2 hn2 hdf2 F2 => hK φ2 a2 w2 S2 hT2 hn2 (hdf2.trans hdf) (F1.trans F2))
        have skip : evOs call xs' (T.set x.dst undef) h = some (T', h') → Region.wanted o (yielded ops a.tmps) = false →
            wpOps P ops Q (List.range' k (o :: os).length) a w := by
          intro hrest hw
          simp only [List.length_cons, List.range'_succ, wpOps, ← h0, hw, if_false, Bool.false_eq_true]
          refine ih (k + 1) xs' φ h w (T.set x.dst undef) (a.put o.dst undef) T' h' hos' hxs S hf ?_ (by rw [put_size]; exact hn) hrest (fun φ2 a2 w2 S2 hT2 hn2 hdf2 F2 => hK φ2 a2 w2 S2 hT2 hn2 (by rw [hdf2, put_defers]) F2)
          rw [hd2]
          exact hT.set (dstOk_mono hn hd1) (.undef φ)
        simp only [evOs] at ev
        cases hd : dec T x.g with
        | none => simp [evO, hd] at ev
        | some b =>
          have hw := wanted_dec hT hg hd
          cases b with
          | true =>
            cases hr : evK call (rho T) h x.k with
            | none => simp [evO, hd, hr] at ev
            | some r => simp only [evO, hd, hr, Option.bind_some] at ev; exact run r hr ev hw
          | false =>
            simp only [evO, hd, Option.bind_some] at ev
            exact skip ev hw

/-- Code is sound. -/
def CodeOk (P : Program) (nt : Nat) (c : Code) (f : Tm → H → Option (Ex × Tm × H)) : Prop :=
  ∀ (φ : Emb) (h : H) (w : World) (T : Tm) (a : Act) (e : Ex) (T' : Tm) (h' : H) (Q : Exit → Act → World → Prop), Sim φ h w → Fresh φ h → TR φ T a.tmps → nt ≤ a.tmps.size → f T h = some (e, T', h') →
    (∀ φ' a' w', Sim φ' h' w' → TR φ' T' a'.tmps → nt ≤ a'.tmps.size → a'.defers = a.defers → Fr φ h w φ' h' w' → Q (toExit e) a' w') → c.wp P Q a w

theorem loop_ok {nt : Nat} {c : Code} {f : Tm → H → Option (Ex × Tm × H)} (hc : CodeOk P nt c f) (n : Nat) : CodeOk P nt (.loop c) (iter f n) := by
  intro φ h w T a e T' h' Q S hf hT hn ev hK
  -- the number of rounds that are left is the measure
  let I : Act → World → Nat → Prop := fun a1 w1 m => ∃ φ1 h1 T1, Sim φ1 h1 w1 ∧ TR φ1 T1 a1.tmps ∧ nt ≤ a1.tmps.size ∧ a1.defers = a.defers ∧ Fr φ h w φ1 h1 w1 ∧ iter f m T1 h1 = some (e, T', h')
  have key : ∀ (m : Nat) (a1 : Act) (w1 : World), I a1 w1 m → c.wp P (Exit.then (fun a2 w2 => ∃ m', m' < m ∧ I a2 w2 m') Q) a1 w1 := by
    intro m a1 w1 hI
    obtain ⟨φ1, h1, T1, S1, hT1, hn1, hd1, F1, e1⟩ := hI
    cases m with
    | zero => cases e1
    | succ m =>
      simp only [iter] at e1
      cases hr : f T1 h1 with
      | none => simp [hr] at e1
      | some r =>
        obtain ⟨er, Tr', hr'⟩ := r
        simp only [hr, Option.bind_some] at e1
        refine hc φ1 h1 w1 T1 a1 er Tr' hr' _ S1 (F1.fresh hf) hT1 hn1 hr ?_
        intro φ2 a2 w2 S2 hT2 hn2 hd2 F2
        cases er with
        | normal =>
          simp only at e1
          exact ⟨m, Nat.lt_succ_self m, φ2, hr', Tr', S2, hT2, hn2, hd2.trans hd1, F1.trans F2, e1⟩
        | exit id =>
          simp only [Option.some.injEq, Prod.mk.injEq] at e1
          obtain ⟨rfl, rfl, rfl⟩ := e1
          exact hK φ2 a2 w2 S2 hT2 hn2 (hd2.trans hd1) (F1.trans F2)
        | ret =>
          simp only [Option.some.injEq, Prod.mk.injEq] at e1
          obtain ⟨rfl, rfl, rfl⟩ := e1
          exact hK φ2 a2 w2 S2 hT2 hn2 (hd2.trans hd1) (F1.trans F2)
        | goto l =>
          simp only [Option.some.injEq, Prod.mk.injEq] at e1
          obtain ⟨rfl, rfl, rfl⟩ := e1
          exact hK φ2 a2 w2 S2 hT2 hn2 (hd2.trans hd1) (F1.trans F2)
  intro b k cs
  have go : ∀ (m : Nat) (a1 : Act) (w1 : World), I a1 w1 m → ∃ e a' w', Q e a' w' ∧ Arrives P (lone (b.at a1 (.code c :: .inLoop c :: k)) cs w1) b k cs e a' w' := by
    intro m
    induction m using Nat.strongRecOn with
    | _ m ih =>
      intro a1 w1 hI
      obtain ⟨e1, a2, w2, hq, harr⟩ := key m a1 w1 hI b (.inLoop c :: k) cs
      cases e1 with
      | normal =>
        obtain ⟨m', hlt, hI'⟩ := hq
        obtain ⟨e2, a3, w3, hq2, harr2⟩ := ih m' hlt a2 w2 hI'
        exact ⟨e2, a3, w3, hq2, .of_steps (Steps.trans harr (.one step_inLoop)) harr2⟩
      | exit id => exact ⟨_, a2, w2, hq, .pass (x := .inLoop c) rfl (fun _ _ => .inl (by simp)) harr⟩
      | goto l => exact ⟨_, a2, w2, hq, .pass (x := .inLoop c) rfl (fun _ _ => .inl (by simp)) harr⟩
      | ret => exact ⟨_, a2, w2, hq, .pass (x := .inLoop c) rfl (fun _ _ => .inl (by simp)) harr⟩
      | panic ch => exact ⟨_, a2, w2, hq, .pass (x := .inLoop c) rfl (fun _ _ => .inl (by simp)) harr⟩
      | outgrown => exact ⟨_, a2, w2, hq, .pass (x := .inLoop c) rfl (fun _ _ => .inl (by simp)) harr⟩
  obtain ⟨e', a', w', hq, harr⟩ := go n a w ⟨φ, h, T, S, hT, hn, rfl, .refl φ h w, ev⟩
  exact ⟨e', a', w', hq, .of_steps (.one step_loop) harr⟩

theorem findL_ok {nt : Nat} : ∀ (c : Code) (x : C), compC P nt c = some x → ∀ l, (∀ r, findLabel c l = some r → ∃ y, compC P nt r = some y ∧ findL x l = some y) ∧ (findLabel c l = none → findL x l = none) := by
  intro c
  induction c with
  | seq a b iha ihb =>
    intro x hc l
    simp only [compC] at hc
    cases h1 : compC P nt a with
    | none => simp [h1] at hc
    | some xa =>
      cases h2 : compC P nt b with
      | none => simp [h1, h2] at hc
      | some xb =>
        simp only [h1, h2, Option.bind_some, Option.map_some, Option.some.injEq] at hc; subst hc
        obtain ⟨a1, a2⟩ := iha xa h1 l
        obtain ⟨b1, b2⟩ := ihb xb h2 l
        cases hfa : findLabel a l with
        | some ra =>
          obtain ⟨y, hy1, hy2⟩ := a1 ra hfa
          refine ⟨fun r hr => ?_, fun hr => ?_⟩
          · simp only [findLabel, hfa, Option.some.injEq] at hr
            subst hr
            exact ⟨.seq y xb, by simp only [compC, hy1, h2, Option.bind_some, Option.map_some], by simp only [findL, hy2]⟩
          · simp [findLabel, hfa] at hr
        | none =>
          have hxa := a2 hfa
          refine ⟨fun r hr => ?_, fun hr => ?_⟩
          · simp only [findLabel, hfa] at hr
            obtain ⟨y, hy1, hy2⟩ := b1 r hr
            exact ⟨y, hy1, by simp only [findL, hxa, hy2]⟩
          · simp only [findLabel, hfa] at hr
            simp only [findL, hxa, b2 hr]
  | label l' =>
    intro x hc l
    simp only [compC, Option.some.injEq] at hc; subst hc
    refine ⟨fun r hr => ?_, fun hr => ?_⟩
    · simp only [findLabel] at hr
      split at hr
      · rename_i e
        cases hr
        exact ⟨.skip, rfl, by simp only [findL, e, if_true]⟩
      · cases hr
    · simp only [findLabel] at hr
      split at hr
      · cases hr
      · rename_i e; simp only [findL]; rw [if_neg e]
  | skip => intro x hc l; simp only [compC, Option.some.injEq] at hc; subst hc; exact ⟨fun r hr => by simp [findLabel] at hr, fun _ => rfl⟩
  | region id ops draw =>
    intro x hc l
    refine ⟨fun r hr => by simp [findLabel] at hr, fun _ => ?_⟩
    simp only [compC] at hc
    split at hc
    · unfold compD at hc
      split at hc
      · cases hxs : compOs P nt ops ops.toList with
        | none => simp [hxs] at hc
        | some xs =>
          simp only [hxs, Option.bind_some] at hc
          split at hc
          · cases hc; rfl
          · cases hc
      · cases hc
    · cases hxs : compOs P nt ops ops.toList with
      | none => simp [hxs] at hc
      | some xs => simp only [hxs, Option.map_some, Option.some.injEq] at hc; subst hc; rfl
  | cond c a b =>
    intro x hc l
    refine ⟨fun r hr => by simp [findLabel] at hr, fun _ => ?_⟩
    simp only [compC] at hc
    split at hc
    · cases h1 : compC P nt a with
      | none => simp [h1] at hc
      | some xa =>
        cases h2 : compC P nt b with
        | none => simp [h1, h2] at hc
        | some xb => simp only [h1, h2, Option.bind_some, Option.map_some, Option.some.injEq] at hc; subst hc; rfl
    · cases hc
  | block id c =>
    intro x hc l
    refine ⟨fun r hr => by simp [findLabel] at hr, fun _ => ?_⟩
    simp only [compC] at hc
    cases h1 : compC P nt c with
    | none => simp [h1] at hc
    | some xa => simp only [h1, Option.map_some, Option.some.injEq] at hc; subst hc; rfl
  | loop c =>
    intro x hc l
    refine ⟨fun r hr => by simp [findLabel] at hr, fun _ => ?_⟩
    simp only [compC] at hc
    cases h1 : compC P nt c with
    | none => simp [h1] at hc
    | some xa => simp only [h1, Option.map_some, Option.some.injEq] at hc; subst hc; rfl
  | exit id => intro x hc l; simp only [compC, Option.some.injEq] at hc; subst hc; exact ⟨fun r hr => by simp [findLabel] at hr, fun _ => rfl⟩
  | ret => intro x hc l; simp only [compC, Option.some.injEq] at hc; subst hc; exact ⟨fun r hr => by simp [findLabel] at hr, fun _ => rfl⟩
  | goto l' => intro x hc l; simp only [compC, Option.some.injEq] at hc; subst hc; exact ⟨fun r hr => by simp [findLabel] at hr, fun _ => rfl⟩
  | scope c =>
    intro x hc l
    refine ⟨fun r hr => by simp [findLabel] at hr, fun _ => ?_⟩
    simp only [compC] at hc
    cases h1 : compC P nt c with
    | none => simp [h1] at hc
    | some xa =>
      cases h2 : firstL xa with
      | none => simp [h1, h2] at hc
      | some l2 =>
        cases h3 : findL xa l2 with
        | none => simp [h1, h2, h3] at hc
        | some y => simp only [h1, h2, h3, Option.bind_some, Option.map_some, Option.some.injEq] at hc; subst hc; rfl
  | rangeFunc f ps as b => intro x hc; simp [compC] at hc
  | refuse y => intro x hc; simp [compC] at hc

/-- The size of a code, for a measure: what stands behind a label is no larger. -/
theorem scope_ok {nt : Nat} {c rest : Code} {f g : Tm → H → Option (Ex × Tm × H)} (l : Nat) (hf : CodeOk P nt c f) (hg : CodeOk P nt rest g) (hr : findLabel c l = some rest) (n : Nat) :
    CodeOk P nt (.scope c) (fun T h => (f T h).bind fun r => match r.1 with
      | .goto l' => if l' = l then jumps g l n r.2.1 r.2.2 else none
      | e => some (e, r.2.1, r.2.2)) := by
  intro φ h w T a e T' h' Q S hfr hT hn ev hK
  intro b k cs
  have hgo : gotoIn l (.inScope c :: k) = some (.code rest :: .inScope c :: k) := by simp [gotoIn, hr]
  let I : Act → World → Nat → Prop := fun a1 w1 m => ∃ φ1 h1 T1, Sim φ1 h1 w1 ∧ TR φ1 T1 a1.tmps ∧ nt ≤ a1.tmps.size ∧ a1.defers = a.defers ∧ Fr φ h w φ1 h1 w1 ∧ jumps g l m T1 h1 = some (e, T', h')
  have leave : ∀ (a0 : Act) (w0 : World) (c0 : Code) (ex : Ex) (a1 : Act) (w1 : World), (∀ l', ex ≠ .goto l') → Arrives P (lone (b.at a0 (.code c0 :: .inScope c :: k)) cs w0) b (.inScope c :: k) cs (toExit ex) a1 w1 →
      Arrives P (lone (b.at a0 (.code c0 :: .inScope c :: k)) cs w0) b k cs (toExit ex) a1 w1 := by
    intro a0 w0 c0 ex a1 w1 hne harr
    cases ex with
    | normal => exact Steps.trans harr (.one step_inScope)
    | exit id => exact fun k' hk => harr k' (by simp [exitTo, hk])
    | goto l' => exact absurd rfl (hne l')
    | ret => exact harr
  have go : ∀ (m : Nat) (a1 : Act) (w1 : World), I a1 w1 m → ∃ e a' w', Q e a' w' ∧ Arrives P (lone (b.at a1 (.code rest :: .inScope c :: k)) cs w1) b k cs e a' w' := by
    intro m
    induction m with
    | zero => intro a1 w1 hI; obtain ⟨_, _, _, _, _, _, _, _, e1⟩ := hI; cases e1
    | succ m ih =>
      intro a1 w1 hI
      obtain ⟨φ1, h1, T1, S1, hT1, hn1, hd1, F1, e1⟩ := hI
      simp only [jumps] at e1
      cases hgr : g T1 h1 with
      | none => simp [hgr] at e1
      | some r =>
        obtain ⟨er, Tr', hr'⟩ := r
        simp only [hgr, Option.bind_some] at e1
        have := hg φ1 h1 w1 T1 a1 er Tr' hr' (fun ex a2 w2 => ex = toExit er ∧ ∃ φ2, Sim φ2 hr' w2 ∧ TR φ2 Tr' a2.tmps ∧ nt ≤ a2.tmps.size ∧ a2.defers = a1.defers ∧ Fr φ1 h1 w1 φ2 hr' w2) S1 (F1.fresh hfr) hT1 hn1 hgr
          (fun φ2 a2 w2 S2 hT2 hn2 hd2 F2 => ⟨rfl, φ2, S2, hT2, hn2, hd2, F2⟩) b (.inScope c :: k) cs
        obtain ⟨ex, a2, w2, ⟨rfl, φ2, S2, hT2, hn2, hd2, F2⟩, harr⟩ := this
        by_cases hgt : ∃ l', er = .goto l'
        · obtain ⟨l', rfl⟩ := hgt
          simp only at e1
          split at e1
          · rename_i hll
            subst hll
            obtain ⟨e2, a3, w3, hq2, harr2⟩ := ih a2 w2 ⟨φ2, hr', Tr', S2, hT2, hn2, hd2.trans hd1, F1.trans F2, e1⟩
            exact ⟨e2, a3, w3, hq2, .of_steps (harr _ hgo) harr2⟩
          · cases e1
        · have hne : ∀ l', er ≠ .goto l' := fun l' h => hgt ⟨l', h⟩
          have e2 : er = e ∧ Tr' = T' ∧ hr' = h' := by
            cases er with
            | goto l' => exact absurd rfl (hne l')
            | normal => simpa using e1
            | exit id => simpa using e1
            | ret => simpa using e1
          obtain ⟨rfl, rfl, rfl⟩ := e2
          exact ⟨_, a2, w2, hK φ2 a2 w2 S2 hT2 hn2 (hd2.trans hd1) (F1.trans F2), leave a1 w1 rest er a2 w2 hne harr⟩
  cases hfv : f T h with
  | none => simp [hfv] at ev
  | some r =>
    obtain ⟨er, Tr', hr'⟩ := r
    simp only [hfv, Option.bind_some] at ev
    have := hf φ h w T a er Tr' hr' (fun ex a2 w2 => ex = toExit er ∧ ∃ φ2, Sim φ2 hr' w2 ∧ TR φ2 Tr' a2.tmps ∧ nt ≤ a2.tmps.size ∧ a2.defers = a.defers ∧ Fr φ h w φ2 hr' w2) S hfr hT hn hfv
      (fun φ2 a2 w2 S2 hT2 hn2 hd2 F2 => ⟨rfl, φ2, S2, hT2, hn2, hd2, F2⟩) b (.inScope c :: k) cs
    obtain ⟨ex, a2, w2, ⟨rfl, φ2, S2, hT2, hn2, hd2, F2⟩, harr⟩ := this
    by_cases hgt : ∃ l', er = .goto l'
    · obtain ⟨l', rfl⟩ := hgt
      simp only at ev
      split at ev
      · rename_i hll
        subst hll
        obtain ⟨e2, a3, w3, hq2, harr2⟩ := go n a2 w2 ⟨φ2, hr', Tr', S2, hT2, hn2, hd2, F2, ev⟩
        exact ⟨e2, a3, w3, hq2, .of_steps (.head step_scope (harr _ hgo)) harr2⟩
      · cases ev
    · have hne : ∀ l', er ≠ .goto l' := fun l' h => hgt ⟨l', h⟩
      have e2 : er = e ∧ Tr' = T' ∧ hr' = h' := by
        cases er with
        | goto l' => exact absurd rfl (hne l')
        | normal => simpa using ev
        | exit id => simpa using ev
        | ret => simpa using ev
      obtain ⟨rfl, rfl, rfl⟩ := e2
      exact ⟨_, a2, w2, hK φ2 a2 w2 S2 hT2 hn2 hd2 F2, .of_steps (.one step_scope) (leave a w c er a2 w2 hne harr)⟩

theorem seq_ok {call : CallF} {n nt : Nat} {c1 c2 : Code} {x1 x2 : C} (ih1 : CodeOk P nt c1 (evC call n x1)) (ih2 : CodeOk P nt c2 (evC call n x2)) : CodeOk P nt (.seq c1 c2) (evC call n (.seq x1 x2)) := by
  intro φ h w T a e T' h' Q S hf hT hn ev hK
  simp only [evC] at ev
  cases hr : evC call n x1 T h with
  | none => simp [hr] at ev
  | some r =>
    obtain ⟨e1, T1, hh1⟩ := r
    simp only [hr, Option.bind_some] at ev
    refine wp_seq (ih1 φ h w T a e1 T1 hh1 _ S hf hT hn hr ?_)
    intro φ1 a1 w1 S1 hT1 hn1 hd1 F1
    cases e1 with
    | normal => exact ih2 φ1 hh1 w1 T1 a1 e T' h' Q S1 (F1.fresh hf) hT1 hn1 ev (fun φ2 a2 w2 S2 hT2 hn2 hd2 F2 => hK φ2 a2 w2 S2 hT2 hn2 (hd2.trans hd1) (F1.trans F2))
    | exit id =>
      simp only [Option.some.injEq, Prod.mk.injEq] at ev
      obtain ⟨rfl, rfl, rfl⟩ := ev
      exact hK φ1 a1 w1 S1 hT1 hn1 hd1 F1
    | ret =>
      simp only [Option.some.injEq, Prod.mk.injEq] at ev
      obtain ⟨rfl, rfl, rfl⟩ := ev
      exact hK φ1 a1 w1 S1 hT1 hn1 hd1 F1
    | goto l =>
      simp only [Option.some.injEq, Prod.mk.injEq] at ev
      obtain ⟨rfl, rfl, rfl⟩ := ev
      exact hK φ1 a1 w1 S1 hT1 hn1 hd1 F1

theorem code_ok2 {call : CallF} (hcall : CallOk P call) (hcfr : CallFr call) (n nt : Nat) : ∀ (c : Code), (∀ (x : C), compC P nt c = some x → CodeOk P nt c (evC call n x)) ∧ ∀ l r, findLabel c l = some r → ∀ y, compC P nt r = some y → CodeOk P nt r (evC call n y) := by
  intro c
  induction c with
  | skip =>
    refine ⟨?_, fun l r hr => by simp [findLabel] at hr⟩
    intro x hc φ h w T a e T' h' Q S hf hT hn ev hK
    simp only [compC, Option.some.injEq] at hc; subst hc
    simp only [evC, Option.some.injEq, Prod.mk.injEq] at ev
    obtain ⟨rfl, rfl, rfl⟩ := ev
    exact wp_skip (hK φ a w S hT hn rfl (.refl φ h w))
  | region id ops draw =>
    refine ⟨?_, fun l r hr => by simp [findLabel] at hr⟩
    intro x hc φ h w T a e T' h' Q S hf hT hn ev hK
    simp only [compC] at hc
    cases draw with
    | true =>
      simp only [if_true] at hc
      exact drawn_region hcall hcfr n hc S hf hT hn ev hK
    | false =>
      simp only [Bool.false_eq_true, if_false] at hc
      cases hxs : compOs P nt ops ops.toList with
      | none => simp [hxs] at hc
      | some xs =>
        simp only [hxs, Option.map_some, Option.some.injEq] at hc; subst hc
        simp only [evC] at ev
        cases hr : evOs call xs T h with
        | none => simp [hr] at ev
        | some r =>
          simp only [hr, Option.map_some, Option.some.injEq, Prod.mk.injEq] at ev
          obtain ⟨rfl, rfl, rfl⟩ := ev
          refine wp_region ?_
          have := ops_wp hcall Q ops.toList 0 xs φ h w T a r.1 r.2 (fun j => by simp) hxs S hf hT hn hr hK
          rw [List.range_eq_range']
          simpa using this
  | seq c1 c2 ih1 ih2 =>
    have A : ∀ x, compC P nt (.seq c1 c2) = some x → CodeOk P nt (.seq c1 c2) (evC call n x) := by
      intro x hc
      simp only [compC] at hc
      cases h1 : compC P nt c1 with
      | none => simp [h1] at hc
      | some x1 =>
        cases h2 : compC P nt c2 with
        | none => simp [h1, h2] at hc
        | some x2 =>
          simp only [h1, h2, Option.bind_some, Option.map_some, Option.some.injEq] at hc; subst hc
          exact seq_ok (ih1.1 x1 h1) (ih2.1 x2 h2)
    refine ⟨A, fun l r hr y hy => ?_⟩
    simp only [findLabel] at hr
    cases hfa : findLabel c1 l with
    | none => rw [hfa] at hr; exact ih2.2 l r hr y hy
    | some ra =>
      rw [hfa] at hr
      simp only [Option.some.injEq] at hr
      subst hr
      simp only [compC] at hy
      cases h1 : compC P nt ra with
      | none => simp [h1] at hy
      | some x1 =>
        cases h2 : compC P nt c2 with
        | none => simp [h1, h2] at hy
        | some x2 =>
          simp only [h1, h2, Option.bind_some, Option.map_some, Option.some.injEq] at hy; subst hy
          exact seq_ok (ih1.2 l ra hfa x1 h1) (ih2.1 x2 h2)
  | cond c c1 c2 ih1 ih2 =>
    refine ⟨?_, fun l r hr => by simp [findLabel] at hr⟩
    intro x hc φ h w T a e T' h' Q S hf hT hn ev hK
    simp only [compC] at hc
    split at hc
    · rename_i hok
      cases h1 : compC P nt c1 with
      | none => simp [h1] at hc
      | some x1 =>
        cases h2 : compC P nt c2 with
        | none => simp [h1, h2] at hc
        | some x2 =>
          simp only [h1, h2, Option.bind_some, Option.map_some, Option.some.injEq] at hc; subst hc
          simp only [evC] at ev
          have hv := hT.rho c hok
          split at ev
          · rename_i hb
            rw [hb] at hv
            exact wp_cond_true hv.bool_inv (ih1.1 x1 h1 φ h w T a e T' h' Q S hf hT hn ev hK)
          · rename_i hb
            rw [hb] at hv
            exact wp_cond_false hv.bool_inv (ih2.1 x2 h2 φ h w T a e T' h' Q S hf hT hn ev hK)
          · cases ev
    · cases hc
  | block id c ih =>
    refine ⟨?_, fun l r hr => by simp [findLabel] at hr⟩
    intro x hc φ h w T a e T' h' Q S hf hT hn ev hK
    simp only [compC] at hc
    cases h1 : compC P nt c with
    | none => simp [h1] at hc
    | some x1 =>
      simp only [h1, Option.map_some, Option.some.injEq] at hc; subst hc
      simp only [evC] at ev
      cases hr : evC call n x1 T h with
      | none => simp [hr] at ev
      | some r =>
        obtain ⟨e1, T1, hh1⟩ := r
        simp only [hr, Option.map_some, Option.some.injEq] at ev
        refine wp_block (ih.1 x1 h1 φ h w T a e1 T1 hh1 _ S hf hT hn hr ?_)
        intro φ1 a1 w1 S1 hT1 hn1 hd1 F1
        cases e1 with
        | normal =>
          simp only [Prod.mk.injEq] at ev
          obtain ⟨rfl, rfl, rfl⟩ := ev
          exact hK φ1 a1 w1 S1 hT1 hn1 hd1 F1
        | exit id' =>
          simp only at ev
          simp only [toExit, Exit.inBlock]
          by_cases hid : id' = id
          · rw [if_pos hid] at ev ⊢
            simp only [Prod.mk.injEq] at ev
            obtain ⟨rfl, rfl, rfl⟩ := ev
            exact hK φ1 a1 w1 S1 hT1 hn1 hd1 F1
          · rw [if_neg hid] at ev ⊢
            simp only [Prod.mk.injEq] at ev
            obtain ⟨rfl, rfl, rfl⟩ := ev
            exact hK φ1 a1 w1 S1 hT1 hn1 hd1 F1
        | ret =>
          simp only [Prod.mk.injEq] at ev
          obtain ⟨rfl, rfl, rfl⟩ := ev
          exact hK φ1 a1 w1 S1 hT1 hn1 hd1 F1
        | goto l =>
          simp only [Prod.mk.injEq] at ev
          obtain ⟨rfl, rfl, rfl⟩ := ev
          exact hK φ1 a1 w1 S1 hT1 hn1 hd1 F1
  | loop c ih =>
    refine ⟨?_, fun l r hr => by simp [findLabel] at hr⟩
    intro x hc
    simp only [compC] at hc
    cases h1 : compC P nt c with
    | none => simp [h1] at hc
    | some x1 =>
      simp only [h1, Option.map_some, Option.some.injEq] at hc; subst hc
      exact loop_ok (ih.1 x1 h1) n
  | exit id =>
    refine ⟨?_, fun l r hr => by simp [findLabel] at hr⟩
    intro x hc φ h w T a e T' h' Q S hf hT hn ev hK
    simp only [compC, Option.some.injEq] at hc; subst hc
    simp only [evC, Option.some.injEq, Prod.mk.injEq] at ev
    obtain ⟨rfl, rfl, rfl⟩ := ev
    exact wp_exit (hK φ a w S hT hn rfl (.refl φ h w))
  | ret =>
    refine ⟨?_, fun l r hr => by simp [findLabel] at hr⟩
    intro x hc φ h w T a e T' h' Q S hf hT hn ev hK
    simp only [compC, Option.some.injEq] at hc; subst hc
    simp only [evC, Option.some.injEq, Prod.mk.injEq] at ev
    obtain ⟨rfl, rfl, rfl⟩ := ev
    exact wp_ret (hK φ a w S hT hn rfl (.refl φ h w))
  | rangeFunc f ps as b =>
    refine ⟨?_, fun l r hr => by simp [findLabel] at hr⟩
    intro x hc; simp [compC] at hc
  | scope c ih =>
    refine ⟨?_, fun l r hr => by simp [findLabel] at hr⟩
    intro x hc
    simp only [compC] at hc
    cases h1 : compC P nt c with
    | none => simp [h1] at hc
    | some xa =>
      cases h2 : firstL xa with
      | none => simp [h1, h2] at hc
      | some l =>
        cases h3 : findL xa l with
        | none => simp [h1, h2, h3] at hc
        | some y =>
          simp only [h1, h2, h3, Option.bind_some, Option.map_some, Option.some.injEq] at hc; subst hc
          obtain ⟨f1, f2⟩ := findL_ok c xa h1 l
          cases hfl : findLabel c l with
          | none => rw [f2 hfl] at h3; cases h3
          | some r =>
            obtain ⟨y', hy1, hy2⟩ := f1 r hfl
            rw [h3] at hy2
            cases hy2
            exact scope_ok l (ih.1 xa h1) (ih.2 l r hfl y hy1) hfl n
  | label l =>
    refine ⟨?_, ?_⟩
    · intro x hc φ h w T a e T' h' Q S hf hT hn ev hK
      simp only [compC, Option.some.injEq] at hc; subst hc
      simp only [evC, Option.some.injEq, Prod.mk.injEq] at ev
      obtain ⟨rfl, rfl, rfl⟩ := ev
      exact wp_label (hK φ a w S hT hn rfl (.refl φ h w))
    · intro l' r hr y hy
      simp only [findLabel] at hr
      split at hr
      · cases hr
        simp only [compC, Option.some.injEq] at hy; subst hy
        intro φ h w T a e T' h' Q S hf hT hn ev hK
        simp only [evC, Option.some.injEq, Prod.mk.injEq] at ev
        obtain ⟨rfl, rfl, rfl⟩ := ev
        exact wp_skip (hK φ a w S hT hn rfl (.refl φ h w))
      · cases hr
  | goto l =>
    refine ⟨?_, fun l r hr => by simp [findLabel] at hr⟩
    intro x hc φ h w T a e T' h' Q S hf hT hn ev hK
    simp only [compC, Option.some.injEq] at hc; subst hc
    simp only [evC, Option.some.injEq, Prod.mk.injEq] at ev
    obtain ⟨rfl, rfl, rfl⟩ := ev
    exact wp_goto (hK φ a w S hT hn rfl (.refl φ h w))
  | refuse y =>
    refine ⟨?_, fun l r hr => by simp [findLabel] at hr⟩
    intro x hc; simp [compC] at hc

theorem code_ok {call : CallF} (hcall : CallOk P call) (hcfr : CallFr call) (n nt : Nat) (c : Code) (x : C) (hc : compC P nt c = some x) : CodeOk P nt c (evC call n x) := (code_ok2 hcall hcfr n nt c).1 x hc
end Go.Ae
