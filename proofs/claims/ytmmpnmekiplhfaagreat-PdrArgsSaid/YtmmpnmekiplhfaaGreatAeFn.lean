/-
  THE EVALUATOR IS SOUND: functions, with contracts in the place of some; more rounds give the same answer; what it says of a call from an empty heap.
-/
import Derived.Test.YtmmpnmekiplhfaaGreatAeSound2
namespace Go.Ae
open Go

variable {P : Program}

theorem rs_ok {φ : Emb} {h : H} {w : World} (S : Sim φ h w) {T : Tm} {t : Array Value} (hT : TR φ T t) : ∀ (rs : List ResultVar) (xs : List Rs) (vs : List Value), compRs P rs = some xs → evRs T h xs = some vs →
    ∃ vs', (rs.mapM (fun
      | .tmp x => pure (t.getD x undef)
      | .cell a ty => do loadVar ty (← asAddr (t.getD a undef)) : ResultVar → Sem Value)).run P w = .ok vs' w ∧ VRs φ vs vs' := by
  intro rs
  induction rs with
  | nil =>
    intro xs vs hc ev
    simp only [compRs, Option.some.injEq] at hc; subst hc
    simp only [evRs, Option.some.injEq] at ev; subst ev
    exact ⟨[], by simp, .nil φ⟩
  | cons r rs ih =>
    intro xs vs hc ev
    simp only [compRs] at hc
    cases hr : compR P r with
    | none => simp [hr] at hc
    | some x =>
      cases hrs : compRs P rs with
      | none => simp [hr, hrs] at hc
      | some xs' =>
        simp only [hr, hrs, Option.bind_some, Option.map_some, Option.some.injEq] at hc; subst hc
        simp only [evRs] at ev
        cases hv : evR T h x with
        | none => simp [hv] at ev
        | some v =>
          cases hvs : evRs T h xs' with
          | none => simp [hv, hvs] at ev
          | some vs1 =>
            simp only [hv, hvs, Option.bind_some, Option.map_some, Option.some.injEq] at ev; subst ev
            obtain ⟨vs', h1, h2⟩ := ih xs' vs1 hrs hvs
            have head : ∃ v', ((fun
                | .tmp x => pure (t.getD x undef)
                | .cell a ty => do loadVar ty (← asAddr (t.getD a undef)) : ResultVar → Sem Value) r).run P w = .ok v' w ∧ VR φ v v' := by
              cases r with
              | tmp x0 =>
                simp only [compR, Option.some.injEq] at hr; subst hr
                simp only [evR, Option.some.injEq] at hv; subst hv
                exact ⟨_, rfl, hT x0⟩
              | cell a ty =>
                simp only [compR] at hr
                cases hl : ldForm P ty with
                | none => simp [hl] at hr
                | some n =>
                  simp only [hl, Option.map_some, Option.some.injEq] at hr; subst hr
                  simp only [evR] at hv
                  cases ha : adr (g T a) with
                  | none => simp [ha] at hv
                  | some p =>
                    simp only [ha, Option.bind_some] at hv
                    obtain ⟨l, hlo, hpa⟩ := adr_some (hT a) ha
                    cases n with
                    | none =>
                      simp only at hv
                      obtain ⟨v', g1, g2⟩ := S.ld hv hlo
                      exact ⟨v', by simp only [Sem.run_bind, hpa, asAddr, Sem.run_pure, Result.andThen_ok, loadVar_one hl g1], g2⟩
                    | some n =>
                      simp only at hv
                      cases hld : h.lds p.1 p.2 n with
                      | none => simp [hld] at hv
                      | some us =>
                        simp only [hld, Option.map_some, Option.some.injEq] at hv; subst hv
                        obtain ⟨us', g0, g1, g2⟩ := S.lds hld hlo
                        exact ⟨.agg us'.toArray, by simp only [Sem.run_bind, hpa, asAddr, Sem.run_pure, Result.andThen_ok, loadVar_agg hl g0 g1], .agg' (by simpa using g2)⟩
            obtain ⟨v', g1, g2⟩ := head
            refine ⟨v' :: vs', ?_, .cons g2 h2⟩
            simp only [List.mapM_cons, Sem.run_bind, g1, Result.andThen_ok, h1, Sem.run_pure]

theorem results_run {φ : Emb} {h : H} {w : World} (S : Sim φ h w) {T : Tm} {t : Array Value} (hT : TR φ T t) {fn : Func} {xs : List Rs} {vs : List Value} (hc : compRs P fn.results.toList = some xs)
    (ev : evRs T h xs = some vs) : ∃ v', (results fn t).run P w = .ok v' w ∧ VR φ (one vs) v' := by
  obtain ⟨vs', h1, h2⟩ := rs_ok S hT _ xs vs hc ev
  have hl := h2.1
  refine ⟨if h : vs'.toArray.size = 1 then vs'.toArray[0] else .tuple vs'.toArray, ?_, ?_⟩
  · unfold results
    rw [Array.mapM_eq_mapM_toList]
    simp only [Sem.run_bind, Sem.run_map]
    erw [h1]
    simp only [Result.andThen_ok, Sem.run_pure]
  · match vs, vs', h2, hl with
    | [], [], _, _ => simp [one]; exact .tuple rfl (fun j h => absurd h (by simp))
    | [v], [v'], h2, _ => simp [one]; exact h2.head
    | v :: u :: vs, v' :: u' :: vs', h2, _ =>
      simp only [one]
      rw [dif_neg (by simp)]
      exact .tuple' (by simpa using h2)

theorem of_ok {φ : Emb} : ∀ (args args' : List Value) (i : Nat) (T : Tm) (t : Array Value), VRs φ args args' → TR φ T t → i + args'.length ≤ t.size →
    ∀ t', t'.size = t.size → (∀ j, t'.getD j undef = if i ≤ j ∧ j < i + args'.length then args'.getD (j - i) undef else t.getD j undef) → TR φ (Tm.of args i T) t' := by
  intro args
  induction args with
  | nil =>
    intro args' i T t hv hT hle t' hs ht'
    have : args' = [] := List.eq_nil_of_length_eq_zero (by simpa using hv.1.symm)
    subst this
    intro j
    rw [ht', if_neg (by simp)]
    exact hT j
  | cons v args ih =>
    intro args' i T t hv hT hle t' hs ht'
    cases args' with
    | nil => have := hv.1; simp at this
    | cons v' args' =>
      simp only [List.length_cons] at hle
      refine ih args' (i + 1) (T.put i v) (t.setIfInBounds i v') hv.tail (hT.put (by omega) hv.head) (by simp; omega) t' (by simpa using hs) ?_
      intro j
      rw [ht' j]
      simp only [List.length_cons]
      by_cases h1 : j = i
      · subst h1
        rw [if_pos (by omega), if_neg (by omega)]
        simp [show j < t.size by omega]
      · have : (t.setIfInBounds i v').getD j undef = t.getD j undef := by
          simp only [Array.getD_eq_getD_getElem?]
          rw [Array.getElem?_setIfInBounds_ne (Ne.symm h1)]
        rw [this]
        by_cases h2 : i + 1 ≤ j ∧ j < i + 1 + args'.length
        · rw [if_pos (by omega), if_pos h2, show j - i = (j - (i + 1)) + 1 by omega]
          rfl
        · rw [if_neg (by omega), if_neg h2]

/-- The table of the program's own functions, with contracts. -/
def env (P : Program) (spec : FuncId → List Value → H → Option (Value × H)) : Env := ⟨compFn P, spec⟩

/-- Contracts that are so, and do not see a block beside. -/
structure SpecOk (P : Program) (spec : CallF) : Prop where
  ok : CallOk P spec
  fr : SpecFr spec

theorem fn_ok {E : Env} (hE : ∀ f c, E.fns f = some c → compFn P f = some c) (hspec : SpecOk P E.spec) : ∀ n, CallOk P (evFn E n) := by
  intro n
  induction n with
  | zero => intro f args h v h' ev; cases ev
  | succ n ih =>
    intro f args h v h' ev
    simp only [evFn] at ev
    split at ev
    · rename_i r hr
      simp only [Option.some.injEq] at ev
      subst ev
      exact hspec.ok f args h v h' hr
    · rename_i hno
      cases hef : E.fns f with
      | none => simp [hef] at ev
      | some fn' =>
        simp only [hef, Option.bind_some] at ev
        have hcf := hE f fn' hef
        unfold compFn at hcf
        split at hcf
        · cases hcf
        · rename_i fn hfn
          split at hcf
          · rename_i hent
            split at hcf
            · cases hcf
            · rename_i c hbody
              cases hcode : compC P fn.ntmps c with
              | none => simp [hcode] at hcf
              | some code =>
                cases hres : compRs P fn.results.toList with
                | none => simp [hcode, hres] at hcf
                | some res =>
                  simp only [hcode, hres, Option.bind_some, Option.map_some, Option.some.injEq] at hcf
                  subst hcf
                  refine ⟨⟨fn, hfn, hent⟩, fun φ w args' S hf hargs => ?_⟩
                  simp only at ev
                  cases hr : evC (evFn E n) n code (Tm.of args 0 .nil) h with
                  | none => simp [hr] at ev
                  | some r =>
                    obtain ⟨e, T', hh'⟩ := r
                    simp only [hr, Option.bind_some] at ev
                    have fin : e ≠ .normal ∧ e ≠ .ret → False := by
                      intro hne
                      cases e with
                      | normal => exact hne.1 rfl
                      | exit id => simp at ev
                      | goto l => simp at ev
                      | ret => exact hne.2 rfl
                    have ev2 : (evRs T' hh' res).map (fun vs => (one vs, hh')) = some (v, h') := by
                      cases e with
                      | normal => exact ev
                      | exit id => simp at ev
                      | goto l => simp at ev
                      | ret => exact ev
                    cases hrs : evRs T' hh' res with
                    | none => simp [hrs] at ev2
                    | some vs =>
                      simp only [hrs, Option.map_some, Option.some.injEq, Prod.mk.injEq] at ev2
                      obtain ⟨rfl, rfl⟩ := ev2
                      refine calls_of_wp hfn hbody ?_
                      -- the temporaries at the start
                      let t0 : Array Value := args'.toArray ++ Array.replicate (fn.ntmps - args'.toArray.size) undef
                      have hs0 : t0.size = max args'.length fn.ntmps := by simp [t0]; omega
                      have hT : TR φ (Tm.of args 0 .nil) t0 := by
                        refine of_ok args args' 0 .nil (Array.replicate (max args'.length fn.ntmps) undef) hargs ?_ (by simp; omega) t0 (by rw [hs0]; simp) ?_
                        · intro j
                          have : g (.nil : Tm) j = undef := by unfold g; rw [Tr.get_nil]
                          rw [this]
                          have : (Array.replicate (max args'.length fn.ntmps) undef).getD j undef = undef := by
                            simp only [Array.getD_eq_getD_getElem?, Array.getElem?_replicate]; split <;> rfl
                          rw [this]
                          exact .undef φ
                        · intro j
                          simp only [t0, Array.getD_eq_getD_getElem?, Array.getElem?_append, Array.getElem?_replicate, List.size_toArray, Nat.zero_le, true_and, Nat.zero_add, Nat.sub_zero, List.getD_eq_getElem?_getD]
                          by_cases hj : j < args'.length
                          · rw [if_pos hj, if_pos hj]; simp
                          · rw [if_neg hj, if_neg hj]
                            split <;> split <;> simp
                      refine code_ok ih (evFn_fr hspec.fr n) n fn.ntmps c code hcode φ h w _ ⟨t0, []⟩ e T' hh' _ S hf hT (by rw [hs0]; exact Nat.le_max_right _ _) hr ?_
                      intro φ1 a1 w1 S1 hT1 hn1 hd1 F1
                      obtain ⟨v', g1, g2⟩ := results_run S1 hT1 hres hrs
                      cases e with
                      | normal => exact ⟨hd1, v', g1, φ1, v', rfl, g2, S1, F1⟩
                      | exit id => exact (fin ⟨by simp, by simp⟩).elim
                      | goto l => exact (fin ⟨by simp, by simp⟩).elim
                      | ret => exact ⟨hd1, v', g1, φ1, v', rfl, g2, S1, F1⟩
          · cases hcf

/-- The empty heap. -/
def H0 : H := ⟨.nil, fun _ => none, 0, .nil⟩
def noSpec : FuncId → List Value → H → Option (Value × H) := fun _ _ _ => none
theorem noSpec_ok : SpecOk P noSpec := ⟨fun _ _ _ _ _ h => by (cases h), ⟨fun _ _ _ _ _ _ _ h => by (cases h), fun _ _ _ _ _ _ => rfl⟩⟩

/-- Is the answer 'true'? -/
def saysTrue : Option (Value × H) → Bool
  | some (.bool true, _) => true
  | _ => false
end Go.Ae
