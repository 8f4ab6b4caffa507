/-
  More rounds give the same answer; and what a code must meet, step by step (a weakest precondition over the evaluator).
-/
import Derived.Test.YtmmpnmekiplhfaaGreatAeTop
namespace Go.Ae
open Go

/-- One caller answers whatever another does. -/
def CLe (c c' : CallF) : Prop := ∀ f xs h r, c f xs h = some r → c' f xs h = some r

theorem evK_mono {c c' : CallF} (hc : CLe c c') {ρ : Operand → Value} {h : H} {k : K} {r : Value × H} (e : evK c ρ h k = some r) : evK c' ρ h k = some r := by
  cases k with
  | op i => exact e
  | call f xs => exact hc _ _ _ _ e
  | callv x xs =>
    simp only [evK] at e ⊢
    split at e
    · exact hc _ _ _ _ e
    · cases e
  | inv x em tab xs =>
    simp only [evK] at e ⊢
    split at e
    · rename_i t v hx
      cases hf : findT tab t with
      | none => simp [hf] at e
      | some fm =>
        obtain ⟨f, m⟩ := fm
        simp only [hf, Option.bind_some] at e ⊢
        cases m with
        | none => exact hc _ _ _ _ e
        | some n =>
          simp only at e ⊢
          cases ha : adr v with
          | none => simp [ha] at e
          | some p =>
            simp only [ha, Option.bind_some] at e ⊢
            cases n with
            | none =>
              simp only at e ⊢
              cases hl : h.ld p.1 p.2 with
              | none => simp [hl] at e
              | some u => simp only [hl, Option.bind_some] at e ⊢; exact hc _ _ _ _ e
            | some n =>
              simp only at e ⊢
              cases hl : h.lds p.1 p.2 n with
              | none => simp [hl] at e
              | some u => simp only [hl, Option.bind_some] at e ⊢; exact hc _ _ _ _ e
    · cases e

theorem evO_mono {c c' : CallF} (hc : CLe c c') {o : O} {T : Tm} {h : H} {r : Value × H} (e : evO c o T h = some r) : evO c' o T h = some r := by
  unfold evO at e ⊢
  split at e
  · cases e
  · exact e
  · exact evK_mono hc e

theorem evOs_mono {c c' : CallF} (hc : CLe c c') : ∀ {os : List O} {T : Tm} {h : H} {r : Tm × H}, evOs c os T h = some r → evOs c' os T h = some r
  | [], _, _, _, e => e
  | o :: os, T, h, r, e => by
    simp only [evOs] at e ⊢
    cases ho : evO c o T h with
    | none => simp [ho] at e
    | some x => rw [evO_mono hc ho]; simp only [ho, Option.bind_some] at e ⊢; exact evOs_mono hc e

theorem run1_mono {c c' : CallF} (hc : CLe c c') {b m : Nat} {d : DO} {ρ : Operand → Value} {h : H} {r : Value × H} (e : run1 c b m d ρ h = some r) : run1 c' b m d ρ h = some r := by
  unfold run1 at e ⊢
  split at e
  · rename_i q _
    cases hk : evK c ρ { h with next := b + q } d.o.k with
    | none => rw [hk] at e; cases e
    | some x => rw [evK_mono hc hk]; rw [hk] at e; exact e
  · split at e
    · rename_i n a hl
      split at e
      · cases e
      · rename_i hk; simp only [if_neg hk]; exact evK_mono hc e
    · exact evK_mono hc e

theorem evE_mono {c c' : CallF} (hc : CLe c c') {b m : Nat} {d : DO} {T : Tm} {h : H} {r : Value × H} (e : evE c b m d T h = some r) : evE c' b m d T h = some r := by
  unfold evE at e ⊢
  split at e
  · cases e
  · exact e
  · exact run1_mono hc e

theorem evD_mono {c c' : CallF} (hc : CLe c c') {b m : Nat} : ∀ {ds : List DO} {T : Tm} {h : H} {r : Tm × H}, evD c b m ds T h = some r → evD c' b m ds T h = some r
  | [], _, _, _, e => e
  | d :: ds, T, h, r, e => by
    simp only [evD] at e ⊢
    cases ho : evE c b m d T h with
    | none => simp [ho] at e
    | some x =>
      rw [evE_mono hc ho]; simp only [ho, Option.bind_some] at e ⊢
      split at e
      · rename_i hk; rw [if_pos hk]; exact evD_mono hc e
      · cases e

theorem iter_mono {f f' : Tm → H → Option (Ex × Tm × H)} (hf : ∀ T h r, f T h = some r → f' T h = some r) : ∀ {n m : Nat}, n ≤ m → ∀ {T : Tm} {h : H} {r : Ex × Tm × H}, iter f n T h = some r → iter f' m T h = some r
  | 0, _, _, _, _, _, e => by cases e
  | n + 1, 0, hm, _, _, _, _ => by omega
  | n + 1, m + 1, hm, T, h, r, e => by
    simp only [iter] at e ⊢
    cases ho : f T h with
    | none => simp [ho] at e
    | some x =>
      rw [hf _ _ _ ho]; simp only [ho, Option.bind_some] at e ⊢
      split at e
      · exact iter_mono hf (by omega) e
      · exact e

theorem jumps_mono {f f' : Tm → H → Option (Ex × Tm × H)} {l : Nat} (hf : ∀ T h r, f T h = some r → f' T h = some r) : ∀ {n m : Nat}, n ≤ m → ∀ {T : Tm} {h : H} {r : Ex × Tm × H}, jumps f l n T h = some r → jumps f' l m T h = some r
  | 0, _, _, _, _, _, e => by cases e
  | n + 1, 0, hm, _, _, _, _ => by omega
  | n + 1, m + 1, hm, T, h, r, e => by
    simp only [jumps] at e ⊢
    cases ho : f T h with
    | none => simp [ho] at e
    | some x =>
      obtain ⟨ex, T1, h1⟩ := x
      rw [hf _ _ _ ho]; simp only [ho, Option.bind_some] at e ⊢
      cases ex with
      | goto l' =>
        simp only at e ⊢
        split at e
        · rename_i hl; rw [if_pos hl]; exact jumps_mono hf (by omega) e
        · cases e
      | normal => exact e
      | exit i => exact e
      | ret => exact e

theorem evC_mono {c c' : CallF} (hc : CLe c c') {n m : Nat} (hm : n ≤ m) : ∀ {k : C} {T : Tm} {h : H} {r : Ex × Tm × H}, evC c n k T h = some r → evC c' m k T h = some r := by
  intro k
  induction k with
  | skip => intro T h r e; exact e
  | reg ops =>
    intro T h r e
    simp only [evC] at e ⊢
    cases ho : evOs c ops T h with
    | none => simp [ho] at e
    | some x => rw [evOs_mono hc ho]; rw [ho] at e; exact e
  | regD m' ops =>
    intro T h r e
    simp only [evC] at e ⊢
    cases ho : evD c h.next m' ops T { h with next := h.next + m' } with
    | none => simp [ho] at e
    | some x => rw [evD_mono hc ho]; rw [ho] at e; exact e
  | seq a b iha ihb =>
    intro T h r e
    simp only [evC] at e ⊢
    cases ho : evC c n a T h with
    | none => simp [ho] at e
    | some x =>
      rw [iha ho]; simp only [ho, Option.bind_some] at e ⊢
      split at e
      · exact ihb e
      · exact e
  | cond x a b iha ihb =>
    intro T h r e
    simp only [evC] at e ⊢
    split at e
    · exact iha e
    · exact ihb e
    · cases e
  | block id k ih =>
    intro T h r e
    simp only [evC] at e ⊢
    cases ho : evC c n k T h with
    | none => simp [ho] at e
    | some x => rw [ih ho]; rw [ho] at e; exact e
  | loop k ih =>
    intro T h r e
    simp only [evC] at e ⊢
    exact iter_mono (fun _ _ _ => ih) hm e
  | exit id => intro T h r e; exact e
  | ret => intro T h r e; exact e
  | label l => intro T h r e; exact e
  | goto l => intro T h r e; exact e
  | scope l a b iha ihb =>
    intro T h r e
    simp only [evC] at e ⊢
    cases ho : evC c n a T h with
    | none => simp [ho] at e
    | some x =>
      obtain ⟨ex, T1, h1⟩ := x
      rw [iha ho]; simp only [ho, Option.bind_some] at e ⊢
      cases ex with
      | goto l' =>
        simp only at e ⊢
        split at e
        · rename_i hl; rw [if_pos hl]; exact jumps_mono (fun _ _ _ => ihb) hm e
        · cases e
      | normal => exact e
      | exit i => exact e
      | ret => exact e

theorem evFn_succ (E : Env) : ∀ n, CLe (evFn E n) (evFn E (n + 1))
  | 0 => fun _ _ _ _ e => by cases e
  | n + 1 => fun f xs h r e => by
    rw [evFn] at e ⊢
    split at e
    · exact e
    · cases hf : E.fns f with
      | none => simp [hf] at e
      | some fn =>
        simp only [hf, Option.bind_some] at e ⊢
        cases hc : evC (evFn E n) n fn.code (Tm.of xs 0 .nil) h with
        | none => simp [hc] at e
        | some x => rw [evC_mono (evFn_succ E n) (Nat.le_succ n) hc]; rw [hc] at e; exact e

theorem evFn_mono (E : Env) {n m : Nat} (hm : n ≤ m) : CLe (evFn E n) (evFn E m) := by
  induction hm with
  | refl => exact fun _ _ _ _ e => e
  | step _ ih => exact fun f xs h r e => evFn_succ E _ f xs h r (ih f xs h r e)

/-- A call answers, and its answer meets Q. -/
def AF (E : Env) (f : FuncId) (xs : List Value) (h : H) (Q : Value → H → Prop) : Prop := ∃ n v h', evFn E n f xs h = some (v, h') ∧ Q v h'

theorem AF.mono {E : Env} {f : FuncId} {xs : List Value} {h : H} {Q Q' : Value → H → Prop} (a : AF E f xs h Q) (k : ∀ v h', Q v h' → Q' v h') : AF E f xs h Q' := by
  obtain ⟨n, v, h', e, q⟩ := a
  exact ⟨n, v, h', e, k _ _ q⟩

/-- An operation. -/
def wK (E : Env) (ρ : Operand → Value) (h : H) : K → (Value → H → Prop) → Prop
  | .op i, Q => ∃ v h', evI ρ h i = some (v, h') ∧ Q v h'
  | .call f xs, Q => AF E f (xs.map ρ) h Q
  | .callv x xs, Q => ∃ f a b, ρ x = .func (.func f) a b ∧ AF E f (a.toList ++ xs.map ρ ++ b.toList) h Q
  | .inv x em tab xs, Q => ∃ t v f m, unw em (ρ x) = .iface t v ∧ findT tab t = some (f, m) ∧ match m with
    | none => AF E f (v :: xs.map ρ) h Q
    | some n => ∃ i o, adr v = some (i, o) ∧ match n with
      | none => ∃ u, h.ld i o = some u ∧ AF E f (u :: xs.map ρ) h Q
      | some n => ∃ us, h.lds i o n = some us ∧ AF E f (.agg us.toArray :: xs.map ρ) h Q

theorem wK_ok {E : Env} {ρ : Operand → Value} {h : H} {k : K} {Q : Value → H → Prop} (w : wK E ρ h k Q) : ∃ n v h', evK (evFn E n) ρ h k = some (v, h') ∧ Q v h' := by
  cases k with
  | op i => obtain ⟨v, h', e, q⟩ := w; exact ⟨0, v, h', e, q⟩
  | call f xs => exact w
  | callv x xs =>
    obtain ⟨f, a, b, hx, n, v, h', e, q⟩ := w
    exact ⟨n, v, h', by simp only [evK, hx]; exact e, q⟩
  | inv x em tab xs =>
    obtain ⟨t, v, f, m, hx, hf, w⟩ := w
    cases m with
    | none =>
      obtain ⟨n, u, h', e, q⟩ := w
      exact ⟨n, u, h', by simp only [evK, hx, hf, Option.bind_some]; exact e, q⟩
    | some m =>
      obtain ⟨i, o, ha, w⟩ := w
      cases m with
      | none =>
        obtain ⟨u, hu, n, v', h', e, q⟩ := w
        exact ⟨n, v', h', by simp only [evK, hx, hf, ha, hu, Option.bind_some]; exact e, q⟩
      | some m =>
        obtain ⟨u, hu, n, v', h', e, q⟩ := w
        exact ⟨n, v', h', by simp only [evK, hx, hf, ha, hu, Option.bind_some]; exact e, q⟩

/-- A row of operations, one behind the other. -/
def wOs (E : Env) : List O → Tm → H → (Tm → H → Prop) → Prop
  | [], T, h, Q => Q T h
  | o :: os, T, h, Q => ∃ b, dec T o.g = some b ∧ (b = false → wOs E os (T.set o.dst undef) h Q) ∧ (b = true → wK E (rho T) h o.k fun v h' => wOs E os (T.set o.dst v) h' Q)

theorem wOs_ok {E : Env} : ∀ {os : List O} {T : Tm} {h : H} {Q : Tm → H → Prop}, wOs E os T h Q → ∃ n T' h', evOs (evFn E n) os T h = some (T', h') ∧ Q T' h'
  | [], T, h, Q, w => ⟨0, T, h, rfl, w⟩
  | o :: os, T, h, Q, w => by
    obtain ⟨b, hd, w0, w1⟩ := w
    cases b with
    | false =>
      obtain ⟨n, T', h', e, q⟩ := wOs_ok (w0 rfl)
      exact ⟨n, T', h', by simp only [evOs, evO, hd, Option.bind_some]; exact e, q⟩
    | true =>
      obtain ⟨n, v, h1, e1, w2⟩ := wK_ok (w1 rfl)
      obtain ⟨m, T', h', e, q⟩ := wOs_ok w2
      refine ⟨max n m, T', h', ?_, q⟩
      simp only [evOs, evO, hd]
      rw [evK_mono (evFn_mono E (Nat.le_max_left n m)) e1]
      exact evOs_mono (evFn_mono E (Nat.le_max_right n m)) e

/-- A row whose order is drawn. -/
def wD (E : Env) (base m : Nat) : List DO → Tm → H → (Tm → H → Prop) → Prop
  | [], T, h, Q => Q T h
  | d :: ds, T, h, Q => ∃ b, dec T d.o.g = some b ∧
    (b = false → d.chks.all (chk (T.set d.o.dst undef) h) = true ∧ wD E base m ds (T.set d.o.dst undef) h Q) ∧
    (b = true → match d.q with
      | some q => wK E (rho T) { h with next := base + q } d.o.k fun v h' => d.chks.all (chk (T.set d.o.dst v) { h' with next := h.next }) = true ∧ wD E base m ds (T.set d.o.dst v) { h' with next := h.next } Q
      | none => (∀ n a, d.o.k.load = some (n, a) → kept base m (rho T a) = false) ∧ wK E (rho T) h d.o.k fun v h' => d.chks.all (chk (T.set d.o.dst v) h') = true ∧ wD E base m ds (T.set d.o.dst v) h' Q)

theorem wD_ok {E : Env} {base m : Nat} : ∀ {os : List DO} {T : Tm} {h : H} {Q : Tm → H → Prop}, wD E base m os T h Q → ∃ n T' h', evD (evFn E n) base m os T h = some (T', h') ∧ Q T' h'
  | [], T, h, Q, w => ⟨0, T, h, rfl, w⟩
  | d :: ds, T, h, Q, w => by
    obtain ⟨b, hd, w0, w1⟩ := w
    cases b with
    | false =>
      obtain ⟨hk, w2⟩ := w0 rfl
      obtain ⟨n, T', h', e, q⟩ := wD_ok w2
      exact ⟨n, T', h', by simp only [evD, evE, hd, Option.bind_some, hk, if_true]; exact e, q⟩
    | true =>
      have w1 := w1 rfl
      cases hq : d.q with
      | some q =>
        simp only [hq] at w1
        obtain ⟨n, v, h1, e1, hk, w2⟩ := wK_ok w1
        obtain ⟨m', T', h', e, qq⟩ := wD_ok w2
        refine ⟨max n m', T', h', ?_, qq⟩
        simp only [evD, evE, hd, run1, hq]
        rw [evK_mono (evFn_mono E (Nat.le_max_left n m')) e1]
        simp only [Option.map_some, Option.bind_some, hk, if_true]
        exact evD_mono (evFn_mono E (Nat.le_max_right n m')) e
      | none =>
        simp only [hq] at w1
        obtain ⟨hl, w1⟩ := w1
        obtain ⟨n, v, h1, e1, hk, w2⟩ := wK_ok w1
        obtain ⟨m', T', h', e, qq⟩ := wD_ok w2
        refine ⟨max n m', T', h', ?_, qq⟩
        simp only [evD, evE, hd, run1, hq]
        have e2 := evK_mono (evFn_mono E (Nat.le_max_left n m')) e1
        have e3 := evD_mono (evFn_mono E (Nat.le_max_right n m')) e
        cases hld : d.o.k.load with
        | none => simp only [e2, Option.bind_some, hk, if_true]; exact e3
        | some na =>
          obtain ⟨a0, a1⟩ := na
          simp only [hl a0 a1 hld, Bool.false_eq_true, if_false, e2, Option.bind_some, hk, if_true]; exact e3

/-- What follows a part that ended so. -/
def thenQ (n : Tm → H → Prop) (Q : Ex → Tm → H → Prop) : Ex → Tm → H → Prop
  | .normal, T, h => n T h
  | .exit i, T, h => Q (.exit i) T h
  | .ret, T, h => Q .ret T h
  | .goto l, T, h => Q (.goto l) T h
def outQ (id : Nat) (Q : Ex → Tm → H → Prop) : Ex → Tm → H → Prop
  | .normal, T, h => Q .normal T h
  | .exit i, T, h => if i = id then Q .normal T h else Q (.exit i) T h
  | .ret, T, h => Q .ret T h
  | .goto l, T, h => Q (.goto l) T h
/-- What a part of a scope must meet: a jump to the label meets J, others do not happen. -/
def jumpQ (l : Nat) (J : Tm → H → Prop) (Q : Ex → Tm → H → Prop) : Ex → Tm → H → Prop
  | .normal, T, h => Q .normal T h
  | .exit i, T, h => Q (.exit i) T h
  | .ret, T, h => Q .ret T h
  | .goto l', T, h => l' = l ∧ J T h

/-- A loop comes to an end. -/
def AL (E : Env) (c : C) (T : Tm) (h : H) (Q : Ex → Tm → H → Prop) : Prop := ∃ n e T' h', evC (evFn E n) n (.loop c) T h = some (e, T', h') ∧ Q e T' h'

/-- What stands behind a label comes to an end. -/
def AJ (E : Env) (l : Nat) (b : C) (T : Tm) (h : H) (Q : Ex → Tm → H → Prop) : Prop := ∃ n e T' h', jumps (evC (evFn E n) n b) l n T h = some (e, T', h') ∧ (∀ l', e ≠ .goto l') ∧ Q e T' h'

def wC (E : Env) : C → Tm → H → (Ex → Tm → H → Prop) → Prop
  | .skip, T, h, Q => Q .normal T h
  | .reg ops, T, h, Q => wOs E ops T h (Q .normal)
  | .regD m ops, T, h, Q => wD E h.next m ops T { h with next := h.next + m } (Q .normal)
  | .seq a b, T, h, Q => wC E a T h (thenQ (fun T h => wC E b T h Q) Q)
  | .cond c a b, T, h, Q => ∃ t, rho T c = .bool t ∧ (t = true → wC E a T h Q) ∧ (t = false → wC E b T h Q)
  | .block id c, T, h, Q => wC E c T h (outQ id Q)
  | .loop c, T, h, Q => AL E c T h Q
  | .exit id, T, h, Q => Q (.exit id) T h
  | .ret, T, h, Q => Q .ret T h
  | .label _, T, h, Q => Q .normal T h
  | .goto l, T, h, Q => Q (.goto l) T h
  | .scope l a b, T, h, Q => wC E a T h (jumpQ l (fun T h => AJ E l b T h Q) Q)

theorem wC_ok {E : Env} : ∀ {c : C} {T : Tm} {h : H} {Q : Ex → Tm → H → Prop}, wC E c T h Q → ∃ n e T' h', evC (evFn E n) n c T h = some (e, T', h') ∧ Q e T' h' := by
  intro c
  induction c with
  | skip => intro T h Q w; exact ⟨0, _, _, _, rfl, w⟩
  | reg ops =>
    intro T h Q w
    obtain ⟨n, T', h', e, q⟩ := wOs_ok w
    exact ⟨n, _, _, _, by simp only [evC, e, Option.map_some], q⟩
  | regD m ops =>
    intro T h Q w
    obtain ⟨n, T', h', e, q⟩ := wD_ok w
    exact ⟨n, _, _, _, by simp only [evC, e, Option.map_some], q⟩
  | seq a b iha ihb =>
    intro T h Q w
    obtain ⟨n, e, T1, h1, e1, q⟩ := iha w
    cases e with
    | normal =>
      obtain ⟨m, e2, T2, h2, e2', q2⟩ := ihb (show wC E b T1 h1 Q from q)
      refine ⟨max n m, e2, T2, h2, ?_, q2⟩
      simp only [evC]
      rw [evC_mono (evFn_mono E (Nat.le_max_left n m)) (Nat.le_max_left n m) e1]
      exact evC_mono (evFn_mono E (Nat.le_max_right n m)) (Nat.le_max_right n m) e2'
    | exit i => exact ⟨n, _, T1, h1, by simp only [evC, e1, Option.bind_some], q⟩
    | ret => exact ⟨n, _, T1, h1, by simp only [evC, e1, Option.bind_some], q⟩
    | goto l => exact ⟨n, _, T1, h1, by simp only [evC, e1, Option.bind_some], q⟩
  | cond x a b iha ihb =>
    intro T h Q w
    obtain ⟨t, hx, w1, w0⟩ := w
    cases t with
    | true => obtain ⟨n, e, T', h', ev, q⟩ := iha (w1 rfl); exact ⟨n, e, T', h', by simp only [evC, hx]; exact ev, q⟩
    | false => obtain ⟨n, e, T', h', ev, q⟩ := ihb (w0 rfl); exact ⟨n, e, T', h', by simp only [evC, hx]; exact ev, q⟩
  | block id c ih =>
    intro T h Q w
    obtain ⟨n, e, T', h', ev, q⟩ := ih w
    cases e with
    | normal => exact ⟨n, _, T', h', by simp only [evC, ev, Option.map_some], q⟩
    | ret => exact ⟨n, _, T', h', by simp only [evC, ev, Option.map_some], q⟩
    | goto l => exact ⟨n, _, T', h', by simp only [evC, ev, Option.map_some], q⟩
    | exit i =>
      simp only [outQ] at q
      by_cases hi : i = id
      · rw [if_pos hi] at q; exact ⟨n, .normal, T', h', by simp only [evC, ev, Option.map_some, if_pos hi], q⟩
      · rw [if_neg hi] at q; exact ⟨n, .exit i, T', h', by simp only [evC, ev, Option.map_some, if_neg hi], q⟩
  | loop c ih => intro T h Q w; exact w
  | exit id => intro T h Q w; exact ⟨0, _, _, _, rfl, w⟩
  | ret => intro T h Q w; exact ⟨0, _, _, _, rfl, w⟩
  | label l => intro T h Q w; exact ⟨0, _, _, _, rfl, w⟩
  | goto l => intro T h Q w; exact ⟨0, _, _, _, rfl, w⟩
  | scope l a b iha ihb =>
    intro T h Q w
    obtain ⟨n, e, T1, h1, e1, q⟩ := iha w
    cases e with
    | normal => exact ⟨n, _, T1, h1, by simp only [evC, e1, Option.bind_some], q⟩
    | exit i => exact ⟨n, _, T1, h1, by simp only [evC, e1, Option.bind_some], q⟩
    | ret => exact ⟨n, _, T1, h1, by simp only [evC, e1, Option.bind_some], q⟩
    | goto l' =>
      obtain ⟨rfl, m, e2, T2, h2, e2', _, q2⟩ := q
      refine ⟨max n m, e2, T2, h2, ?_, q2⟩
      simp only [evC]
      rw [evC_mono (evFn_mono E (Nat.le_max_left n m)) (Nat.le_max_left n m) e1]
      simp only [Option.bind_some, if_true]
      exact jumps_mono (fun _ _ _ e => evC_mono (evFn_mono E (Nat.le_max_right n m)) (Nat.le_max_right n m) e) (Nat.le_max_right n m) e2'

theorem wK_mono {E : Env} {ρ : Operand → Value} {h : H} {k : K} {Q Q' : Value → H → Prop} (w : wK E ρ h k Q) (hq : ∀ v h', Q v h' → Q' v h') : wK E ρ h k Q' := by
  cases k with
  | op i => obtain ⟨v, h', e, q⟩ := w; exact ⟨v, h', e, hq _ _ q⟩
  | call f xs => exact AF.mono w hq
  | callv x xs => obtain ⟨f, a, b, hx, w⟩ := w; exact ⟨f, a, b, hx, AF.mono w hq⟩
  | inv x em tab xs =>
    obtain ⟨t, v, f, m, hx, hf, w⟩ := w
    refine ⟨t, v, f, m, hx, hf, ?_⟩
    cases m with
    | none => exact AF.mono w hq
    | some m =>
      obtain ⟨i, o, ha, w⟩ := w
      refine ⟨i, o, ha, ?_⟩
      cases m with
      | none => obtain ⟨u, hu, w⟩ := w; exact ⟨u, hu, AF.mono w hq⟩
      | some m => obtain ⟨u, hu, w⟩ := w; exact ⟨u, hu, AF.mono w hq⟩

theorem wOs_mono {E : Env} : ∀ {os : List O} {T : Tm} {h : H} {Q Q' : Tm → H → Prop}, wOs E os T h Q → (∀ T h, Q T h → Q' T h) → wOs E os T h Q'
  | [], _, _, _, _, w, hq => hq _ _ w
  | o :: os, T, h, Q, Q', w, hq => by
    obtain ⟨b, hd, w0, w1⟩ := w
    exact ⟨b, hd, fun e => wOs_mono (w0 e) hq, fun e => wK_mono (w1 e) fun v h' q => wOs_mono q hq⟩

theorem wD_mono {E : Env} {base m : Nat} : ∀ {os : List DO} {T : Tm} {h : H} {Q Q' : Tm → H → Prop}, wD E base m os T h Q → (∀ T h, Q T h → Q' T h) → wD E base m os T h Q'
  | [], _, _, _, _, w, hq => hq _ _ w
  | d :: ds, T, h, Q, Q', w, hq => by
    obtain ⟨b, hd, w0, w1⟩ := w
    refine ⟨b, hd, fun e => ⟨(w0 e).1, wD_mono (w0 e).2 hq⟩, fun e => ?_⟩
    have w1 := w1 e
    cases hdq : d.q with
    | some q => simp only [hdq] at w1 ⊢; exact wK_mono w1 fun v h' q => ⟨q.1, wD_mono q.2 hq⟩
    | none => simp only [hdq] at w1 ⊢; exact ⟨w1.1, wK_mono w1.2 fun v h' q => ⟨q.1, wD_mono q.2 hq⟩⟩

theorem thenQ_mono {n n' : Tm → H → Prop} {Q Q' : Ex → Tm → H → Prop} (hn : ∀ T h, n T h → n' T h) (hq : ∀ e T h, Q e T h → Q' e T h) : ∀ e T h, thenQ n Q e T h → thenQ n' Q' e T h := by
  intro e T h; cases e <;> simp only [thenQ]
  · exact hn T h
  · exact hq _ T h
  · exact hq _ T h
  · exact hq _ T h
theorem outQ_mono {id : Nat} {Q Q' : Ex → Tm → H → Prop} (hq : ∀ e T h, Q e T h → Q' e T h) : ∀ e T h, outQ id Q e T h → outQ id Q' e T h := by
  intro e T h; cases e <;> simp only [outQ]
  · exact hq _ T h
  · split
    · exact hq _ T h
    · exact hq _ T h
  · exact hq _ T h
  · exact hq _ T h
theorem jumpQ_mono {l : Nat} {J J' : Tm → H → Prop} {Q Q' : Ex → Tm → H → Prop} (hj : ∀ T h, J T h → J' T h) (hq : ∀ e T h, Q e T h → Q' e T h) : ∀ e T h, jumpQ l J Q e T h → jumpQ l J' Q' e T h := by
  intro e T h; cases e <;> simp only [jumpQ]
  · exact hq _ T h
  · exact hq _ T h
  · exact hq _ T h
  · exact fun ⟨a, b⟩ => ⟨a, hj T h b⟩

theorem wC_mono {E : Env} : ∀ {c : C} {T : Tm} {h : H} {Q Q' : Ex → Tm → H → Prop}, wC E c T h Q → (∀ e T h, Q e T h → Q' e T h) → wC E c T h Q' := by
  intro c
  induction c with
  | skip => intro T h Q Q' w hq; exact hq _ _ _ w
  | reg ops => intro T h Q Q' w hq; exact wOs_mono w (hq .normal)
  | regD m ops => intro T h Q Q' w hq; exact wD_mono w (hq .normal)
  | seq a b iha ihb => intro T h Q Q' w hq; exact iha w (thenQ_mono (fun T h w => ihb w hq) hq)
  | cond x a b iha ihb => intro T h Q Q' w hq; obtain ⟨t, hx, w1, w0⟩ := w; exact ⟨t, hx, fun e => iha (w1 e) hq, fun e => ihb (w0 e) hq⟩
  | block id c ih => intro T h Q Q' w hq; exact ih w (outQ_mono hq)
  | loop c ih => intro T h Q Q' w hq; obtain ⟨n, e, T', h', ev, q⟩ := w; exact ⟨n, e, T', h', ev, hq _ _ _ q⟩
  | exit id => intro T h Q Q' w hq; exact hq _ _ _ w
  | ret => intro T h Q Q' w hq; exact hq _ _ _ w
  | label l => intro T h Q Q' w hq; exact hq _ _ _ w
  | goto l => intro T h Q Q' w hq; exact hq _ _ _ w
  | scope l a b iha ihb => intro T h Q Q' w hq; exact iha w (jumpQ_mono (fun T h ⟨n, e, T', h', ev, hn, q⟩ => ⟨n, e, T', h', ev, hn, hq _ _ _ q⟩) hq)

/-- What a loop's body must meet: again, with a smaller measure, or out. -/
def stepQ (Inv : Nat → Tm → H → Prop) (k : Nat) (Q : Ex → Tm → H → Prop) : Ex → Tm → H → Prop
  | .normal, T, h => ∃ k', k' < k ∧ Inv k' T h
  | .exit i, T, h => Q (.exit i) T h
  | .ret, T, h => Q .ret T h
  | .goto l, T, h => Q (.goto l) T h

theorem AL.rule {E : Env} {c : C} {Q : Ex → Tm → H → Prop} (Inv : Nat → Tm → H → Prop) (step : ∀ k T h, Inv k T h → wC E c T h (stepQ Inv k Q)) :
    ∀ (k : Nat) {T : Tm} {h : H}, Inv k T h → AL E c T h Q := by
  intro k
  induction k using Nat.strongRecOn with
  | _ k ih =>
    intro T h hi
    obtain ⟨n, e, T1, h1, e1, q⟩ := wC_ok (step k T h hi)
    cases e with
    | normal =>
      obtain ⟨k', hk, hi'⟩ := q
      obtain ⟨m, e2, T2, h2, e2', q2⟩ := ih k' hk hi'
      refine ⟨max n m + 1, e2, T2, h2, ?_, q2⟩
      simp only [evC, iter]
      have hle : n ≤ max n m + 1 := by omega
      rw [evC_mono (evFn_mono E hle) hle e1]
      simp only [Option.bind_some]
      simp only [evC] at e2'
      have hle' : m ≤ max n m + 1 := by omega
      exact iter_mono (fun _ _ _ e => evC_mono (evFn_mono E hle') hle' e) (by omega) e2'
    | exit i => exact ⟨n + 1, _, T1, h1, by simp only [evC, iter]; rw [evC_mono (evFn_mono E (Nat.le_succ n)) (Nat.le_succ n) e1]; rfl, q⟩
    | ret => exact ⟨n + 1, _, T1, h1, by simp only [evC, iter]; rw [evC_mono (evFn_mono E (Nat.le_succ n)) (Nat.le_succ n) e1]; rfl, q⟩
    | goto l => exact ⟨n + 1, _, T1, h1, by simp only [evC, iter]; rw [evC_mono (evFn_mono E (Nat.le_succ n)) (Nat.le_succ n) e1]; rfl, q⟩

/-- Behind a label: by an invariant at each jump, and a measure. -/
theorem AJ.rule {E : Env} {l : Nat} {c : C} {Q : Ex → Tm → H → Prop} (Inv : Nat → Tm → H → Prop) (step : ∀ k T h, Inv k T h → wC E c T h (jumpQ l (fun T h => ∃ k', k' < k ∧ Inv k' T h) Q)) :
    ∀ (k : Nat) {T : Tm} {h : H}, Inv k T h → AJ E l c T h Q := by
  intro k
  induction k using Nat.strongRecOn with
  | _ k ih =>
    intro T h hi
    obtain ⟨n, e, T1, h1, e1, q⟩ := wC_ok (step k T h hi)
    have fin : (∀ l', e ≠ .goto l') → Q e T1 h1 → AJ E l c T h Q := by
      intro hne q
      refine ⟨n + 1, e, T1, h1, ?_, hne, q⟩
      simp only [jumps]
      rw [evC_mono (evFn_mono E (Nat.le_succ n)) (Nat.le_succ n) e1]
      cases e with
      | goto l' => exact absurd rfl (hne l')
      | normal => rfl
      | exit i => rfl
      | ret => rfl
    cases e with
    | goto l' =>
      obtain ⟨rfl, k', hk, hi'⟩ := q
      obtain ⟨m, e2, T2, h2, e2', hne, q2⟩ := ih k' hk hi'
      refine ⟨max n m + 1, e2, T2, h2, ?_, hne, q2⟩
      simp only [jumps]
      have hle : n ≤ max n m + 1 := by omega
      rw [evC_mono (evFn_mono E hle) hle e1]
      simp only [Option.bind_some, if_true]
      have hle' : m ≤ max n m + 1 := by omega
      exact jumps_mono (fun _ _ _ e => evC_mono (evFn_mono E hle') hle' e) (by omega) e2'
    | normal => exact fin (fun _ h => by cases h) q
    | exit i => exact fin (fun _ h => by cases h) q
    | ret => exact fin (fun _ h => by cases h) q

/-- What the end of a function's code must meet. -/
def resQ (res : List Rs) (Q : Value → H → Prop) : Ex → Tm → H → Prop
  | .normal, T, h => ∃ vs, evRs T h res = some vs ∧ Q (one vs) h
  | .exit _, _, _ => False
  | .goto _, _, _ => False
  | .ret, T, h => ∃ vs, evRs T h res = some vs ∧ Q (one vs) h

theorem AF.of_code {E : Env} {f : FuncId} {fn : Fn'} (hf : E.fns f = some fn) {xs : List Value} {h : H} {Q : Value → H → Prop} (hs : E.spec f xs h = none)
    (w : wC E fn.code (Tm.of xs 0 .nil) h (resQ fn.res Q)) : AF E f xs h Q := by
  obtain ⟨n, e, T, h', ev, q⟩ := wC_ok w
  cases e with
  | exit i => exact q.elim
  | goto l => exact q.elim
  | normal =>
    obtain ⟨vs, hr, q⟩ := q
    exact ⟨n + 1, _, _, by simp only [evFn, hs, hf, ev, Option.bind_some, hr, Option.map_some], q⟩
  | ret =>
    obtain ⟨vs, hr, q⟩ := q
    exact ⟨n + 1, _, _, by simp only [evFn, hs, hf, ev, Option.bind_some, hr, Option.map_some], q⟩

theorem AF.of_spec {E : Env} {f : FuncId} {xs : List Value} {h : H} {Q : Value → H → Prop} {v : Value} {h' : H} (hs : E.spec f xs h = some (v, h')) (q : Q v h') : AF E f xs h Q :=
  ⟨1, v, h', by simp only [evFn, hs], q⟩
end Go.Ae
