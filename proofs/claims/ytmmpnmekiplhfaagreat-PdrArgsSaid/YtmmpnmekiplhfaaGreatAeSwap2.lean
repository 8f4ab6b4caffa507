/-
  Operations of a region that may stand in either order: one of them is taken to the front.
-/
import Derived.Test.YtmmpnmekiplhfaaGreatAeSwap
namespace Go.Ae
open Go

theorem tmpOf_some {x : Operand} {t : Nat} (h : tmpOf x = some t) : x = .tmp t := by
  cases x <;> simp [tmpOf] at h; rw [h]

theorem rho_congr {T T' : Tm} {x : Operand} (h : ∀ t, x = .tmp t → g T t = g T' t) : rho T x = rho T' x := by
  cases x with
  | tmp t => exact h t rfl
  | const v => rfl
  | global gl => rfl
  | func f => rfl

theorem names_opd {o : O} {x : Operand} {t : Nat} (hx : x ∈ o.k.opds) (ht : x = .tmp t) : t ∈ o.names := by
  unfold O.names
  refine List.mem_append_left _ (List.mem_filterMap.2 ⟨x, hx, ?_⟩)
  subst ht; rfl

theorem dec_congr {T T' : Tm} {gd : Option (Nat × Bool)} (h : ∀ d w, gd = some (d, w) → g T d = g T' d) : dec T gd = dec T' gd := by
  cases gd with
  | none => rfl
  | some p => obtain ⟨d, w⟩ := p; simp only [dec, h d w rfl]

theorem load_opds {k : K} {n : Option Nat} {a : Operand} (h : k.load = some (n, a)) : k = .op (.ld n a) := by
  cases k with
  | op i => cases i <;> simp [K.load] at h; obtain ⟨rfl, rfl⟩ := h; rfl
  | _ => simp [K.load] at h

variable {call : CallF} {base m n0 : Nat}

theorem run1_congr {d : DO} {ρ ρ' : Operand → Value} {h : H} (hρ : ∀ x ∈ d.o.k.opds, ρ x = ρ' x) : run1 call base m d ρ h = run1 call base m d ρ' h := by
  unfold run1
  cases d.q with
  | some q => simp only [evK_congr hρ]
  | none =>
    simp only
    cases hl : d.o.k.load with
    | none => simp only [evK_congr hρ]
    | some na =>
      obtain ⟨n, a⟩ := na
      have hk := load_opds hl
      have ha : ρ a = ρ' a := hρ a (by rw [hk]; simp [K.opds, I.opds])
      simp only [evK_congr hρ, ha]

theorem evE_congr {d : DO} {T T' : Tm} {h : H} (hT : ∀ t ∈ d.o.names, g T t = g T' t) : evE call base m d T h = evE call base m d T' h := by
  unfold evE
  rw [dec_congr (T' := T') (fun e w hg => hT e (by unfold O.names; rw [hg]; simp))]
  cases dec T' d.o.g with
  | none => rfl
  | some b =>
    cases b with
    | false => rfl
    | true => exact run1_congr fun x hx => rho_congr fun t ht => hT t (names_opd hx ht)

theorem chk_congr {T T' : Tm} {h : H} {c : Option Nat × Operand × Nat × Option (Nat × Bool)} (hT : ∀ t ∈ cTmps c, g T t = g T' t) : chk T h c = chk T' h c := by
  obtain ⟨n, a, d, gd⟩ := c
  unfold chk
  simp only
  rw [dec_congr (T' := T') (fun e w hg => hT e (by unfold cTmps; simp [hg]))]
  cases dec T' gd with
  | none => rfl
  | some b =>
    cases b with
    | false => rfl
    | true =>
      have h1 : rho T a = rho T' a := rho_congr fun t ht => hT t (by unfold cTmps; simp [ht, tmpOf])
      have h2 : g T d = g T' d := hT d (by unfold cTmps; simp)
      simp only [h1, h2]

/-- Of a quiet operation: what it yields hangs on the temporaries alone. -/
theorem evE_quiet {d : DO} (hq : d.o.k.quiet = true) (hs : d.q = none) (T : Tm) : ∃ r : Option Value, ∀ h, evE call base m d T h = r.map fun v => (v, h) := by
  have hl : d.o.k.load = none := by
    cases hk : d.o.k with
    | op i => cases i <;> simp [K.load] <;> simp [hk, K.quiet] at hq
    | _ => rfl
  unfold evE
  cases dec T d.o.g with
  | none => exact ⟨none, fun h => rfl⟩
  | some b =>
    cases b with
    | false => exact ⟨some undef, fun h => rfl⟩
    | true =>
      obtain ⟨r, hr⟩ := evK_quiet (call := call) (ρ := rho T) hq
      exact ⟨r, fun h => by simp only [run1, hs, hl, hr]⟩

/-- A heap with a block at a number that was kept for it. -/
def H.at_ (h : H) (i : Nat) (b : Blk) : H := { h with tr := h.tr.put i (some b) }

theorem evE_alloc {d : DO} {q : Nat} (hq : d.q = some q) (ha : d.o.k.alloc = true) (T : Tm) :
    ∃ r : Option (Value × Option Blk), ∀ h, evE call base m d T h = r.map fun p => (p.1, match p.2 with | some b => h.at_ (base + q) b | none => h) := by
  unfold evE
  cases dec T d.o.g with
  | none => exact ⟨none, fun h => rfl⟩
  | some b =>
    cases b with
    | false => exact ⟨some (undef, none), fun h => rfl⟩
    | true =>
      obtain ⟨r, hr⟩ := evK_alloc (call := call) (ρ := rho T) ha
      cases r with
      | none => exact ⟨none, fun h => by simp only [run1, hq, hr]; rfl⟩
      | some p =>
        refine ⟨some (p.1 (base + q), some p.2), fun h => ?_⟩
        simp only [run1, hq, hr, Option.map_some]
        rfl

theorem evE_load {d : DO} {n : Option Nat} {a : Operand} (hq : d.q = none) (hl : d.o.k.load = some (n, a)) (T : Tm) :
    (dec T d.o.g = some false ∧ ∀ h, evE call base m d T h = some (undef, h)) ∨
    (dec T d.o.g = some true ∧ ∃ p, adr (rho T a) = some p ∧ ¬ (base ≤ p.1 ∧ p.1 < base + m) ∧ ∀ h, evE call base m d T h = (ldv h n p).map fun v => (v, h)) ∨
    ∀ h, evE call base m d T h = none := by
  unfold evE
  have hk := load_opds hl
  cases hd : dec T d.o.g with
  | none => exact .inr (.inr fun h => rfl)
  | some b =>
    cases b with
    | false => exact .inl ⟨rfl, fun h => rfl⟩
    | true =>
      cases ha : adr (rho T a) with
      | none =>
        refine .inr (.inr fun h => ?_)
        simp only [run1, hq, hl, kept, ha, Bool.false_eq_true, if_false]
        simp only [hk, evK, evI, ha, Option.bind_none]
      | some p =>
        by_cases hkp : base ≤ p.1 ∧ p.1 < base + m
        · refine .inr (.inr fun h => ?_)
          simp only [run1, hq, hl, kept, ha]
          rw [if_pos (by simp [hkp])]
        · refine .inr (.inl ⟨rfl, p, rfl, hkp, fun h => ?_⟩)
          simp only [run1, hq, hl, kept, ha]
          rw [if_neg (by simpa using hkp)]
          simp only [hk, evK, evI, ha, Option.bind_some]
          cases n with
          | none => rfl
          | some n => simp [ldv, Function.comp_def]

theorem veq_eq {a b : Value} (h : veq a b = true) : a = b := by
  cases a <;> cases b <;> simp_all [veq]
  exact ByteArray.ext h
theorem veqs_eq : ∀ {a b : List Value}, veqs a b = true → a = b := by
  intro a
  induction a with
  | nil => intro b h; cases b <;> simp_all [veqs]
  | cons x xs ih =>
    intro b h
    cases b with
    | nil => simp [veqs] at h
    | cons y ys =>
      simp only [veqs, Bool.and_eq_true] at h
      rw [veq_eq h.1, ih h.2]
theorem veqa_eq {a b : Value} (h : veqa a b = true) : a = b := by
  unfold veqa at h
  split at h
  · rename_i x y
    have := veqs_eq h
    rw [Array.ext' this]
  · exact veq_eq h

theorem ldv_at {h : H} {i : Nat} {b : Blk} {n : Option Nat} {p : Nat × Nat} (hne : p.1 ≠ i) : ldv (h.at_ i b) n p = ldv h n p := by
  have hg : (h.at_ i b).get p.1 = h.get p.1 := by
    unfold H.get H.at_
    simp only [Tr.get_put]
    rw [if_neg hne]
  unfold ldv H.ld H.lds
  cases n <;> simp only [hg]

theorem at_comm {h : H} {i j : Nat} (b c : Blk) (hne : i ≠ j) : (h.at_ i b).at_ j c = (h.at_ j c).at_ i b := by
  unfold H.at_
  simp only [Tr.put_comm h.tr (some b) (some c) hne]

theorem mem_contains {l : List Nat} {d : Nat} : l.contains d = true ↔ d ∈ l := by simp

theorem apart_spec {a b : O} (h : apartO a b = true) : (∀ d, a.dst = some d → d ∉ b.names ∧ b.dst ≠ some d) ∧ (∀ d, b.dst = some d → d ∉ a.names) := by
  unfold apartO at h
  simp only [Bool.and_eq_true] at h
  refine ⟨fun d hd => ?_, fun d hd => ?_⟩
  · have := h.1
    rw [hd] at this
    simpa using this
  · have := h.2
    rw [hd] at this
    simpa using this

end Go.Ae
