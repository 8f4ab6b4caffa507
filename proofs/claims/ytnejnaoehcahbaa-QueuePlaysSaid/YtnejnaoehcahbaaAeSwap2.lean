/-
  Operations of a region that may stand in either order: one of them is taken to the front.
-/
import Derived.Test.YtnejnaoehcahbaaAeSwap
namespace Go.Ae
open Go

theorem tmpOf_some {x : Operand} {t : Nat} (h : tmpOf x = some t) : x = .tmp t := by
  cases x <;> simp [tmpOf] at h; rw [h]

theorem rho_congr {T T' : Tm} {x : Operand} (h : ∀ t, x = .tmp t → g T t = g T' t) : rho T x = rho T' x := by
  cases x with
  | tmp t => exact h t rfl
  | const v => rfl
  | global gl => rfl
  | func f => rfl

theorem names_opd {o : O} {x : Operand} {t : Nat} (hx : x ∈ o.k.opds) (ht : x = .tmp t) : t ∈ o.names := by
  unfold O.names
  refine List.mem_append_left _ (List.mem_filterMap.2 ⟨x, hx, ?_⟩)
  subst ht; rfl

theorem dec_congr {T T' : Tm} {gd : Option (Nat × Bool)} (h : ∀ d w, gd = some (d, w) → g T d = g T' d) : dec T gd = dec T' gd := by
  cases gd with
  | none => rfl
  | some p => obtain ⟨d, w⟩ := p; simp only [dec, h d w rfl]

theorem load_opds {k : K} {n : Option Nat} {a : Operand} (h : k.load = some (n, a)) : k = .op (.ld n a) := by
  cases k with
  | op i => cases i <;> simp [K.load] at h; obtain ⟨rfl, rfl⟩ := h; rfl
  | _ => simp [K.load] at h

variable {call : CallF} {base m n0 : Nat}

theorem run1_congr {d : DO} {ρ ρ' : Operand → Value} {h : H} (hρ : ∀ x ∈ d.o.k.opds, ρ x = ρ' x) : run1 call base m d ρ h = run1 call base m d ρ' h := by
  unfold run1
  cases d.q with
  | some q => simp only [evK_congr hρ]
  | none =>
    simp only
    cases hl : d.o.k.load with
    | none => simp only [evK_congr hρ]
    | some na =>
      obtain ⟨n, a⟩ := na
      have hk := load_opds hl
      have ha : ρ a = ρ' a := hρ a (by rw [hk]; simp [K.opds, I.opds])
      simp only [evK_congr hρ, ha]

theorem evE_congr {d : DO} {T T' : Tm} {h : H} (hT : ∀ t ∈ d.o.names, g T t = g T' t) : evE call base m d T h = evE call base m d T' h := by
  unfold evE
  rw [dec_congr (T' := T') (fun e w hg => hT e (by unfold O.names; rw [hg]; simp))]
  cases dec T' d.o.g with
  | none => rfl
  | some b =>
    cases b with
    | false => rfl
    | true => exact run1_congr fun x hx => rho_congr fun t ht => hT t (names_opd hx ht)

theorem chk_congr {T T' : Tm} {h : H} {c : Option Nat × Operand × Nat × Option (Nat × Bool)} (hT : ∀ t ∈ cTmps c, g T t = g T' t) : chk T h c = chk T' h c := by
  obtain ⟨n, a, d, gd⟩ := c
  unfold chk
  simp only
  rw [dec_congr (T' := T') (fun e w hg => hT e (by unfold cTmps; simp [hg]))]
  cases dec T' gd with
  | none => rfl
  | some b =>
    cases b with
    | false => rfl
    | true =>
      have h1 : rho T a = rho T' a := rho_congr fun t ht => hT t (by unfold cTmps; simp [ht, tmpOf])
      have h2 : g T d = g T' d := hT d (by unfold cTmps; simp)
      simp only [h1, h2]

/-- Of a quiet operation: what it yields hangs on the temporaries alone. -/
theorem evE_quiet {d : DO} (hq : d.o.k.quiet = true) (hs : d.q = none) (T : Tm) : ∃ r : Option Value, ∀ h, evE call base m d T h = r.map fun v => (v, h) := by
  have hl : d.o.k.load = none := by
    cases hk : d.o.k with
    | op i => cases i <;> simp [K.load] <;> simp [hk, K.quiet] at hq
    | _ => rfl
  unfold evE
  cases dec T d.o.g with
  | none => exact ⟨none, fun h => rfl⟩
  | some b =>
    cases b with
    | false => exact ⟨some undef, fun h => rfl⟩
    | true =>
      obtain ⟨r, hr⟩ := evK_quiet (call := call) (ρ := rho T) hq
      exact ⟨r, fun h => by simp only [run1, hs, hl, hr]⟩

/-- A heap with a block at a number that was kept for it. -/
def H.at_ (h : H) (i : Nat) (b : Blk) : H := { h with tr := h.tr.put i (some b) }

theorem evE_alloc {d : DO} {q : Nat} (hq : d.q = some q) (ha : d.o.k.alloc = true) (T : Tm) :
    ∃ r : Option (Value × Option Blk), ∀ h, evE call base m d T h = r.map fun p => (p.1, match p.2 with | some b => h.at_ (base + q) b | none => h) := by
  unfold evE
  cases dec T d.o.g with
  | none => exact ⟨none, fun h => rfl⟩
  | some b =>
    cases b with
    | false => exact ⟨some (undef, none), fun h => rfl⟩
    | true =>
      obtain ⟨r, hr⟩ := evK_alloc (call := call) (ρ := rho T) ha
      cases r with
      | none => exact ⟨none, fun h => by simp only [run1, hq, hr]; rfl⟩
      | some p =>
        refine ⟨some (p.1 (base + q), some p.2), fun h => ?_⟩
        simp only [run1, hq, hr, Option.map_some]
        rfl

theorem evE_load {d : DO} {n : Option Nat} {a : Operand} (hq : d.q = none) (hl : d.o.k.load = some (n, a)) (T : Tm) :
    (dec T d.o.g = some false ∧ ∀ h, evE call base m d T h = some (undef, h)) ∨
    (dec T d.o.g = some true ∧ ∃ p, adr (rho T a) = some p ∧ ¬ (base ≤ p.1 ∧ p.1 < base + m) ∧ ∀ h, evE call base m d T h = (ldv h n p).map fun v => (v, h)) ∨
    ∀ h, evE call base m d T h = none := by
  unfold evE
  have hk := load_opds hl
  cases hd : dec T d.o.g with
  | none => exact .inr (.inr fun h => rfl)
  | some b =>
    cases b with
    | false => exact .inl ⟨rfl, fun h => rfl⟩
    | true =>
      cases ha : adr (rho T a) with
      | none =>
        refine .inr (.inr fun h => ?_)
        simp only [run1, hq, hl, kept, ha, Bool.false_eq_true, if_false]
        simp only [hk, evK, evI, ha, Option.bind_none]
      | some p =>
        by_cases hkp : base ≤ p.1 ∧ p.1 < base + m
        · refine .inr (.inr fun h => ?_)
          simp only [run1, hq, hl, kept, ha]
          rw [if_pos (by simp [hkp])]
        · refine .inr (.inl ⟨rfl, p, rfl, hkp, fun h => ?_⟩)
          simp only [run1, hq, hl, kept, ha]
          rw [if_neg (by simpa using hkp)]
          simp only [hk, evK, evI, ha, Option.bind_some]
          cases n with
          | none => rfl
          | some n => simp [ldv, Function.comp_def]

theorem veq_eq {a b : Value} (h : veq a b = true) : a = b := by
  cases a <;> cases b <;> simp_all [veq]
  exact ByteArray.ext h
theorem veqs_eq : ∀ {a b : List Value}, veqs a b = true → a = b := by
  intro a
  induction a with
  | nil => intro b h; cases b <;> simp_all [veqs]
  | cons x xs ih =>
    intro b h
    cases b with
    | nil => simp [veqs] at h
    | cons y ys =>
      simp only [veqs, Bool.and_eq_true] at h
      rw [veq_eq h.1, ih h.2]
theorem veqa_eq {a b : Value} (h : veqa a b = true) : a = b := by
  unfold veqa at h
  split at h
  · rename_i x y
    have := veqs_eq h
    rw [Array.ext' this]
  · exact veq_eq h

theorem ldv_at {h : H} {i : Nat} {b : Blk} {n : Option Nat} {p : Nat × Nat} (hne : p.1 ≠ i) : ldv (h.at_ i b) n p = ldv h n p := by
  have hg : (h.at_ i b).get p.1 = h.get p.1 := by
    unfold H.get H.at_
    simp only [Tr.get_put]
    rw [if_neg hne]
  unfold ldv H.ld H.lds
  cases n <;> simp only [hg]

theorem at_comm {h : H} {i j : Nat} (b c : Blk) (hne : i ≠ j) : (h.at_ i b).at_ j c = (h.at_ j c).at_ i b := by
  unfold H.at_
  simp only [Tr.put_comm h.tr (some b) (some c) hne]

theorem mem_contains {l : List Nat} {d : Nat} : l.contains d = true ↔ d ∈ l := by simp

theorem apart_spec {a b : O} (h : apartO a b = true) : (∀ d, a.dst = some d → d ∉ b.names ∧ b.dst ≠ some d) ∧ (∀ d, b.dst = some d → d ∉ a.names) := by
  unfold apartO at h
  simp only [Bool.and_eq_true] at h
  refine ⟨fun d hd => ?_, fun d hd => ?_⟩
  · have := h.1
    rw [hd] at this
    simpa using this
  · have := h.2
    rw [hd] at this
    simpa using this

/-- Two that may change places. -/
theorem swap {a b : DO} {T : Tm} {h h1 h2 : H} {va vb : Value} (hf : free a b = true) (hsa : soleOk m n0 a = true) (hsb : soleOk m n0 b = true)
    (hq : ∀ x y, a.q = some x → b.q = some y → x ≠ y) (ea : evE call base m a T h = some (va, h1)) (eb : evE call base m b (T.set a.o.dst va) h1 = some (vb, h2))
    (hc : ∀ c ∈ b.chks, hasChk b a = true → (∀ t ∈ cTmps c, t ∈ a.o.names ∨ a.o.dst = some t) → chk (T.set a.o.dst va) h2 c = true) :
    ∃ h1', evE call base m b T h = some (vb, h1') ∧ evE call base m a (T.set b.o.dst vb) h1' = some (va, h2) ∧
      (T.set a.o.dst va).set b.o.dst vb = (T.set b.o.dst vb).set a.o.dst va := by
  unfold free at hf
  simp only [Bool.and_eq_true] at hf
  obtain ⟨hap, hkind⟩ := hf
  obtain ⟨s1, s2⟩ := apart_spec hap
  have hTb : ∀ t ∈ b.o.names, g (T.set a.o.dst va) t = g T t := fun t ht => g_set _ _ _ _ (fun e => (s1 t e).1 ht)
  have hTa : ∀ t ∈ a.o.names, g (T.set b.o.dst vb) t = g T t := fun t ht => g_set _ _ _ _ (fun e => s2 t e ht)
  rw [evE_congr hTb] at eb
  have hcomm := Tm.set_comm T va vb (fun d hd => (s1 d hd).2)
  simp only [evE_congr (h := _) hTa]
  unfold soleOk at hsa hsb
  simp only [Bool.and_eq_true] at hsa hsb
  have qa : a.o.k.alloc = false → a.q = none := by
    intro e
    cases hx : a.q with
    | none => rfl
    | some q => have := hsa.1.2; rw [hx] at this; simp [e] at this
  have qb : b.o.k.alloc = false → b.q = none := by
    intro e
    cases hx : b.q with
    | none => rfl
    | some q => have := hsb.1.2; rw [hx] at this; simp [e] at this
  have qa' : a.o.k.alloc = true → ∃ q, a.q = some q ∧ q < m := by
    intro e
    cases hx : a.q with
    | none => have := hsa.1.2; rw [hx] at this; simp [e] at this
    | some q => have := hsa.1.2; rw [hx] at this; simp [e] at this; exact ⟨q, rfl, this⟩
  have qb' : b.o.k.alloc = true → ∃ q, b.q = some q ∧ q < m := by
    intro e
    cases hx : b.q with
    | none => have := hsb.1.2; rw [hx] at this; simp [e] at this
    | some q => have := hsb.1.2; rw [hx] at this; simp [e] at this; exact ⟨q, rfl, this⟩
  have quiet_alloc : ∀ k : K, k.quiet = true → k.alloc = false := by
    intro k hk
    cases k with
    | op i => cases i <;> simp [K.quiet, K.alloc] at hk ⊢
    | _ => rfl
  have load_alloc : ∀ k : K, k.load.isSome = true → k.alloc = false := by
    intro k hk
    cases k with
    | op i => cases i <;> simp [K.load, K.alloc] at hk ⊢
    | _ => rfl
  -- a quiet
  have caseA : a.o.k.quiet = true → ∃ h1', evE call base m b T h = some (vb, h1') ∧ evE call base m a T h1' = some (va, h2) := by
    intro hqa
    obtain ⟨r, hr⟩ := evE_quiet (call := call) (base := base) (m := m) hqa (qa (quiet_alloc _ hqa)) T
    rw [hr] at ea
    cases r with
    | none => simp at ea
    | some v =>
      simp only [Option.map_some, Option.some.injEq, Prod.mk.injEq] at ea
      obtain ⟨rfl, rfl⟩ := ea
      exact ⟨h2, eb, by rw [hr]; rfl⟩
  have caseB : b.o.k.quiet = true → ∃ h1', evE call base m b T h = some (vb, h1') ∧ evE call base m a T h1' = some (va, h2) := by
    intro hqb
    obtain ⟨r, hr⟩ := evE_quiet (call := call) (base := base) (m := m) hqb (qb (quiet_alloc _ hqb)) T
    rw [hr] at eb
    cases r with
    | none => simp at eb
    | some v =>
      simp only [Option.map_some, Option.some.injEq, Prod.mk.injEq] at eb
      obtain ⟨rfl, rfl⟩ := eb
      exact ⟨h, by rw [hr]; rfl, ea⟩
  suffices hmain : ∃ h1', evE call base m b T h = some (vb, h1') ∧ evE call base m a T h1' = some (va, h2) by
    obtain ⟨h1', g1, g2⟩ := hmain
    exact ⟨h1', g1, g2, hcomm⟩
  simp only [Bool.or_eq_true, Bool.and_eq_true, mild, Bool.not_eq_true', Bool.or_eq_false_iff] at hkind
  rcases hkind with (⟨hqb, _⟩ | ⟨hlb, hma⟩) | ⟨hnb, hqa | ⟨hla, hchk⟩⟩
  · exact caseB hqb
  · -- b loads or lays a block; a is mild
    rcases hma with (hqa | haa) | hla
    · exact caseA hqa
    · -- a lays a block
      obtain ⟨x, hx, hxm⟩ := qa' haa
      obtain ⟨r, hr⟩ := evE_alloc (call := call) (base := base) (m := m) hx haa T
      rw [hr] at ea
      cases r with
      | none => simp at ea
      | some p =>
        obtain ⟨pv, pb⟩ := p
        simp only [Option.map_some, Option.some.injEq, Prod.mk.injEq] at ea
        obtain ⟨rfl, rfl⟩ := ea
        cases pb with
        | none => exact ⟨h2, eb, by rw [hr]; rfl⟩
        | some bl =>
          simp only at eb
          rcases hlb with hlb | hab
          · obtain ⟨na, hna⟩ := Option.isSome_iff_exists.1 hlb
            obtain ⟨n, ad⟩ := na
            rcases evE_load (call := call) (base := base) (m := m) (qb (load_alloc _ hlb)) hna T with ⟨_, hE⟩ | ⟨_, p, _, hnk, hE⟩ | hE
            · rw [hE] at eb
              simp only [Option.some.injEq, Prod.mk.injEq] at eb
              obtain ⟨rfl, rfl⟩ := eb
              exact ⟨h, hE h, by rw [hr]; rfl⟩
            · rw [hE, ldv_at (by omega)] at eb
              cases hl : ldv h n p with
              | none => rw [hl] at eb; simp at eb
              | some u =>
                rw [hl] at eb
                simp only [Option.map_some, Option.some.injEq, Prod.mk.injEq] at eb
                obtain ⟨rfl, rfl⟩ := eb
                exact ⟨h, by rw [hE, hl]; rfl, by rw [hr]; rfl⟩
            · rw [hE] at eb; cases eb
          · obtain ⟨y, hy, hym⟩ := qb' hab
            obtain ⟨s, hs⟩ := evE_alloc (call := call) (base := base) (m := m) hy hab T
            rw [hs] at eb
            cases s with
            | none => simp at eb
            | some p2 =>
              obtain ⟨pv2, pb2⟩ := p2
              simp only [Option.map_some, Option.some.injEq, Prod.mk.injEq] at eb
              obtain ⟨rfl, rfl⟩ := eb
              cases pb2 with
              | none => exact ⟨h, by rw [hs]; rfl, by rw [hr]; rfl⟩
              | some bl2 =>
                refine ⟨h.at_ (base + y) bl2, by rw [hs]; rfl, ?_⟩
                rw [hr]
                simp only [Option.map_some, Option.some.injEq, Prod.mk.injEq, true_and]
                have := hq x y hx hy
                exact at_comm bl2 bl (by omega)
    · -- a loads
      obtain ⟨na, hna⟩ := Option.isSome_iff_exists.1 hla
      obtain ⟨n, ad⟩ := na
      rcases evE_load (call := call) (base := base) (m := m) (qa (load_alloc _ hla)) hna T with ⟨_, hE⟩ | ⟨_, p, _, hnk, hE⟩ | hE
      · rw [hE] at ea
        simp only [Option.some.injEq, Prod.mk.injEq] at ea
        obtain ⟨rfl, rfl⟩ := ea
        exact ⟨h2, eb, hE h2⟩
      · rw [hE] at ea
        cases hl : ldv h n p with
        | none => rw [hl] at ea; simp at ea
        | some u =>
          rw [hl] at ea
          simp only [Option.map_some, Option.some.injEq, Prod.mk.injEq] at ea
          obtain ⟨rfl, rfl⟩ := ea
          rcases hlb with hlb | hab
          · obtain ⟨nb, hnb⟩ := Option.isSome_iff_exists.1 hlb
            obtain ⟨n', ad'⟩ := nb
            rcases evE_load (call := call) (base := base) (m := m) (qb (load_alloc _ hlb)) hnb T with ⟨_, hE'⟩ | ⟨_, p', _, hnk', hE'⟩ | hE'
            · rw [hE'] at eb
              simp only [Option.some.injEq, Prod.mk.injEq] at eb
              obtain ⟨rfl, rfl⟩ := eb
              exact ⟨h, hE' h, by rw [hE, hl]; rfl⟩
            · rw [hE'] at eb
              cases hl' : ldv h n' p' with
              | none => rw [hl'] at eb; simp at eb
              | some u' =>
                rw [hl'] at eb
                simp only [Option.map_some, Option.some.injEq, Prod.mk.injEq] at eb
                obtain ⟨rfl, rfl⟩ := eb
                exact ⟨h, by rw [hE', hl']; rfl, by rw [hE, hl]; rfl⟩
            · rw [hE'] at eb; cases eb
          · obtain ⟨y, hy, hym⟩ := qb' hab
            obtain ⟨s, hs⟩ := evE_alloc (call := call) (base := base) (m := m) hy hab T
            rw [hs] at eb
            cases s with
            | none => simp at eb
            | some p2 =>
              obtain ⟨pv2, pb2⟩ := p2
              simp only [Option.map_some, Option.some.injEq, Prod.mk.injEq] at eb
              obtain ⟨rfl, rfl⟩ := eb
              cases pb2 with
              | none => exact ⟨h, by rw [hs]; rfl, by rw [hE, hl]; rfl⟩
              | some bl2 => exact ⟨h.at_ (base + y) bl2, by rw [hs]; rfl, by rw [hE, ldv_at (by omega), hl]; rfl⟩
      · rw [hE] at ea; cases ea
  · exact caseA hqa
  · -- a loads, b acts: what a found is still there
    obtain ⟨na, hna⟩ := Option.isSome_iff_exists.1 hla
    obtain ⟨n, ad⟩ := na
    rcases evE_load (call := call) (base := base) (m := m) (qa (load_alloc _ hla)) hna T with ⟨_, hE⟩ | ⟨hdt, p, hap', hnk, hE⟩ | hE
    · rw [hE] at ea
      simp only [Option.some.injEq, Prod.mk.injEq] at ea
      obtain ⟨rfl, rfl⟩ := ea
      exact ⟨h2, eb, hE h2⟩
    · rw [hE] at ea
      cases hl : ldv h n p with
      | none => rw [hl] at ea; simp at ea
      | some u =>
        rw [hl] at ea
        simp only [Option.map_some, Option.some.injEq, Prod.mk.injEq] at ea
        obtain ⟨rfl, rfl⟩ := ea
        refine ⟨h2, eb, ?_⟩
        have hchk0 := hchk
        unfold hasChk at hchk
        rw [hna] at hchk
        cases hd : a.o.dst with
        | none => rw [hd] at hchk; simp at hchk
        | some d =>
          rw [hd] at hchk
          simp only [List.any_eq_true, Bool.and_eq_true, beq_iff_eq] at hchk
          obtain ⟨c, hcm, ⟨⟨hcn, hca⟩, hcd⟩, hcg⟩ := hchk
          have hadn : ∀ t, ad = .tmp t → t ∈ a.o.names := fun t ht => names_opd (x := ad) (by rw [load_opds hna]; simp [K.opds, I.opds]) ht
          have hca' : ∃ t, c.2.1 = .tmp t ∧ ad = .tmp t := by
            cases hcc : c.2.1 <;> cases had : ad <;> simp [opdEq, hcc, had] at hca
            subst hca
            exact ⟨_, rfl, rfl⟩
          obtain ⟨t, hct, hat⟩ := hca'
          have hall := hc c hcm hchk0 (fun s hs => by
            unfold cTmps at hs
            simp only [List.mem_cons, List.mem_append] at hs
            rcases hs with rfl | hs | hs
            · right; rw [hd, hcd]
            · rw [hct] at hs
              simp [tmpOf] at hs
              subst hs
              left; exact hadn _ hat
            · left
              rw [hcg] at hs
              unfold O.names
              exact List.mem_append_right _ hs)
          have hself : d ∉ a.o.names := by
            have := hsa.1.1.1
            unfold selfOk at this
            rw [hna, hd] at this
            simpa using this
          have hkeep : ∀ t ∈ a.o.names, g (T.set (some d) u) t = g T t := fun t ht => g_set _ _ _ _ (fun e => by cases e; exact hself ht)
          unfold chk at hall
          have hdec : dec (T.set (some d) u) a.o.g = some true := by
            rw [← hdt]
            exact dec_congr fun e w hg => hkeep e (by unfold O.names; rw [hg]; simp)
          have hrho : rho (T.set (some d) u) c.2.1 = rho T ad := by
            rw [hct, hat]
            exact hkeep t (hadn t hat)
          rw [hcg, hd, hdec] at hall
          simp only [hrho, hap', hcn, hcd] at hall
          rw [hE]
          cases hl2 : ldv h2 n p with
          | none => rw [hl2] at hall; cases hall
          | some u2 =>
            rw [hl2] at hall
            simp only at hall
            have h5 := veqa_eq hall
            have h6 : g (T.set (some d) u) d = u := by simp [Tm.set, g_put']
            rw [h6] at h5
            rw [h5]
            rfl
    · rw [hE] at ea; cases ea
end Go.Ae
