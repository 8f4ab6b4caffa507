/-
  A region whose order is drawn: whatever the order, it comes to what the evaluator says of one.
-/
import Derived.Test.YtmmpnmekiplhfaaGreatAeGate
namespace Go.Ae
open Go

variable {P : Program}

/-- Operation j stands behind operation i. -/
inductive Anc (ops : Array Oper) : Nat → Nat → Prop
  | edge {i j : Nat} {o : Oper} {e : Edge} (ho : ops[j]? = some o) (he : e ∈ o.after) (hb : Region.binds .any e = true) (hi : e.on = i) : Anc ops i j
  | step {i k j : Nat} {o : Oper} {e : Edge} (h : Anc ops i k) (ho : ops[j]? = some o) (he : e ∈ o.after) (hb : Region.binds .any e = true) (hi : e.on = k) : Anc ops i j

theorem fold_bit (acc : List Nat) (i : Nat) : ∀ (l : List Edge) (s : Nat),
    (l.foldl (fun s e => if Region.binds .any e then s ||| 2 ^ e.on ||| acc.getD e.on 0 else s) s).testBit i = true ↔
      s.testBit i = true ∨ ∃ e ∈ l, Region.binds .any e = true ∧ (e.on = i ∨ (acc.getD e.on 0).testBit i = true) := by
  intro l
  induction l with
  | nil => intro s; simp
  | cons e l ih =>
    intro s
    rw [List.foldl_cons, ih]
    by_cases hb : Region.binds .any e = true
    · rw [if_pos hb]
      simp only [Nat.testBit_or, Bool.or_eq_true, Nat.testBit_two_pow, decide_eq_true_eq]
      constructor
      · rintro (((h | h) | h) | ⟨e', h1, h2⟩)
        · exact .inl h
        · exact .inr ⟨e, List.mem_cons_self, hb, .inl h⟩
        · exact .inr ⟨e, List.mem_cons_self, hb, .inr h⟩
        · exact .inr ⟨e', List.mem_cons_of_mem _ h1, h2⟩
      · rintro (h | ⟨e', h1, h2, h3⟩)
        · exact .inl (.inl (.inl h))
        · rcases List.mem_cons.1 h1 with rfl | h1
          · rcases h3 with h3 | h3
            · exact .inl (.inl (.inr h3))
            · exact .inl (.inr h3)
          · exact .inr ⟨e', h1, h2, h3⟩
    · rw [if_neg hb]
      constructor
      · rintro (h | ⟨e', h1, h2⟩)
        · exact .inl h
        · exact .inr ⟨e', List.mem_cons_of_mem _ h1, h2⟩
      · rintro (h | ⟨e', h1, h2, h3⟩)
        · exact .inl h
        · rcases List.mem_cons.1 h1 with rfl | h1
          · exact absurd h2 hb
          · exact .inr ⟨e', h1, h2, h3⟩

theorem masks_good (ops : Array Oper) : ∀ (os : List Oper) (acc : List Nat), (∀ j, os[j]? = ops[acc.length + j]?) →
    (∀ j i, j < acc.length → ((acc.getD j 0).testBit i = true → Anc ops i j)) →
    (∀ j o e, j < acc.length → ops[j]? = some o → e ∈ o.after → Region.binds .any e = true → (acc.getD j 0).testBit e.on = true) →
    (∀ j i, j < acc.length + os.length → (((masks os acc).getD j 0).testBit i = true → Anc ops i j)) ∧
    (∀ j o e, j < acc.length + os.length → ops[j]? = some o → e ∈ o.after → Region.binds .any e = true → ((masks os acc).getD j 0).testBit e.on = true) := by
  intro os
  induction os with
  | nil => intro acc _ h1 h2; exact ⟨by simpa [masks] using h1, by simpa [masks] using h2⟩
  | cons o os ih =>
    intro acc hos h1 h2
    have h0 := hos 0
    simp only [List.getElem?_cons_zero, Nat.add_zero] at h0
    have hlen : (acc ++ [maskOf acc o]).length = acc.length + 1 := by simp
    have hget : ∀ j, j < acc.length → (acc ++ [maskOf acc o]).getD j 0 = acc.getD j 0 := by
      intro j hj; simp [List.getD_eq_getElem?_getD, List.getElem?_append, hj]
    have hlast : (acc ++ [maskOf acc o]).getD acc.length 0 = maskOf acc o := by
      simp [List.getD_eq_getElem?_getD]
    have := ih (acc ++ [maskOf acc o]) (fun j => by
        have := hos (j + 1)
        simp only [List.getElem?_cons_succ] at this
        rw [this, hlen]; congr 1; omega)
      (fun j i hj hb => by
        rw [hlen] at hj
        by_cases hj' : j < acc.length
        · rw [hget j hj'] at hb; exact h1 j i hj' hb
        · have : j = acc.length := by omega
          subst this
          rw [hlast] at hb
          unfold maskOf at hb
          rw [fold_bit] at hb
          rcases hb with hb | ⟨e, he, hbd, hi | hi⟩
          · simp at hb
          · exact .edge h0.symm (by simpa using he) hbd hi
          · by_cases hlt : e.on < acc.length
            · exact .step (h1 _ _ hlt hi) h0.symm (by simpa using he) hbd rfl
            · rw [List.getD_eq_getElem?_getD, List.getElem?_eq_none (by omega)] at hi
              simp at hi)
      (fun j o' e hj ho he hb => by
        rw [hlen] at hj
        by_cases hj' : j < acc.length
        · rw [hget j hj']; exact h2 j o' e hj' ho he hb
        · have : j = acc.length := by omega
          subst this
          rw [hlast]
          rw [← h0] at ho
          cases ho
          unfold maskOf
          rw [fold_bit]
          exact .inr ⟨e, by simpa using he, hb, .inl rfl⟩)
    rw [hlen] at this
    have e1 : acc.length + 1 + os.length = acc.length + (o :: os).length := by simp; omega
    rw [e1] at this
    exact this

section
variable {call : CallF} {base m n0 : Nat}

theorem kinds_mild {k : K} (h : mild k = false) : k.quiet = false ∧ k.alloc = false ∧ k.load.isSome = false := by
  unfold mild at h
  simp only [Bool.or_eq_false_iff] at h
  exact ⟨h.1.1, h.1.2, h.2⟩

theorem loadKeep_spec {a b : O} (h : loadKeep a b = true) (hl : a.k.load.isSome = true) {d : Nat} (hd : b.dst = some d) : d ∉ a.names ∧ a.dst ≠ some d := by
  unfold loadKeep at h
  rw [hd] at h
  have : a.k.load.isNone = false := by cases hx : a.k.load <;> simp_all
  simp only [this, Bool.false_or] at h
  simpa using h

/-- One that may stand ahead of all that stand in front of it is taken to the front. -/
theorem front : ∀ (l1 : List DO) (d : DO) (l2 : List DO) (T : Tm) (h : H) (r : Tm × H), evD call base m (l1 ++ d :: l2) T h = some r →
    (∀ a ∈ l1, free a d = true ∧ soleOk m n0 a = true ∧ (∀ x y, a.q = some x → d.q = some y → x ≠ y) ∧ loadKeep a.o d.o = true) → soleOk m n0 d = true →
    l1.Pairwise (fun a x => loadKeep a.o x.o = true) → CallFr call → (∀ y, d.q = some y → h.get (base + y) = none ∧ base + y < h.next) →
    ∃ v h1, evE call base m d T h = some (v, h1) ∧ evD call base m (l1 ++ l2) (T.set d.o.dst v) h1 = some r ∧
      (∀ c ∈ d.chks, (∀ x ∈ l1, ∀ t, x.o.dst = some t → t ∉ cTmps c) → (∀ t, d.o.dst = some t → t ∉ cTmps c) → chk T h1 c = true) := by
  intro l1
  induction l1 with
  | nil =>
    intro d l2 T h r ev _ _ _ _ _
    simp only [List.nil_append, evD] at ev
    cases hE : evE call base m d T h with
    | none => simp [hE] at ev
    | some p =>
      obtain ⟨v, h1⟩ := p
      simp only [hE, Option.bind_some] at ev
      split at ev
      · rename_i hall
        refine ⟨v, h1, rfl, ev, fun c hc _ hd => ?_⟩
        rw [List.all_eq_true] at hall
        rw [← hall c hc]
        exact chk_congr fun t ht => (g_set _ _ _ _ (fun e => hd t e ht)).symm
      · cases ev
  | cons a l1 ih =>
    intro d l2 T h r ev hall hd hpw hfr hnone
    simp only [List.cons_append, evD] at ev
    cases hE : evE call base m a T h with
    | none => simp [hE] at ev
    | some p =>
      obtain ⟨va, h1⟩ := p
      simp only [hE, Option.bind_some] at ev
      split at ev
      · rename_i hchka
        rw [List.pairwise_cons] at hpw
        obtain ⟨hfree, hsa, hq, hlk⟩ := hall a List.mem_cons_self
        have hnone1 : ∀ y, d.q = some y → h1.get (base + y) = none ∧ base + y < h1.next := fun y hy => by
          obtain ⟨n1, n2⟩ := hnone y hy
          obtain ⟨g1, g2⟩ := evE_none (n0 := n0) hfr hsa hE n1 n2 (fun x hx => by have := hq x y hx hy; omega)
          exact ⟨g1, by omega⟩
        obtain ⟨v, h2, e1, e2, e3⟩ := ih d l2 _ h1 r ev (fun x hx => hall x (List.mem_cons_of_mem _ hx)) hd hpw.2 hfr hnone1
        have hfree0 := hfree
        unfold free at hfree
        simp only [Bool.and_eq_true] at hfree
        obtain ⟨hap, hkind⟩ := hfree
        obtain ⟨s1, s2⟩ := apart_spec hap
        obtain ⟨h1', g1, g2, g3⟩ := swap (n0 := n0) hfree0 hsa hd hq hE e1 hfr hnone (fun c hc hchk hsub => by
          have hla : a.o.k.load.isSome = true := by
            unfold hasChk at hchk
            cases hx : a.o.k.load with
            | none => rw [hx] at hchk; simp at hchk
            | some y => rfl
          refine e3 c hc (fun x hx t ht htc => ?_) (fun t ht htc => ?_)
          · obtain ⟨k1, k2⟩ := loadKeep_spec (hpw.1 x hx) hla ht
            rcases hsub t htc with h3 | h3
            · exact k1 h3
            · exact k2 h3
          · obtain ⟨k1, k2⟩ := loadKeep_spec hlk hla ht
            rcases hsub t htc with h3 | h3
            · exact k1 h3
            · exact k2 h3)
        refine ⟨v, h1', g1, ?_, fun c hc hx hdt => ?_⟩
        · simp only [List.cons_append, evD, g2, Option.bind_some]
          rw [g3] at e2
          -- what the first one's loads must find
          have hck : a.chks.all (chk ((T.set d.o.dst v).set a.o.dst va) h2) = true := by
            unfold soleOk at hsa
            simp only [Bool.and_eq_true, Bool.or_eq_true, Bool.not_eq_true'] at hsa
            rcases hsa.2 with hem | hnm
            · have : a.chks = [] := by simpa using hem
              rw [this]; rfl
            · have hm3 := kinds_mild hnm
              have hor : (d.o.k.quiet = true ∧ (match d.o.dst with | some e => !(chkTmps a).contains e | none => true) = true) ∨ (d.o.k.alloc = true ∧ (match d.o.dst with | some e => !(chkTmps a).contains e | none => true) = true) := by
                simp only [Bool.or_eq_true, Bool.and_eq_true, hm3.1, hm3.2.2, Bool.false_eq_true, false_and, or_false, hnm, and_false, Bool.not_false, and_true] at hkind
                exact hkind
              have hdst : ∀ e, d.o.dst = some e → ∀ c ∈ a.chks, e ∉ cTmps c := by
                intro e he c hc ht
                have := hor.elim (·.2) (·.2)
                rw [he] at this
                simp only [Bool.not_eq_true', List.contains_eq_mem, decide_eq_false_iff_not] at this
                exact this (List.mem_flatMap.2 ⟨c, hc, ht⟩)
              have hh : ∀ c, chk (T.set a.o.dst va) h1 c = true → chk (T.set a.o.dst va) h2 c = true := by
                intro c hck
                rcases hor with hqd | hal
                · have hdq : d.q = none := by
                    unfold soleOk at hd
                    simp only [Bool.and_eq_true] at hd
                    have := hd.1.2
                    cases hx : d.q with
                    | none => rfl
                    | some q =>
                      rw [hx] at this
                      simp only [Bool.and_eq_true] at this
                      have hal := this.1
                      have : d.o.k.alloc = false := by
                        cases hk : d.o.k with
                        | op i => cases i <;> simp [K.alloc] <;> simp [hk, K.quiet] at hqd
                        | _ => rfl
                      rw [this] at hal; cases hal
                  obtain ⟨rr, hr⟩ := evE_quiet (call := call) (base := base) (m := m) hqd.1 hdq (T.set a.o.dst va)
                  rw [hr] at e1
                  cases rr with
                  | none => simp at e1
                  | some y => simp at e1; rw [← e1.2]; exact hck
                · have hdq : ∃ y, d.q = some y := by
                    unfold soleOk at hd
                    simp only [Bool.and_eq_true] at hd
                    have := hd.1.2
                    cases hx : d.q with
                    | none => rw [hx] at this; simp [hal.1] at this
                    | some q => exact ⟨q, rfl⟩
                  obtain ⟨y, hy⟩ := hdq
                  obtain ⟨rr, hr⟩ := evE_alloc (call := call) (base := base) (m := m) hy hal.1 (T.set a.o.dst va)
                  rw [hr] at e1
                  cases rr with
                  | none => simp at e1
                  | some p2 =>
                    obtain ⟨pv2, pb2⟩ := p2
                    simp only [Option.map_some, Option.some.injEq, Prod.mk.injEq] at e1
                    rw [← e1.2]
                    cases pb2 with
                    | none => exact hck
                    | some bl => exact chk_fr (hnone1 y hy).1 hck
              rw [← g3]
              rw [List.all_eq_true] at hchka ⊢
              intro c hc
              rw [chk_congr (T' := T.set a.o.dst va) fun t ht => g_set _ _ _ _ (fun e => hdst t e c hc ht)]
              exact hh c (hchka c hc)
          rw [if_pos hck]
          exact e2
        · -- what the one that is taken to the front must leave as it was found
          have hdnm : mild d.o.k = false := by
            unfold soleOk at hd
            simp only [Bool.and_eq_true, Bool.or_eq_true, Bool.not_eq_true'] at hd
            rcases hd.2 with hem | hnm
            · have : d.chks = [] := by simpa using hem
              rw [this] at hc; cases hc
            · exact hnm
          have hm3 := kinds_mild hdnm
          have hsame : h1' = h2 := by
            simp only [Bool.or_eq_true, Bool.and_eq_true, hm3.1, hm3.2.1, hm3.2.2, Bool.false_eq_true, false_and, or_false, false_or, hdnm, Bool.not_false, true_and] at hkind
            rcases hkind with hqa | ⟨hla, _⟩
            · have haq : a.q = none := by
                unfold soleOk at hsa
                simp only [Bool.and_eq_true] at hsa
                have := hsa.1.2
                cases hx : a.q with
                | none => rfl
                | some q =>
                  rw [hx] at this
                  simp only [Bool.and_eq_true] at this
                  have hal := this.1
                  have : a.o.k.alloc = false := by
                    cases hk : a.o.k with
                    | op i => cases i <;> simp [K.alloc] <;> simp [hk, K.quiet] at hqa
                    | _ => rfl
                  rw [this] at hal; cases hal
              obtain ⟨rr, hr⟩ := evE_quiet (call := call) (base := base) (m := m) hqa haq (T.set d.o.dst v)
              rw [hr] at g2
              cases rr with
              | none => simp at g2
              | some y => simp at g2; exact g2.2
            · have haq : a.q = none := by
                unfold soleOk at hsa
                simp only [Bool.and_eq_true] at hsa
                have := hsa.1.2
                cases hx : a.q with
                | none => rfl
                | some q =>
                  rw [hx] at this
                  simp only [Bool.and_eq_true] at this
                  have hal := this.1
                  have : a.o.k.alloc = false := by
                    cases hk : a.o.k with
                    | op i => cases i <;> simp [K.alloc] <;> simp [hk, K.load] at hla
                    | _ => rfl
                  rw [this] at hal; cases hal
              obtain ⟨na, hna⟩ := Option.isSome_iff_exists.1 hla
              obtain ⟨n, ad⟩ := na
              rcases evE_load (call := call) (base := base) (m := m) haq hna (T.set d.o.dst v) with ⟨_, hL⟩ | ⟨_, p, _, _, hL⟩ | hL
              · rw [hL] at g2; simp at g2; exact g2.2
              · rw [hL] at g2
                cases hl : ldv h1' n p with
                | none => rw [hl] at g2; simp at g2
                | some y => rw [hl] at g2; simp at g2; exact g2.2
              · rw [hL] at g2; cases g2
          rw [hsame]
          rw [← e3 c hc (fun x hx' t ht => hx x (List.mem_cons_of_mem _ hx') t ht) hdt]
          exact chk_congr fun t ht => (g_set _ _ _ _ (fun e => hx a List.mem_cons_self t e ht)).symm
      · cases ev
end
end Go.Ae
