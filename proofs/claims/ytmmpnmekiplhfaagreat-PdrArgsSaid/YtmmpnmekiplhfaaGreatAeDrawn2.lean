/-
  A region whose order is drawn: whatever the order, it comes to what the evaluator says of one: the whole.
-/
import Derived.Test.YtmmpnmekiplhfaaGreatAeDrawn
namespace Go.Ae
open Go

variable {P : Program} {call : CallF} {n0 : Nat}

theorem pairsOk_pairwise {ms : List Nat} : ∀ {ds : List DO}, pairsOk ms ds = true → ds.Pairwise (fun a b => pairOk ms a b = true) := by
  intro ds
  induction ds with
  | nil => intro _; exact .nil
  | cons d ds ih =>
    intro h
    simp only [pairsOk, Bool.and_eq_true, List.all_eq_true] at h
    exact List.pairwise_cons.2 ⟨h.1, ih h.2⟩

theorem pairOk_spec {ms : List Nat} {a b : DO} (h : pairOk ms a b = true) :
    (ms.getD a.ix 0).testBit b.ix = false ∧ ((ms.getD b.ix 0).testBit a.ix = true ∨ free a b = true) ∧ a.ix ≠ b.ix ∧ loadKeep a.o b.o = true ∧ (∀ x y, a.q = some x → b.q = some y → x ≠ y) := by
  unfold pairOk at h
  simp only [Bool.and_eq_true, Bool.not_eq_true', Bool.or_eq_true, bne_iff_ne] at h
  obtain ⟨⟨⟨⟨h1, h2⟩, h3⟩, h4⟩, h5⟩ := h
  refine ⟨h1, h2, h3, h4, fun x y hx hy e => ?_⟩
  rw [hx, hy, e] at h5
  simp at h5

/-- One operation of a drawn region. -/
theorem step_wp (hcall : CallOk P call) {nt base m : Nat} {ops : Array Oper} {d : DO} {o : Oper} (hc : compO P nt ops o = some d.o) (hs : soleOk m n0 d = true) {φ : Emb} {h : H} {w : World} {T : Tm} {a : Act}
    (S : Sim φ h w) (hf : Fresh φ h) (hres : ∀ q, d.q = some q → φ (base + q) = none) (_hbm : base + m ≤ h.next) (hT : TR φ T a.tmps) (hn : nt ≤ a.tmps.size) {v : Value} {h1 : H}
    (ev : run1 call base m d (rho T) h = some (v, h1)) (Kn : Act → World → Prop) (Q : Exit → Act → World → Prop)
    (hK : ∀ φ' a' w', Sim φ' h1 w' → TR φ' (T.set d.o.dst v) a'.tmps → nt ≤ a'.tmps.size → a'.defers = a.defers →
      φ.le φ' → (∀ i l, φ i = none → φ' i = some l → (∃ q, d.q = some q ∧ i = base + q) ∨ (d.q = none ∧ h.next ≤ i ∧ i < h1.next)) → h.next ≤ h1.next →
      w'.os = w.os → w'.tape = w.tape → w'.output = w.output → w.heap.size ≤ w'.heap.size → (∀ b, b < w.heap.size → ¬ Owns φ h b → w'.heap[b]? = w.heap[b]?) →
      (∀ b, Owns φ' h1 b → Owns φ h b ∨ w.heap.size ≤ b) → Kn a' w') : o.wp P a w Kn Q := by
  unfold soleOk at hs
  simp only [Bool.and_eq_true] at hs
  cases hq : d.q with
  | some q =>
    have hs2 := hs.1.2
    rw [hq] at hs2
    simp only [Bool.and_eq_true, decide_eq_true_eq] at hs2
    unfold run1 at ev
    rw [hq] at ev
    simp only at ev
    cases hr : evK call (rho T) { h with next := base + q } d.o.k with
    | none => rw [hr] at ev; simp at ev
    | some r =>
      rw [hr] at ev
      simp only [Option.map_some, Option.some.injEq, Prod.mk.injEq] at ev
      obtain ⟨rfl, rfl⟩ := ev
      have S0 : Sim φ { h with next := base + q } w := S.congr (fun _ => rfl)
      have hkk : ∃ i, d.o.k = .op i := by
        cases hk : d.o.k with
        | op i => exact ⟨i, rfl⟩
        | _ => rw [hk] at hs2; simp [Ae.K.alloc] at hs2
      obtain ⟨ii, hii⟩ := hkk
      refine op_wp hcall hc S0 (hres q hq) (fun hne => absurd hii (hne ii)) hT hn (v := r.1) (h' := r.2) hr Kn Q ?_
      intro φ' a' w' S' hT' hn' hd' F
      obtain ⟨rr, hrr⟩ := evK_alloc (call := call) (ρ := rho T) hs2.1
      rw [hrr] at hr
      cases rr with
      | none => simp at hr
      | some pb =>
        simp only [Option.map_some, Option.some.injEq] at hr
        have hnext : r.2.next = base + q + 1 := by rw [← hr]; rfl
        refine hK φ' a' w' (S'.congr (fun _ => rfl)) hT' hn' hd' F.ext (fun i l h1 h2 => .inl ⟨q, by first | rfl | exact hq, ?_⟩) (Nat.le_refl _) F.os F.tape F.output F.size (fun b hb ho => F.kept b hb (fun ho2 => ho (ho2.congr (fun _ => rfl) (fun _ => rfl)))) (fun b hb => ?_)
        · have := F.late i l h1 h2
          rw [hnext] at this
          simp only at this
          omega
        · rcases F.owned b (hb.congr (h := r.2) (fun _ => rfl) (fun _ => rfl)) with h3 | h3
          · exact .inl (h3.congr (h := h) (fun _ => rfl) (fun _ => rfl))
          · exact .inr h3
  | none =>
    have hev : evK call (rho T) h d.o.k = some (v, h1) := by
      unfold run1 at ev
      rw [hq] at ev
      simp only at ev
      cases hl : d.o.k.load with
      | none => rw [hl] at ev; exact ev
      | some na =>
        rw [hl] at ev
        simp only at ev
        split at ev
        · cases ev
        · exact ev
    refine op_wp hcall hc S (hf _ (Nat.le_refl _)) (fun _ => hf) hT hn hev Kn Q ?_
    intro φ' a' w' S' hT' hn' hd' F
    exact hK φ' a' w' S' hT' hn' hd' F.ext (fun i l h1 h2 => .inr ⟨by first | rfl | exact hq, F.late i l h1 h2⟩) F.next F.os F.tape F.output F.size F.kept F.owned

theorem drawn_ok (hcall : CallOk P call) (hcfr : CallFr call) {nt base m : Nat} {ops : Array Oper} {ms : List Nat} (hms : ∀ j i, j < ops.size → ((ms.getD j 0).testBit i = true → Anc ops i j))
    (hmc : ∀ j o e, j < ops.size → ops[j]? = some o → e ∈ o.after → Region.binds .any e = true → (ms.getD j 0).testBit e.on = true)
    (hedge : ∀ o ∈ ops, edgesOk ops.size o = true) (Q : Exit → Act → World → Prop) {T' : Tm} {h' : H} {df : List Deferred} {φ0 : Emb} {h0 : H} {w0 : World} (hb0 : h0.next = base) :
    ∀ (fuel : Nat) (ds : List DO) (listed : Array Bool) (φ : Emb) (h : H) (w : World) (T : Tm) (a : Act),
      ds.length ≤ fuel → listed.size = ops.size → (∀ d ∈ ds, listed.getD d.ix true = false) → (∀ i, i < ops.size → listed.getD i true = false → ∃ d ∈ ds, d.ix = i) →
      (∀ i o, ops[i]? = some o → listed.getD i false = true → ∀ e ∈ o.after, Region.binds .any e = true → listed.getD e.on false = true) →
      ds.Pairwise (fun a b => pairOk ms a b = true) → (∀ d ∈ ds, soleOk m ops.size d = true ∧ (ms.getD d.ix 0).testBit d.ix = false ∧ ∃ o, ops[d.ix]? = some o ∧ compO P nt ops o = some d.o) →
      Sim φ h w → Fresh φ h → (∀ d ∈ ds, ∀ q, d.q = some q → φ (base + q) = none) → base + m ≤ h.next → TR φ T a.tmps → nt ≤ a.tmps.size → a.defers = df → Fr φ0 h0 w0 φ h w →
      evD call base m ds T h = some (T', h') →
      (∀ φ' a' w', Sim φ' h' w' → TR φ' T' a'.tmps → nt ≤ a'.tmps.size → a'.defers = df → Fr φ0 h0 w0 φ' h' w' → Q .normal a' w') →
      wpAny P .any ops Q fuel listed a w := by
  intro fuel
  induction fuel with
  | zero =>
    intro ds listed φ h w T a hlen hls hin hout hcl hpw hall S hf hres hbm hT hn hdf F ev hK
    have hds : ds = [] := List.eq_nil_of_length_eq_zero (by omega)
    subst hds
    simp only [evD, Option.some.injEq, Prod.mk.injEq] at ev
    obtain ⟨rfl, rfl⟩ := ev
    refine ⟨?_, hK φ a w S hT hn hdf F⟩
    rw [List.eq_nil_iff_forall_not_mem]
    intro j hj
    rw [mem_ready] at hj
    obtain ⟨hj0, o, ho, _⟩ := hj
    have hlt : j < ops.size := (Array.getElem?_eq_some_iff.1 ho).1
    obtain ⟨d, hd, _⟩ := hout j hlt hj0
    cases hd
  | succ fuel ih =>
    intro ds listed φ h w T a hlen hls hin hout hcl hpw hall S hf hres hbm hT hn hdf F ev hK
    refine ⟨fun hr => ?_, fun j hj => ?_⟩
    · -- nothing is ready: nothing is left
      cases ds with
      | nil =>
        simp only [evD, Option.some.injEq, Prod.mk.injEq] at ev
        obtain ⟨rfl, rfl⟩ := ev
        exact hK φ a w S hT hn hdf F
      | cons d0 rest =>
        exfalso
        obtain ⟨hsole, hself, o, ho, hco⟩ := hall d0 List.mem_cons_self
        have hlt : d0.ix < ops.size := (Array.getElem?_eq_some_iff.1 ho).1
        have : d0.ix ∈ Region.ready .any ops listed := by
          rw [mem_ready]
          refine ⟨hin d0 List.mem_cons_self, o, ho, fun e he hb => ?_⟩
          have hon : e.on < ops.size := by
            have := hedge o (Array.mem_of_getElem? ho)
            unfold edgesOk at this
            rw [Array.all_eq_true_iff_forall_mem] at this
            have := this e he
            simpa [hb] using this
          have hbit := hmc d0.ix o e hlt ho he hb
          cases hl : listed.getD e.on false with
          | true => rfl
          | false =>
            have hl2 : listed.getD e.on true = false := by
              simp only [Array.getD_eq_getD_getElem?] at hl ⊢
              have : listed[e.on]? = some (listed[e.on]'(by omega)) := by simp [show e.on < listed.size by omega]
              rw [this] at hl ⊢
              exact hl
            obtain ⟨d1, hd1, hix⟩ := hout e.on hon hl2
            rcases List.mem_cons.1 hd1 with rfl | hd1
            · rw [← hix] at hbit
              rw [hself] at hbit; cases hbit
            · have := (pairOk_spec ((List.pairwise_cons.1 hpw).1 d1 hd1)).1
              rw [hix, hbit] at this
              cases this
        rw [hr] at this
        cases this
    · -- operation j comes next
      rw [mem_ready] at hj
      obtain ⟨hj0, oj, hoj, hpre⟩ := hj
      have hjlt : j < ops.size := (Array.getElem?_eq_some_iff.1 hoj).1
      obtain ⟨d, hd, hix⟩ := hout j hjlt hj0
      subst hix
      obtain ⟨hsole, hself, o, ho, hco⟩ := hall d hd
      rw [hoj] at ho
      cases ho
      obtain ⟨l1, l2, rfl⟩ := List.append_of_mem hd
      -- what is left stands behind nothing that is left
      have hanc : ∀ i k, Anc ops i k → (∀ o, ops[k]? = some o → ∀ e ∈ o.after, Region.binds .any e = true → listed.getD e.on false = true) → listed.getD i false = true := by
        intro i k hA
        induction hA with
        | edge ho he hb hi => intro hk; rw [← hi]; exact hk _ ho _ he hb
        | step hA ho he hb hi ihA =>
          intro hk
          refine ihA (fun o' ho' => hcl _ o' ho' ?_)
          rw [← hi]
          exact hk _ ho _ he hb
      have hfree : ∀ x ∈ l1, free x d = true := by
        intro x hx
        have hp := pairOk_spec ((List.pairwise_append.1 hpw).2.2 x hx d List.mem_cons_self)
        rcases hp.2.1 with hb | hfr
        · exfalso
          have hl := hanc _ _ (hms d.ix x.ix hjlt hb) (fun o' ho' e he hbd => by rw [hoj] at ho'; cases ho'; exact hpre e he hbd)
          have hu := hin x (List.mem_append_left _ hx)
          simp only [Array.getD_eq_getD_getElem?] at hl hu
          cases hg : listed[x.ix]? with
          | none => rw [hg] at hl; simp at hl
          | some b => rw [hg] at hl hu; simp at hl hu; rw [hl] at hu; cases hu
        · exact hfr
      have hpw1 := (List.pairwise_append.1 hpw)
      obtain ⟨v, h1, e1, e2, _⟩ := front (n0 := ops.size) l1 d l2 T h (T', h') ev
        (fun x hx => by
          have hp := pairOk_spec (hpw1.2.2 x hx d List.mem_cons_self)
          exact ⟨hfree x hx, (hall x (List.mem_append_left _ hx)).1, hp.2.2.2.2, hp.2.2.2.1⟩) hsole
        (hpw1.1.imp fun hp => (pairOk_spec hp).2.2.2.1) hcfr (fun y hy => by
          have hyl : y < m := by
            unfold soleOk at hsole
            simp only [Bool.and_eq_true] at hsole
            have := hsole.1.2
            rw [hy] at this
            simp only [Bool.and_eq_true, decide_eq_true_eq] at this
            exact this.2
          refine ⟨?_, by omega⟩
          cases hg : h.get (base + y) with
          | none => rfl
          | some k =>
            obtain ⟨l, hl, _⟩ := S.bears _ k hg
            rw [hres d hd y hy] at hl; cases hl)
      have hsub : (l1 ++ l2).Sublist (l1 ++ d :: l2) := List.Sublist.append (List.Sublist.refl _) (List.sublist_cons_self _ _)
      have hixne : ∀ x ∈ l1 ++ l2, x.ix ≠ d.ix ∧ (∀ p q, x.q = some p → d.q = some q → p ≠ q) := by
        intro x hx
        rcases List.mem_append.1 hx with hx | hx
        · have hp := pairOk_spec (hpw1.2.2 x hx d List.mem_cons_self)
          exact ⟨hp.2.2.1, hp.2.2.2.2⟩
        · have hp := pairOk_spec ((List.pairwise_cons.1 hpw1.2.1).1 x hx)
          exact ⟨Ne.symm hp.2.2.1, fun p q h1 h2 => Ne.symm (hp.2.2.2.2 q p h2 h1)⟩
      have hlen' : (l1 ++ l2).length ≤ fuel := by simp at hlen ⊢; omega
      have hjl : d.ix < listed.size := by rw [hls]; exact hjlt
      have next : ∀ φ1 a1 w1, Sim φ1 h1 w1 → Fresh φ1 h1 → (∀ x ∈ l1 ++ l2, ∀ q, x.q = some q → φ1 (base + q) = none) → base + m ≤ h1.next → TR φ1 (T.set d.o.dst v) a1.tmps → nt ≤ a1.tmps.size →
          a1.defers = df → Fr φ0 h0 w0 φ1 h1 w1 → wpAny P .any ops Q fuel (listed.setIfInBounds d.ix true) a1 w1 := by
        intro φ1 a1 w1 S1 hf1 hres1 hbm1 hT1 hn1 hd1 F1
        refine ih (l1 ++ l2) _ φ1 h1 w1 _ a1 hlen' (by simpa using hls) (fun x hx => ?_) (fun i hi hl => ?_) (fun i o' ho' hl e he hb => ?_) (hpw.sublist hsub) (fun x hx => hall x (hsub.mem hx)) S1 hf1 hres1 hbm1 hT1 hn1 hd1 F1 e2 hK
        · rw [getD_set_ne true (Ne.symm (hixne x hx).1)]
          exact hin x (hsub.mem hx)
        · by_cases hid : i = d.ix
          · subst hid
            simp [hjl] at hl
          · rw [getD_set_ne true (Ne.symm hid)] at hl
            obtain ⟨x, hx, hxi⟩ := hout i hi hl
            refine ⟨x, ?_, hxi⟩
            rcases List.mem_append.1 hx with hx | hx
            · exact List.mem_append_left _ hx
            · rcases List.mem_cons.1 hx with rfl | hx
              · exact absurd hxi.symm hid
              · exact List.mem_append_right _ hx
        · by_cases hid : i = d.ix
          · subst hid
            rw [hoj] at ho'
            cases ho'
            exact getD_set_true (hpre e he hb)
          · rw [getD_set_ne false (Ne.symm hid)] at hl
            exact getD_set_true (hcl i o' ho' hl e he hb)
      have hgu : compG ops oj.guard = some d.o.g ∧ d.o.dst = oj.dst ∧ dstOk nt oj.dst = true := by
        unfold compO at hco
        split at hco
        · rename_i hcond
          cases hg : compG ops oj.guard with
          | none => simp [hg] at hco
          | some gd =>
            cases hk : compK P oj with
            | none => simp [hg, hk] at hco
            | some kk => simp [hg, hk] at hco; rw [← hco]; exact ⟨rfl, rfl, hcond.2⟩
        · cases hco
      unfold wpOp
      rw [hoj]
      simp only
      unfold evE at e1
      cases hdec : dec T d.o.g with
      | none => rw [hdec] at e1; cases e1
      | some b =>
        have hw := wanted_dec hT hgu.1 hdec
        rw [hdec] at e1
        cases b with
        | false =>
          simp only [Option.some.injEq, Prod.mk.injEq] at e1
          obtain ⟨rfl, rfl⟩ := e1
          rw [if_neg (by rw [hw]; simp)]
          refine next φ (a.put oj.dst undef) w S hf (fun x hx => hres x (hsub.mem hx)) hbm ?_ (by rw [put_size]; exact hn) (by rw [put_defers]; exact hdf) F
          rw [hgu.2.1]
          exact hT.set (dstOk_mono hn hgu.2.2) (.undef φ)
        | true =>
          simp only at e1
          rw [if_pos (by rw [hw])]
          refine .inl (step_wp hcall hco hsole S hf (hres d hd) hbm hT hn e1 _ Q ?_)
          intro φ1 a1 w1 S1 hT1 hn1 hd1 hext hlate hnx hos htape hout' hsz hkept howned
          have hqm : ∀ q, d.q = some q → q < m := by
            intro q hq
            unfold soleOk at hsole
            simp only [Bool.and_eq_true] at hsole
            have := hsole.1.2
            rw [hq] at this
            simp only [Bool.and_eq_true, decide_eq_true_eq] at this
            exact this.2
          have hqm' : ∀ x ∈ l1 ++ l2, ∀ q, x.q = some q → q < m := by
            intro x hx q hq
            have hsx := (hall x (hsub.mem hx)).1
            unfold soleOk at hsx
            simp only [Bool.and_eq_true] at hsx
            have := hsx.1.2
            rw [hq] at this
            simp only [Bool.and_eq_true, decide_eq_true_eq] at this
            exact this.2
          refine next φ1 a1 w1 S1 (fun i hi => ?_) (fun x hx q hq => ?_) (by omega) hT1 hn1 (hd1.trans hdf) ?_
          · cases e : φ1 i with
            | none => rfl
            | some l =>
              have hn0 := hf i (Nat.le_trans hnx hi)
              rcases hlate i l hn0 e with ⟨q, hq, rfl⟩ | ⟨_, h3, h4⟩
              · have := hqm q hq; omega
              · omega
          · cases e : φ1 (base + q) with
            | none => rfl
            | some l =>
              have hn0 := hres x (hsub.mem hx) q hq
              have hq1 := hqm' x hx q hq
              rcases hlate _ l hn0 e with ⟨q', hq', he⟩ | ⟨_, h3, h4⟩
              · have := (hixne x hx).2 q q' hq hq'
                omega
              · omega
          · refine ⟨hos.trans F.os, htape.trans F.tape, hout'.trans F.output, Nat.le_trans F.size hsz, fun b hb hno => ?_, F.ext.trans hext, fun i l h2 h3 => ?_, ?_, fun b hb => ?_⟩
            · rw [hkept b (by have := F.size; omega) (fun ho => ?_), F.kept b hb hno]
              rcases F.owned b ho with h4 | h4
              · exact hno h4
              · omega
            · cases e : φ i with
              | some l' => have := F.late i l' h2 e; omega
              | none =>
                rcases hlate i l e h3 with ⟨q, hq, rfl⟩ | ⟨_, h4, h5⟩
                · have := hqm q hq; omega
                · have := F.next; omega
            · exact Nat.le_trans F.next hnx
            · rcases howned b hb with h4 | h4
              · exact F.owned b h4
              · exact .inr (Nat.le_trans F.size h4)

theorem compOs_get {nt : Nat} {ops : Array Oper} : ∀ {os : List Oper} {xs : List O}, compOs P nt ops os = some xs → ∀ (i : Nat) (x : O), xs[i]? = some x → ∃ o, os[i]? = some o ∧ compO P nt ops o = some x := by
  intro os
  induction os with
  | nil => intro xs h i x hx; simp [compOs] at h; subst h; simp at hx
  | cons o os ih =>
    intro xs h i x hx
    simp only [compOs] at h
    cases h1 : compO P nt ops o with
    | none => simp [h1] at h
    | some y =>
      cases h2 : compOs P nt ops os with
      | none => simp [h1, h2] at h
      | some ys =>
        simp only [h1, h2, Option.bind_some, Option.map_some, Option.some.injEq] at h
        subst h
        cases i with
        | zero => simp at hx; subst hx; exact ⟨o, rfl, h1⟩
        | succ i => exact ih h2 i x (by simpa using hx)

theorem mkD_mem {ms : List Nat} {xs : List O} : ∀ (is : List Nat) (q : Nat) (ls : List (Nat × Option Nat × Operand × Nat × Option (Nat × Bool))) (d : DO), d ∈ mkD ms xs is q ls → xs[d.ix]? = some d.o := by
  intro is
  induction is with
  | nil => intro q ls d h; simp [mkD] at h
  | cons i is ih =>
    intro q ls d h
    unfold mkD at h
    split at h
    · cases h
    · rename_i x hx
      split at h
      · rcases List.mem_cons.1 h with rfl | h
        · exact hx
        · exact ih _ _ d h
      · split at h
        · rcases List.mem_cons.1 h with rfl | h
          · exact hx
          · exact ih _ _ d h
        · rcases List.mem_cons.1 h with rfl | h
          · exact hx
          · exact ih _ _ d h

theorem drawn_region (hcall : CallOk P call) (hcfr : CallFr call) (n : Nat) {nt : Nat} {id : Nat} {ops : Array Oper} {x : C} (hc : compD P nt ops = some x) {φ : Emb} {h : H} {w : World} {T : Tm} {a : Act} {e : Ex} {T' : Tm} {h' : H}
    {Q : Exit → Act → World → Prop} (S : Sim φ h w) (hf : Fresh φ h) (hT : TR φ T a.tmps) (hn : nt ≤ a.tmps.size) (ev : evC call n x T h = some (e, T', h'))
    (hK : ∀ φ' a' w', Sim φ' h' w' → TR φ' T' a'.tmps → nt ≤ a'.tmps.size → a'.defers = a.defers → Fr φ h w φ' h' w' → Q (toExit e) a' w') : (Code.region id ops true).wp P Q a w := by
  unfold compD at hc
  split at hc
  · rename_i hm
    cases hxs : compOs P nt ops ops.toList with
    | none => simp [hxs] at hc
    | some xs =>
      simp only [hxs, Option.bind_some] at hc
      split at hc
      · rename_i hok
        simp only [Option.some.injEq] at hc
        subst hc
        generalize hmm : (xs.filter (·.k.alloc)).length = m at hok ev
        generalize hms : masks ops.toList [] = ms at hok ev
        generalize hds : mkD ms xs (orderD (xs.map (·.k)) ms ops.size (List.range ops.size) 0) 0 [] = ds at hok ev
        simp only [evC] at ev
        cases hr : evD call h.next m ds T { h with next := h.next + m } with
        | none => simp [hr] at ev
        | some r =>
          simp only [hr, Option.map_some, Option.some.injEq, Prod.mk.injEq] at ev
          obtain ⟨rfl, rfl, rfl⟩ := ev
          unfold okD at hok
          simp only [Bool.and_eq_true, decide_eq_true_eq] at hok
          obtain ⟨⟨⟨⟨⟨o1, o2⟩, o3⟩, o4⟩, o5⟩, o6⟩ := hok
          rw [hms] at o5 o6
          have hgood := masks_good ops ops.toList [] (fun j => by simp) (fun j i hj => by simp at hj) (fun j o e hj => by simp at hj)
          rw [hms] at hgood
          simp only [List.length_nil, Nat.zero_add, Array.length_toList] at hgood
          refine wp_region_any hm ?_
          have S1 : Sim φ { h with next := h.next + m } { w with drawn := w.drawn + 1 } := (S.heap (w' := { w with drawn := w.drawn + 1 }) rfl).congr (fun _ => rfl)
          refine drawn_ok hcall hcfr hgood.1 hgood.2 (fun o ho => by rw [Array.all_eq_true_iff_forall_mem] at o3; exact o3 o ho) Q (T' := r.1) (h' := r.2) (df := a.defers) (φ0 := φ) (h0 := h) (w0 := w) rfl
            ops.size ds _ φ { h with next := h.next + m } _ T a (by omega) (by simp) (fun d hd => ?_) (fun i hi _ => ?_) (fun i o ho hl => ?_) (pairsOk_pairwise o6) (fun d hd => ?_) S1 ?_ (fun d hd q hq => ?_) (Nat.le_refl _) hT hn rfl ?_ hr hK
          · have := (List.all_eq_true.1 o4) d hd
            unfold soleOk at this
            simp only [Bool.and_eq_true, decide_eq_true_eq] at this
            simp [this.1.1.2]
          · rw [List.all_eq_true] at o2
            have := o2 i (List.mem_range.2 hi)
            rw [List.any_eq_true] at this
            obtain ⟨d, hd, he⟩ := this
            exact ⟨d, hd, by simpa using he⟩
          · have : i < ops.size := (Array.getElem?_eq_some_iff.1 ho).1
            simp [this] at hl
          · refine ⟨(List.all_eq_true.1 o4) d hd, by have := (List.all_eq_true.1 o5) d hd; simpa using this, ?_⟩
            rw [← hds] at hd
            obtain ⟨o, g1, g2⟩ := compOs_get hxs _ _ (mkD_mem _ _ _ d hd)
            exact ⟨o, by simpa using g1, g2⟩
          · intro i hi
            exact hf i (by simp only at hi; omega)
          · exact hf _ (Nat.le_add_right _ _)
          · exact ⟨rfl, rfl, rfl, Nat.le_refl _, fun _ _ _ => rfl, .refl φ, fun i l h1 h2 => by simp [h1] at h2, Nat.le_add_right _ _, fun b hb => .inl (hb.congr (fun _ => rfl) (fun _ => rfl))⟩
      · cases hc
  · cases hc
end Go.Ae
