/-
  THE EVALUATOR IS SOUND: what it answers of a function, the machine's call does, in every world that the abstract heap stands for.
-/
import Derived.Test.YtmmpnmekiplhfaaGreatAeSim6
namespace Go.Ae
open Go

/-- A contract: where the answer is told, the machine's call comes to it. -/
def CallOk (P : Program) (call : CallF) : Prop :=
  ∀ f args h v h', call f args h = some (v, h') → (∃ fn, P.funcs[f]? = some fn ∧ enters fn = true) ∧
    ∀ (φ : Emb) (w : World) (args' : List Value), Sim φ h w → Fresh φ h → VRs φ args args' →
      Calls P f args'.toArray w fun e w' => ∃ φ' v', e = .returned v' ∧ VR φ' v v' ∧ Sim φ' h' w' ∧ Fr φ h w φ' h' w'

/-- The temporaries: place by place. -/
def TR (φ : Emb) (T : Tm) (t : Array Value) : Prop := ∀ i, VR φ (g T i) (t.getD i undef)

theorem TR.mono {φ ψ : Emb} (hle : φ.le ψ) {T : Tm} {t : Array Value} (h : TR φ T t) : TR ψ T t := fun i => (h i).mono hle

theorem g_put (T : Tm) (d : Nat) (v : Value) (i : Nat) : g (T.put d v) i = if i = d then v else g T i := by
  unfold g
  rw [Tr.get_put]
  by_cases e : i = d <;> simp [e]

theorem dstOk_mono {n m : Nat} (h : n ≤ m) {d : Option Nat} (k : dstOk n d = true) : dstOk m d = true := by
  cases d with
  | none => rfl
  | some d => simp only [dstOk, decide_eq_true_eq] at k ⊢; omega

theorem TR.put {φ : Emb} {T : Tm} {t : Array Value} (h : TR φ T t) {d : Nat} (hd : d < t.size) {v v' : Value} (hv : VR φ v v') : TR φ (T.put d v) (t.setIfInBounds d v') := by
  intro i
  rw [g_put]
  by_cases e : i = d
  · subst e
    rw [if_pos rfl]
    simp [hd, hv]
  · rw [if_neg e]
    have : (t.setIfInBounds d v').getD i undef = t.getD i undef := by
      simp only [Array.getD_eq_getD_getElem?]
      rw [Array.getElem?_setIfInBounds_ne (Ne.symm e)]
    rw [this]
    exact h i

theorem TR.set {φ : Emb} {T : Tm} {a : Act} (h : TR φ T a.tmps) {dst : Option Nat} (hd : dstOk a.tmps.size dst = true) {v v' : Value} (hv : VR φ v v') :
    TR φ (T.set dst v) (a.put dst v').tmps := by
  cases dst with
  | none => exact h
  | some d => exact h.put (by simpa [dstOk] using hd) hv

theorem TR.rho {φ : Emb} {T : Tm} {a : Act} (h : TR φ T a.tmps) (x : Operand) (hx : okOpd x = true) : VR φ (rho T x) (a.eval x) := by
  cases x with
  | tmp t => exact h t
  | const v => exact .closed hx
  | global gl => exact .junk _
  | func f => exact .func _ rfl (fun j h => absurd h (by simp)) rfl (fun j h => absurd h (by simp))

theorem VRs.map {φ : Emb} {ρ ρ' : Operand → Value} {xs : List Operand} (h : ∀ x ∈ xs, VR φ (ρ x) (ρ' x)) : VRs φ (xs.map ρ) (xs.map ρ') := by
  refine ⟨by simp, fun j u v hu hv => ?_⟩
  rw [List.getElem?_map] at hu hv
  cases hj : xs[j]? with
  | none => simp [hj] at hu
  | some y => simp [hj] at hu hv; subst hu; subst hv; exact h y (List.mem_of_getElem? hj)

theorem put_size (a : Act) (dst : Option Nat) (v : Value) : (a.put dst v).tmps.size = a.tmps.size := by
  cases dst <;> simp [Act.put]
theorem put_defers (a : Act) (dst : Option Nat) (v : Value) : (a.put dst v).defers = a.defers := by
  cases dst <;> rfl

variable {P : Program}

theorem callFunc_run {f : FuncId} {fn : Func} (hf : P.funcs[f]? = some fn) (he : enters fn = true) (args : Array Value) (w : World) : (callFunc f args).run P w = .ok (.enter f args) w := by
  unfold enters at he
  simp only [Bool.and_eq_true, Bool.not_eq_true', Option.isSome_iff_exists] at he
  obtain ⟨⟨c, hc⟩, hn⟩ := he
  simp [callFunc, hf, hc, show ¬ fn.name = "runtime.NumGoroutine" by simpa using hn]

theorem findT_some : ∀ {l : List (TypeId × FuncId × Option (Option Nat))} {t : TypeId} {r : FuncId × Option (Option Nat)}, findT l t = some r → (t, r.1, r.2) ∈ l := by
  intro l
  induction l with
  | nil => intro t r e; cases e
  | cons p l ih =>
    intro t r e
    obtain ⟨u, f, m⟩ := p
    simp only [findT, Tr.cond_beq] at e
    split at e
    · rename_i hu
      cases e
      subst hu
      exact List.mem_cons_self
    · exact List.mem_cons_of_mem _ (ih e)

theorem methodAt_fst {name : String} {s : TypeId} {r : TypeId × FuncId × Option (Option Nat)} (h : methodAt P name s = some r) : r.1 = s := by
  unfold methodAt at h
  split at h
  · cases h
  · split at h
    · cases h
    · split at h
      · cases h; rfl
      · rename_i e _ _ _
        cases hl : ldForm P e with
        | none => simp [hl] at h
        | some n => simp [hl] at h; subst h; rfl
      · cases h
      · cases h; rfl
      · cases h

theorem methodsOf_some {name : String} {t : TypeId} {r : FuncId × Option (Option Nat)} (h : findT (methodsOf P name) t = some r) : methodAt P name t = some (t, r.1, r.2) := by
  have := findT_some h
  unfold methodsOf at this
  rw [List.mem_filterMap] at this
  obtain ⟨s, _, hs⟩ := this
  have := methodAt_fst hs
  simp only at this
  subst this
  exact hs

theorem nilchk_run (xt : TypeId) (a : Addr) (s m : ByteArray) (w : World) :
    (Builtin.ssaWrapNilChk_ #[xt] xt #[.pointer (some a), .string s, .string m]).run P w = .ok (.pointer (some a)) w := rfl

/-- The method that an interface's dynamic type has: its receiver. -/
theorem method_run {name : String} {t : TypeId} {f : FuncId} {m : Option (Option Nat)} (hm : methodAt P name t = some (t, f, m)) {φ : Emb} {h : H} {w : World} (S : Sim φ h w) {v v' : Value} (hv : VR φ v v') :
    (m = none → ∀ k, (method (k + 1) t v' name).run P w = .ok (f, v') w) ∧
    (∀ p u, m = some none → adr v = some p → h.ld p.1 p.2 = some u → ∃ u', (∀ k, (method (k + 1) t v' name).run P w = .ok (f, u') w) ∧ VR φ u u') ∧
    (∀ p n us, m = some (some n) → adr v = some p → h.lds p.1 p.2 n = some us → ∃ u', (∀ k, (method (k + 1) t v' name).run P w = .ok (f, u') w) ∧ VR φ (.agg us.toArray) u') := by
  unfold methodAt at hm
  split at hm
  · cases hm
  · rename_i i hi
    split at hm
    · cases hm
    · rename_i me hfind
      have base : ∀ (k : Nat) (Q : Result (FuncId × Value)), ((do
          match me.func with
          | none =>
            match ← (Place.val v').get t with
            | .iface t' v' => method k t' v' name
            | .nilIface => runtimePanic .nilDeref
            | _ => stuck "method row: interface value expected"
          | some (f, pointerReceiver) => pure (f, ← receiverAt t (.val v') pointerReceiver (if me.path.isEmpty then some ((name.splitOn ".").getLastD name) else none)) : Sem (FuncId × Value))).run P w = Q → me.path.isEmpty = true →
          (method (k + 1) t v' name).run P w = Q := by
        intro k Q hQ hp
        have hpl : me.path.toList = [] := by simpa using hp
        simp only [method, Sem.run_bind, run_info hi, Result.andThen_ok, hfind, hpl, follow, Sem.run_pure]
        exact hQ
      cases hp : me.path.isEmpty with
      | false => simp [hp] at hm
      | true =>
        cases hfn : me.func with
        | none => simp [hp, hfn] at hm
        | some fp =>
          obtain ⟨f', ptr⟩ := fp
          cases hu : P.underlying t with
          | none => cases ptr <;> simp [hp, hfn, hu] at hm
          | some d =>
            simp only [hp, hfn, hu] at hm
            by_cases hd : ∃ e, d = .pointer e
            · obtain ⟨e, rfl⟩ := hd
              cases ptr with
              | true =>
                simp only [Option.some.injEq, Prod.mk.injEq, true_and] at hm
                obtain ⟨rfl, rfl⟩ := hm
                refine ⟨fun _ k => base k _ ?_ hp, (fun p u h => by cases h), (fun p n us h => by cases h)⟩
                simp [hfn, receiverAt, run_under hu, Place.get]
              | false =>
                cases hl : ldForm P e with
                | none => simp [hl] at hm
                | some n =>
                  simp only [hl, Option.map_some, Option.some.injEq, Prod.mk.injEq, true_and] at hm
                  obtain ⟨rfl, rfl⟩ := hm
                  refine ⟨(fun h => by cases h), fun p u hn ha hld => ?_, fun p n us hn ha hld => ?_⟩
                  · cases hn
                    obtain ⟨l, hlo, rfl⟩ := adr_some hv ha
                    obtain ⟨u', h1, h2⟩ := S.ld hld hlo
                    refine ⟨u', fun k => base k _ ?_ hp, h2⟩
                    simp [hfn, receiverAt, run_under hu, Place.get, hp, strVal, nilchk_run, asAddr, loadVar_one hl h1]
                  · cases hn
                    obtain ⟨l, hlo, rfl⟩ := adr_some hv ha
                    obtain ⟨us', h0, h1, h2⟩ := S.lds hld hlo
                    refine ⟨.agg us'.toArray, fun k => base k _ ?_ hp, .agg' (by simpa using h2)⟩
                    simp [hfn, receiverAt, run_under hu, Place.get, hp, strVal, nilchk_run, asAddr, loadVar_agg hl h0 h1]
            · cases ptr with
              | true => cases d <;> first | (exact absurd ⟨_, rfl⟩ hd) | (simp at hm)
              | false =>
                have hm' : m = none ∧ f = f' := by
                  cases d <;> first | (exact absurd ⟨_, rfl⟩ hd) | (simp at hm; done) | (simp at hm; exact ⟨hm.2.symm, hm.1.symm⟩)
                obtain ⟨rfl, rfl⟩ := hm'
                refine ⟨fun _ k => base k _ ?_ hp, (fun p u h => by cases h), (fun p n us h => by cases h)⟩
                cases d <;> first | (exact absurd ⟨_, rfl⟩ hd) | (simp [hfn, receiverAt, run_under hu, Place.get])

theorem findE_some {t : TypeId} {o : Nat} : ∀ {l : List (TypeId × Nat)}, findE l t = some o → (t, o) ∈ l
  | [], h => by cases h
  | (s, p) :: r, h => by
    simp only [findE] at h
    cases hb : Nat.beq s t with
    | true =>
      rw [hb] at h
      simp only [cond_true, Option.some.injEq] at h
      subst h
      rw [Nat.eq_of_beq_eq_true hb]
      exact List.mem_cons_self
    | false =>
      rw [hb] at h
      exact List.mem_cons_of_mem _ (findE_some h)
theorem embedAt_fst {name : String} {s : TypeId} {r : TypeId × Nat} (h : embedAt P name s = some r) : r.1 = s := by
  unfold embedAt at h
  repeat (split at h <;> first | (cases h; done) | skip)
  cases h; rfl

/-- What is asked for a method, and what the machine asks. -/
theorem unw_run {name : String} {t : TypeId} {φ : Emb} {w : World} {v v' u : Value} (hv : VR φ v v') (e : unw (embedsOf P name) v = .iface t u) :
    ∃ t0 u0' u', v' = .iface t0 u0' ∧ VR φ u u' ∧ ∀ r, (∀ k, (method (k + 1) t u' name).run P w = .ok r w) → ∀ k, (method (k + 2) t0 u0' name).run P w = .ok r w := by
  unfold unw at e
  split at e
  · rename_i t0 xs
    cases hv with
    | iface _ hu =>
      rename_i u0'
      cases hf : findE (embedsOf P name) t0 with
      | none =>
        simp only [hf] at e
        cases e
        exact ⟨_, _, _, rfl, hu, fun r h k => h (k + 1)⟩
      | some o =>
        simp only [hf] at e
        cases hx : xs[o]? with
        | none => simp [hx, undef] at e
        | some c =>
          simp only [hx] at e
          split at e
          · rename_i s z hz
            cases hz
            cases e
            have hm := findE_some hf
            unfold embedsOf at hm
            rw [List.mem_filterMap] at hm
            obtain ⟨t1, _, he⟩ := hm
            have := embedAt_fst he
            simp only at this
            subst this
            obtain ⟨xs', rfl⟩ := VR.agg_inv hu
            unfold embedAt at he
            split at he
            · cases he
            · rename_i i hi
              split at he
              · cases he
              · rename_i me hfind
                split at he
                · rename_i st hpath hfun
                  split at he
                  · rename_i fs hd hu2
                    split at he
                    · rename_i f hfs
                      split at he
                      · rename_i hl
                        simp only [Option.some.injEq, Prod.mk.injEq, true_and] at he
                        subst he
                        obtain ⟨c', h1, h2⟩ := agg_at (P := P) (w := w) hu hx hl
                        cases h2 with
                        | iface _ hz =>
                          rename_i z'
                          refine ⟨_, _, z', rfl, hz, fun r h k => ?_⟩
                          have step : (method (k + 2) t0 (.agg xs') name).run P w = (method (k + 1) t z' name).run P w := by
                            conv => lhs; unfold method
                            simp [run_info hi, hfind, hpath, follow, run_under hu2, hfs, hd, h1, hfun, Place.get]
                          rw [step]
                          exact h k
                      · cases he
                    · cases he
                  · cases he
                · cases he
          · simp [undef] at e
  · subst e
    cases hv with
    | iface _ hu => exact ⟨_, _, _, rfl, hu, fun r h k => h (k + 1)⟩

/-- One operation of a region: the machine's step behind it. -/
theorem op_wp {call : CallF} (hcall : CallOk P call) {nt : Nat} {ops : Array Oper} {o : Oper} {x : O} (hc : compO P nt ops o = some x) {φ : Emb} {h : H} {w : World} {T : Tm} {a : Act}
    (S : Sim φ h w) (hf : φ h.next = none) (hfr : (∀ i, x.k ≠ .op i) → Fresh φ h) (hT : TR φ T a.tmps) (hn : nt ≤ a.tmps.size) {v : Value} {h' : H} (ev : evK call (rho T) h x.k = some (v, h')) (K : Act → World → Prop) (Q : Exit → Act → World → Prop)
    (hK : ∀ φ' a' w', Sim φ' h' w' → TR φ' (T.set x.dst v) a'.tmps → nt ≤ a'.tmps.size → a'.defers = a.defers → Fr φ h w φ' h' w' → K a' w') : o.wp P a w K Q := by
  unfold compO at hc
  split at hc
  rotate_left
  · cases hc
  rename_i hcond
  obtain ⟨hok, hdst⟩ := hcond
  cases hg : compG ops o.guard with
  | none => simp [hg] at hc
  | some gd =>
    cases hk : compK P o with
    | none => simp [hg, hk] at hc
    | some k =>
      simp only [hg, hk, Option.bind_some, Option.map_some, Option.some.injEq] at hc
      subst hc
      simp only at ev hK
      have hρ : ∀ x, okOpd x = true → VR φ (rho T x) (a.eval x) := fun x hx => hT.rho x hx
      have hdst' : dstOk a.tmps.size o.dst = true := dstOk_mono hn hdst
      have hop : ∀ i, comp P o = some i → k = .op i → o.wp P a w K Q := by
        intro i hi hki
        subst hki
        simp only [evK] at ev
        obtain ⟨φ', w', v', hr, S', hv', F⟩ := sim_comp S hf hi hok hρ ev
        unfold Oper.wp
        rcases hr with hr | ⟨hr, rfl⟩
        · rw [hr]
          exact hK φ' _ w' S' ((hT.mono F.ext).set hdst' hv') (by rw [put_size]; exact hn) (put_defers _ _ _) F
        · rw [hr]
          exact hK φ' _ w' S' ((hT.mono F.ext).set hdst' hv') (by rw [put_size]; exact hn) (put_defers _ _ _) F
      have hok' : ∀ x ∈ o.op.operands, okOpd x = true := by
        rw [Array.all_eq_true_iff_forall_mem] at hok; exact hok
      have henter : (∀ i, k ≠ .op i) → ∀ f (args args' : List Value), call f args h = some (v, h') → VRs φ args args' → (execOp a.eval o).run P w = (callFunc f args'.toArray).run P w → o.wp P a w K Q := by
        intro hk f args args' hcl hargs hrun
        obtain ⟨⟨fn, hfn, he⟩, hcalls⟩ := hcall f args h v h' hcl
        unfold Oper.wp
        rw [hrun, callFunc_run hfn he]
        refine Calls.mono (hcalls φ w args' S (hfr hk) hargs) ?_
        rintro e w' ⟨φ', v', rfl, hv', S', F⟩
        exact hK φ' _ w' S' ((hT.mono F.ext).set hdst' hv') (by rw [put_size]; exact hn) (put_defers _ _ _) F
      unfold compK at hk
      split at hk
      · rename_i f args ts heq
        simp only [Option.some.injEq] at hk
        subst hk
        simp only [evK] at ev
        refine henter (by intro i e; cases e) f _ (args.toList.map a.eval) ev (VRs.map fun x hx => hρ x (hok' x (by simp [heq, Op.operands, Call.operands]; right; simpa using hx))) ?_
        obtain ⟨al⟩ := args
        simp [execOp, heq, resolve, Act.eval, Deferred.ofValue, invoke]
      · rename_i y args ts hnf heq
        simp only [Option.some.injEq] at hk
        subst hk
        simp only [evK] at ev
        split at ev
        · rename_i f xs cs he
          have hy := hρ y (hok' y (by simp [heq, Op.operands, Call.operands]))
          rw [he] at hy
          generalize hyv : a.eval y = yv at hy
          cases hy with
          | func _ h1 h2 h3 h4 =>
            rename_i ys ds
            refine henter (by intro i e; cases e) f _ (ys.toList ++ args.toList.map a.eval ++ ds.toList) ev
              (((VRs.ofArray h1 h2).append (VRs.map fun x hx => hρ x (hok' x (by simp [heq, Op.operands, Call.operands]; right; simpa using hx)))).append (VRs.ofArray h3 h4)) ?_
            simp only [execOp, heq, resolve, hyv, Deferred.ofValue, Sem.run_bind, Sem.run_pure, Result.andThen_ok, invoke]
            congr 2
            apply Array.ext'
            simp
        · cases ev
      · rename_i y name args ts heq
        simp only [Option.some.injEq] at hk
        subst hk
        simp only [evK] at ev
        split at ev
        · rename_i t u he
          have hy := hρ y (hok' y (by simp [heq, Op.operands, Call.operands]))
          obtain ⟨t0, u0', u', hyv, hu, hdeep⟩ := unw_run (P := P) (w := w) hy he
          have hargs : VRs φ (args.toList.map (rho T)) (args.toList.map a.eval) :=
            VRs.map fun x hx => hρ x (hok' x (by simp [heq, Op.operands, Call.operands]; right; simpa using hx))
          cases hft : findT (methodsOf P name) t with
          | none => simp [hft] at ev
          | some fm =>
            simp only [hft, Option.bind_some] at ev
            have hm := methodsOf_some hft
            obtain ⟨m1, m2, m3⟩ := method_run hm S hu
            have hrun : ∀ r', (∀ k, (method (k + 1) t u' name).run P w = .ok (fm.1, r') w) →
                (execOp a.eval o).run P w = (callFunc fm.1 (r' :: args.toList.map a.eval).toArray).run P w := by
              intro r' hr0
              have hr : (method (P.types.size + Made.depth) t0 u0' name).run P w = .ok (fm.1, r') w := hdeep _ hr0 (P.types.size + 98)
              have e1 : (#[Value.iface t0 u0'] ++ Array.map a.eval args)[0]? = some (.iface t0 u0') := by
                rw [Array.getElem?_append]; simp
              have e2 : (#[Value.iface t0 u0'] ++ Array.map a.eval args).extract 1 (#[Value.iface t0 u0'] ++ Array.map a.eval args).size = Array.map a.eval args := by
                apply Array.ext'
                simp
                exact List.take_of_length_le (by simp)
              have e3 : #[r'] ++ Array.map a.eval args = (r' :: args.toList.map a.eval).toArray := by
                apply Array.ext'
                simp
              simp only [execOp, heq, resolve, hyv, Sem.run_bind, Sem.run_pure, Result.andThen_ok, invoke, e1, e2, callMethod, run_program, hr, e3]
            obtain ⟨f, m⟩ := fm
            cases m with
            | none => exact henter (by intro i e; cases e) f _ _ ev (VRs.cons hu hargs) (hrun u' (m1 rfl))
            | some n =>
              simp only at ev
              cases ha : adr u with
              | none => simp [ha] at ev
              | some p =>
                simp only [ha, Option.bind_some] at ev
                cases n with
                | none =>
                  simp only at ev
                  cases hld : h.ld p.1 p.2 with
                  | none => simp [hld] at ev
                  | some r =>
                    simp only [hld, Option.bind_some] at ev
                    obtain ⟨r', h1, h2⟩ := m2 p r rfl ha hld
                    exact henter (by intro i e; cases e) f _ _ ev (VRs.cons h2 hargs) (hrun r' h1)
                | some n =>
                  simp only at ev
                  cases hld : h.lds p.1 p.2 n with
                  | none => simp [hld] at ev
                  | some rs =>
                    simp only [hld, Option.bind_some] at ev
                    obtain ⟨r', h1, h2⟩ := m3 p n rs rfl ha hld
                    exact henter (by intro i e; cases e) f _ _ ev (VRs.cons h2 hargs) (hrun r' h1)
        · cases ev
      · rename_i h1 h2 h3
        cases hi : comp P o with
        | none => simp [hi] at hk
        | some i =>
          simp only [hi, Option.map_some, Option.some.injEq] at hk
          exact hop i hi hk.symm
end Go.Ae
