/-
  From what the evaluator says of a law to the machine's call: it returns true, and nothing that was there has turned.
-/
import Derived.Test.YtmmpnmekiplhfaaGreatAeFn
import Derived.RowKit
import Derived.Carry
import Derived.ProofKit
import Derived.OpenShut
import Derived.ShutString
namespace Go.Ae
open Go Go.RowKit Go.ChangeShapes Go.WideShapes Go.ChangeAt

variable {P : Program}

theorem Fr.below {φ φ' : Emb} {h h' : H} {w w' : World} (F : Fr φ h w φ' h' w') (hro : ∀ b, b < w.heap.size → ¬ Owns φ h b) : Below w.heap.size w w' :=
  ⟨F.os, F.tape, F.output, F.size, fun k hk => F.kept k hk (hro k hk)⟩

/-- What the evaluator answers with 'true', from a heap of which nothing may be written. -/
theorem call_true {E : Env} (hE : ∀ f c, E.fns f = some c → compFn P f = some c) (hspec : SpecOk P E.spec) {n f : Nat} {args : List Value} {h : H} (ev : saysTrue (evFn E n f args h) = true) {φ : Emb} {w : World} (S : Sim φ h w) (hf : Fresh φ h)
    (hro : ∀ b, b < w.heap.size → ¬ Owns φ h b) {args' : List Value} (ha : VRs φ args args') :
    Calls P f args'.toArray w fun e w' => e = .returned (.bool true) ∧ Below w.heap.size w w' := by
  cases hr : evFn E n f args h with
  | none => rw [hr] at ev; cases ev
  | some r =>
    obtain ⟨v, h'⟩ := r
    rw [hr] at ev
    have hv : v = .bool true := by
      unfold saysTrue at ev
      split at ev
      · rename_i he; simp only [Option.some.injEq, Prod.mk.injEq] at he; exact he.1
      · cases ev
    subst hv
    refine Calls.mono ((fn_ok hE hspec n f args h _ h' hr).2 φ w args' S hf ha) ?_
    rintro e w' ⟨φ', v', rfl, hv, _, F⟩
    cases hv.bool_inv
    exact ⟨rfl, F.below hro⟩

theorem Sim.empty (w : World) : Sim (fun _ => none) H0 w := by
  have hg : ∀ i, H0.get i = none := fun i => by unfold H.get H0; simp [Tr.get_nil]
  have hm : ∀ i, H0.mget i = none := fun i => by unfold H.mget H0; simp [Tr.get_nil]
  exact ⟨fun i k h => (by rw [hg] at h; cases h), fun i i' k k' l l' _ h => (by rw [hg] at h; cases h), fun i m h => (by rw [hm] at h; cases h), fun i i' k k' l l' _ h => (by rw [hm] at h; cases h)⟩
theorem Owns.empty (b : Nat) : ¬ Owns (fun _ => none) H0 b := by
  rintro (⟨i, k, l, _, _, h, _⟩ | ⟨i, m, l, _, h, _⟩)
  · cases h
  · cases h

/-- A law over plain values, from the empty heap. -/
theorem plain_true {spec : FuncId → List Value → H → Option (Value × H)} (hspec : SpecOk P spec) {n f : Nat} {args : List Value} (hp : ∀ v ∈ args, plain v = true)
    (ev : saysTrue (evFn (env P spec) n f args H0) = true) (w : World) : Calls P f args.toArray w fun e w' => e = .returned (.bool true) ∧ Below w.heap.size w w' :=
  call_true (E := env P spec) (fun _ _ h => h) hspec ev (Sim.empty w) (fun _ _ => rfl) (fun b _ => Owns.empty b) (VRs.plain hp)

/-- Two tables, one behind the other. -/
def orTab (t1 t2 : FuncId → Option Fn') (f : FuncId) : Option Fn' := match t1 f with | some c => some c | none => t2 f
theorem orTab_ok {t1 t2 : FuncId → Option Fn'} (h1 : ∀ f c, t1 f = some c → compFn P f = some c) (h2 : ∀ f c, t2 f = some c → compFn P f = some c) (f : FuncId) (c : Fn') (h : orTab t1 t2 f = some c) : compFn P f = some c := by
  unfold orTab at h
  cases e : t1 f with
  | none => rw [e] at h; exact h2 f c h
  | some c' => rw [e] at h; cases h; exact h1 f _ e

/-- The same, by a table of codes. -/
theorem table_true {tab : FuncId → Option Fn'} (htab : ∀ f c, tab f = some c → compFn P f = some c) {n f : Nat} {args : List Value} (hp : ∀ v ∈ args, plain v = true)
    (ev : saysTrue (evFn ⟨tab, noSpec⟩ n f args H0) = true) (w : World) : Calls P f args.toArray w fun e w' => e = .returned (.bool true) ∧ Below w.heap.size w w' :=
  call_true (E := ⟨tab, noSpec⟩) htab noSpec_ok ev (Sim.empty w) (fun _ _ => rfl) (fun b _ => Owns.empty b) (VRs.plain hp)

/-- A function without parameters that answers 'true' in every world, as a contract. -/
def trueSpec (f : FuncId) : FuncId → List Value → H → Option (Value × H)
  | f', [], h => cond (Nat.beq f' f) (some (.bool true, h)) none
  | _, _ :: _, _ => none

theorem trueSpec_ok {f : FuncId} (hent : ∃ fn, P.funcs[f]? = some fn ∧ enters fn = true) (hc : ∀ w, Calls P f #[] w fun e w' => e = .returned (.bool true) ∧ Below w.heap.size w w') : SpecOk P (trueSpec f) := by
  refine ⟨?_, ⟨fun f' xs h v h' j b e hj hlt => ?_, fun f' xs h j b e => ?_⟩⟩
  rotate_left
  · cases xs with
    | cons x xs => cases e
    | nil =>
      simp only [trueSpec, Tr.cond_beq] at e ⊢
      split at e
      · rename_i hff
        rw [if_pos hff]
        simp only [Option.some.injEq, Prod.mk.injEq] at e ⊢
        obtain ⟨rfl, rfl⟩ := e
        exact ⟨hj, Nat.le_refl _, rfl, rfl⟩
      · cases e
  · cases xs with
    | cons x xs => rfl
    | nil =>
      simp only [trueSpec, Tr.cond_beq] at e ⊢
      split at e
      · cases e
      · rename_i hff; rw [if_neg hff]
  intro f' args h v h' e
  cases args with
  | cons x xs => cases e
  | nil =>
    simp only [trueSpec, Tr.cond_beq] at e
    split at e
    · rename_i hff
      subst hff
      simp only [Option.some.injEq, Prod.mk.injEq] at e
      obtain ⟨rfl, rfl⟩ := e
      refine ⟨hent, fun φ w args' S hf ha => ?_⟩
      have : args' = [] := List.eq_nil_of_length_eq_zero (by simpa using ha.1.symm)
      subst this
      refine Calls.mono (hc w) ?_
      rintro e w' ⟨rfl, hb⟩
      have blt : ∀ i k l, h.get i = some k → φ i = some l → l.blk < w.heap.size := by
        intro i k l hk hl
        obtain ⟨l', hl', c, t, fz, hc, _⟩ := S.bears i k hk
        rw [hl] at hl'; cases hl'
        exact (Array.getElem?_eq_some_iff.1 hc).1
      refine ⟨φ, .bool true, rfl, .bool true, ⟨fun i k hk => ?_, S.apart, fun i m hm => ?_, S.mapart⟩, ⟨hb.os, hb.tape, hb.output, hb.size, fun b hb' _ => hb.block b hb', .refl φ, fun i l h1 h2 => by simp [h1] at h2, Nat.le_refl _, fun b ho => .inl ho⟩⟩
      · obtain ⟨l, hl, B⟩ := S.bears i k hk
        exact ⟨l, hl, B.heap (hb.block _ (blt i k l hk hl))⟩
      · obtain ⟨l, hl, hc⟩ := S.maps i m hm
        exact ⟨l, hl, by rw [hb.block _ (Array.getElem?_eq_some_iff.1 hc).1]; exact hc⟩
    · cases e

/-- The law's own 'post', of a law whose call returns true and leaves alone what was there. -/
theorem trodAll_below {H : Type} {enc : TypeId × Value → H} (hl : laidOutB P = true) {W W' : World} (hb : Below W.heap.size W W') : ∀ (ts : List TypeId) (vs : List Value) (ds : List (DataW H)) (ps : List MemPlace),
    (ts.all fun t => P.readableRec t && decide (t < P.types.size)) = true → DataW.TrodAll enc P W 0 (fun _ => true) true ts vs ds ps → (∀ x ∈ ps, x.block < W.heap.size) →
    DataW.TrodAll enc P W' 0 (fun b => decide (b < W.heap.size)) true ts vs ds ps := by
  intro ts
  induction ts with
  | nil =>
    intro vs ds ps _ h hlt
    obtain ⟨rfl, rfl, rfl⟩ := trodAll_nil h
    exact trodAll_mk0
  | cons t ts ih =>
    intro vs ds ps hts h hlt
    obtain ⟨v, vs', d, ds', p, q, rfl, rfl, rfl, h0, h1⟩ := trodAll_cons h
    simp only [List.all_cons, Bool.and_eq_true, decide_eq_true_eq] at hts
    exact trodAll_cons_mk (Below.trod hl hts.1.1 hts.1.2 h0 hb (fun x hx => hlt x (List.mem_append_left _ hx))) (ih vs' ds' q hts.2 h1 (fun x hx => hlt x (List.mem_append_right _ hx)))
end Go.Ae
