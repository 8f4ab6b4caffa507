/-
  Each operation that is no call does in the machine what the evaluator says of it: the operations that leave memory alone.
-/
import Derived.Test.YtmmpnmekiplhfaaGreatAeSim
namespace Go.Ae
open Go

theorem VR.bool_inv {φ : Emb} {b : Bool} {v : Value} (h : VR φ (.bool b) v) : v = .bool b := by cases h; rfl
theorem VR.int_inv {φ : Emb} {k : IntKind} {n : Int} {v : Value} (h : VR φ (.int k n) v) : v = .int k n := by cases h; rfl
theorem VR.string_inv {φ : Emb} {s : ByteArray} {v : Value} (h : VR φ (.string s) v) : v = .string s := by cases h; rfl

variable {P : Program} {φ : Emb} {h : H} {w : World} {ρ ρ' : Operand → Value}

theorem natOf_inv {φ : Emb} {v v' : Value} {n : Nat} (e : natOf v = some n) (hv : VR φ v v') : ∃ k, v' = .int k (n : Int) ∧ v = .int k (n : Int) := by
  unfold natOf at e
  split at e
  · rename_i k m
    split at e
    · rename_i hm
      cases e
      have := hv.int_inv
      subst this
      have e2 : ((m.toNat : Nat) : Int) = m := Int.toNat_of_nonneg hm
      exact ⟨k, by rw [e2], by rw [e2]⟩
    · cases e
  · cases e

theorem bin_run {op : BinOp} {t : TypeId} {x y : Operand} {a b a' b' v : Value} (_ht : isInt P t = true) (ha : VR φ a a') (hb : VR φ b b') (e : bin op a b = some v) :
    (do eqGuard op t x y a' b'; binOp op t a' b' : Sem Value).run P w = .ok v w ∧ VR φ v v := by
  unfold bin at e
  split at e
  · rename_i k m k' n
    cases ha.int_inv
    cases hb.int_inv
    have hs : (op = .shl ∨ op = .shr) ∨ (op ≠ .shl ∧ op ≠ .shr) := by cases op <;> simp
    have hg : eqGuard op t x y (.int k m) (.int k' n) = pure () := eqGuard_at_int _ _ _ _ _ _ _
    rw [hg]
    rcases hs with hs | hs
    · rcases hs with rfl | rfl
      · simp only [shf] at e
        split at e
        · cases e
        · rename_i hn
          cases e
          refine ⟨?_, .int _ _⟩
          simp [binOp, Op.shift, hn]
      · simp only [shf] at e
        split at e
        · cases e
        · rename_i hn
          cases e
          refine ⟨?_, .int _ _⟩
          simp [binOp, Op.shift, hn]
    · have e' : k = k' ∧ binI op k m n = some v := by
        cases op
        case shl => exact absurd rfl hs.1
        case shr => exact absurd rfl hs.2
        all_goals
          change (if k = k' then _ else none) = some v at e
          exact (if hkk : k = k' then ⟨hkk, (if_pos hkk).symm.trans e⟩ else by rw [if_neg hkk] at e; cases e)
      clear e
      obtain ⟨rfl, e⟩ := e'
      cases op
      case quo =>
        simp only [binI] at e
        split at e
        · cases e
        · rename_i hz
          cases e
          exact ⟨by simp [binOp, Op.intDiv, hz], .int _ _⟩
      case rem =>
        simp only [binI] at e
        split at e
        · cases e
        · rename_i hz
          cases e
          exact ⟨by simp [binOp, Op.intDiv, hz], .int _ _⟩
      case shl => exact absurd rfl hs.1
      case shr => exact absurd rfl hs.2
      all_goals
        simp only [binI, Option.some.injEq] at e
        subst e
        refine ⟨?_, ?_⟩
        · simp [binOp, Op.intArith, Op.intBits, Op.intCmp]
        · first | exact .int _ _ | exact .bool _
  · cases e

theorem beq_run {t : TypeId} {x y : Operand} {a' b' : Value} {a b : Bool} (ht : isBool P t = true) (ha : VR φ (.bool a) a') (hb : VR φ (.bool b) b') (neg : Bool) :
    (do eqGuard (if neg then .neq else .eql) t x y a' b'; binOp (if neg then .neq else .eql) t a' b' : Sem Value).run P w = .ok (.bool ((a == b) != neg)) w := by
  cases ha.bool_inv
  cases hb.bool_inv
  rw [eqGuard_at_bool]
  unfold isBool at ht
  split at ht
  · rename_i hu
    have he : ∀ d, (Op.equalIn (d + 1) t (.bool a) (.bool b)).run P w = .ok (a == b) w := fun d => by simp [Op.equalIn, run_under hu]
    have hq : (Op.equal t (.bool a) (.bool b)).run P w = .ok (a == b) w := he 9999
    cases neg <;> simp [binOp, hq]
  · cases ht

theorem nilEq_inv {k : Nat} {u v u' v' : Value} {b : Bool} (e : nilEq k u v = some b) (hu : VR φ u u') (hv : VR φ v v') : nilEq k u' v' = some b := by
  unfold nilEq at e
  split at e <;> cases e <;> cases hu <;> cases hv <;> rfl

theorem nil_guard {op : BinOp} {t : TypeId} {x y : Operand} {k : Nat} {u v : Value} {b : Bool} (hc : (nilConst x || nilConst y) = true) (e : nilEq k u v = some b) :
    eqGuard op t x y u v = pure () := by
  unfold nilEq at e
  split at e <;> first | (cases op <;> rfl) | (cases e; done) | skip
  · simp only [Bool.or_eq_true] at hc
    rcases hc with hc | hc
    · cases x <;> first | (cases op <;> rfl) | (simp [nilConst] at hc)
    · cases y <;> first | (cases op <;> cases x <;> rfl) | (simp [nilConst] at hc)

theorem nil_run {t : TypeId} {x y : Operand} {k : Nat} {u v : Value} {b : Bool} (hk : nilKind P t = some k) (hc : (nilConst x || nilConst y) = true) (e : nilEq k u v = some b) (neg : Bool) :
    (do eqGuard (if neg then .neq else .eql) t x y u v; binOp (if neg then .neq else .eql) t u v : Sem Value).run P w = .ok (.bool (b != neg)) w := by
  rw [nil_guard hc e]
  have he : ∀ d, (Op.equalIn (d + 1) t u v).run P w = .ok b w := by
    intro d
    unfold nilKind at hk
    unfold nilEq at e
    split at e <;> cases e <;> split at hk <;> cases hk <;> rename_i hu <;> simp [Op.equalIn, run_under hu]
  have hq : (Op.equal t u v).run P w = .ok b w := he 9999
  have hb : binOp (if neg then .neq else .eql) t u v = (do pure (.bool ((← Op.equal t u v) != neg)) : Sem Value) := by
    unfold nilEq at e
    split at e <;> cases e <;> cases neg <;> simp [binOp]
  rw [hb]
  simp [hq]

theorem un_run {op : UnOp} {a a' v : Value} (ha : VR φ a a') (e : un op a = some v) : (Op.unary op a').run P w = .ok v w ∧ VR φ v v := by
  unfold un at e
  split at e
  · cases e; cases ha.int_inv; exact ⟨by simp [Op.unary, Op.intArith], .int _ _⟩
  · cases ha.int_inv
    simp only [binI, Option.some.injEq] at e
    subst e
    exact ⟨by simp only [Op.unary, Op.intBits, Sem.run_pure], .int _ _⟩
  · cases e; cases ha.bool_inv; exact ⟨by simp [Op.unary], .bool _⟩
  · cases e

theorem mm_run {isMax : Bool} : ∀ (xs xs' : List Value) (k : IntKind) (a : Int) (v : Value), VRs φ xs xs' → mmI isMax k a xs = some v →
    (xs'.foldlM (if isMax then Builtin.max2 else Builtin.min2) (.int k a) : Sem Value).run P w = .ok v w ∧ VR φ v v := by
  intro xs
  induction xs with
  | nil =>
    intro xs' k a v hx e
    have : xs' = [] := List.eq_nil_of_length_eq_zero (by simpa using hx.1.symm)
    subst this
    simp only [mmI, Option.some.injEq] at e
    subst e
    exact ⟨by simp, .int _ _⟩
  | cons x xs ih =>
    intro xs' k a v hx e
    cases xs' with
    | nil => have := hx.1; simp at this
    | cons x' xs' =>
      cases x <;> simp only [mmI] at e <;> try (cases e; done)
      rename_i k' b
      cases hx.head.int_inv
      obtain ⟨h1, h2⟩ := ih xs' k _ v hx.tail e
      refine ⟨?_, h2⟩
      rw [List.foldlM_cons]
      cases isMax <;> simp only [Bool.false_eq_true, if_false, if_true] at h1 ⊢ <;>
        simp only [Sem.run_bind, Builtin.max2, Builtin.min2, Sem.run_pure, Result.andThen_ok] <;> exact h1

theorem part_run {t : TypeId} {n : Option Nat} {off : Nat} {a v : Value} {cs' : Array Value} (hf : ldForm P t = some n) (ha : VR φ a (.agg cs')) (e : fld off n a = some v) :
    ∃ v', (part t cs' off).run P w = .ok v' w ∧ VR φ v v' := by
  unfold fld at e
  split at e
  · rename_i cs
    have hcs : VRs φ cs.toList cs'.toList := by
      cases ha with | agg h hi => exact VRs.ofArray h hi
    have hag : (isAgg t).run P w = .ok n.isSome w := by
      unfold ldForm at hf
      split at hf
      · rename_i hd
        cases hi : P.info? t <;> simp [hi] at hf
        subst hf
        simp [isAgg, run_under hd]
      · rename_i hd
        cases hi : P.info? t <;> simp [hi] at hf
        subst hf
        simp [isAgg, run_under hd]
      · rename_i d hs ha hd
        cases hf
        simp only [isAgg, Sem.run_bind, run_under hd, Result.andThen_ok]
        cases d <;> first | rfl | (exfalso; exact hs _ rfl) | (exfalso; exact ha _ _ rfl)
      · cases hf
    cases n with
    | none =>
      simp only at e
      have hlen := hcs.1
      have hlt : off < cs.size := (Array.getElem?_eq_some_iff.1 e).1
      refine ⟨cs'[off]'(by simpa using (show off < cs'.toList.length by simp at hlen ⊢; omega)), ?_, hcs.2 off v _ (by simpa using e) (by simp)⟩
      simp [part, hag, show off < cs'.size by simp at hlen; omega]
    | some m =>
      simp only at e
      split at e
      · rename_i hle
        cases e
        have hsz : (sizeOf t).run P w = .ok m w := by
          unfold ldForm at hf
          split at hf
          · cases hi : P.info? t with
            | none => simp [hi] at hf
            | some i => simp [hi] at hf; rw [run_size hi, hf]
          · cases hi : P.info? t with
            | none => simp [hi] at hf
            | some i => simp [hi] at hf; rw [run_size hi, hf]
          · cases hf
          · cases hf
        refine ⟨.agg (cs'.extract off (off + m)), by simp [part, hag, hsz], .agg' ?_⟩
        rw [Array.toList_extract, Array.toList_extract, List.extract_eq_take_drop, List.extract_eq_take_drop]
        exact (hcs.drop _).take _
      · cases e
  · cases e
end Go.Ae
