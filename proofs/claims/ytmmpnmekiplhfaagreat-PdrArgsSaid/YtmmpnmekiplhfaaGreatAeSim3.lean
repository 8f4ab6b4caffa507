/-
  Each operation that is no call does in the machine what the evaluator says of it: slices, append, rows of zeros.
-/
import Derived.Test.YtmmpnmekiplhfaaGreatAeSim2
namespace Go.Ae
open Go

variable {P : Program} {φ : Emb} {h : H} {w : World}

/-- An optional bound. -/
def OptIs : Option Value → Option Nat → Prop
  | none, none => True
  | some v, some n => ∃ k, v = .int k (n : Int)
  | _, _ => False

theorem optNat_inv {x : Option Operand} {ρ ρ' : Operand → Value} {n : Option Nat} (hx : ∀ o, x = some o → VR φ (ρ o) (ρ' o)) (e : optNat (x.map ρ) = some n) : OptIs (x.map ρ') n := by
  cases x with
  | none => simp [optNat] at e; subst e; trivial
  | some o =>
    simp only [Option.map_some, optNat] at e
    cases hn : natOf (ρ o) with
    | none => simp [hn] at e
    | some m =>
      simp [hn] at e
      subst e
      obtain ⟨k, h1, _⟩ := natOf_inv hn (hx o rfl)
      exact ⟨k, h1⟩

theorem sliceBound_run {k : IntKind} {n y : Nat} {c : BoundsCode} (hn : n ≤ y) : (Instr.sliceBound (.int k (n : Int)) y c).run P w = .ok n w := by
  have h1 : (0 : Int) ≤ n ∧ (n : Int) ≤ y := ⟨by omega, by omega⟩
  simp [Instr.sliceBound, asIntOf, h1]

theorem sliceBounds_run {len cap : Nat} {lo hi mx : Option Value} {lo' hi' mx' : Option Nat} (h1 : OptIs lo lo') (h2 : OptIs hi hi') (h3 : OptIs mx mx')
    (hb : lo'.getD 0 ≤ hi'.getD len ∧ hi'.getD len ≤ mx'.getD cap ∧ mx'.getD cap ≤ cap) (hm : mx'.isSome = true → hi'.isSome = true) :
    (Instr.sliceBounds true len cap lo hi mx).run P w = .ok (lo'.getD 0, hi'.getD len, mx'.getD cap) w := by
  obtain ⟨b1, b2, b3⟩ := hb
  rcases mx with _ | mx <;> rcases mx' with _ | m <;> try (exact h3.elim)
  · rcases hi with _ | hi <;> rcases hi' with _ | hh <;> try (exact h2.elim)
    · rcases lo with _ | lo <;> rcases lo' with _ | l <;> try (exact h1.elim)
      · simp [Instr.sliceBounds]
      · obtain ⟨k, rfl⟩ := h1
        simp only [Option.getD_some, Option.getD_none] at b1 b2 b3 ⊢
        simp [Instr.sliceBounds, sliceBound_run b1]
    · obtain ⟨k2, rfl⟩ := h2
      simp only [Option.getD_some, Option.getD_none] at b1 b2 b3
      rcases lo with _ | lo <;> rcases lo' with _ | l <;> try (exact h1.elim)
      · simp [Instr.sliceBounds, sliceBound_run b2]
      · obtain ⟨k, rfl⟩ := h1
        simp only [Option.getD_some] at b1
        simp [Instr.sliceBounds, sliceBound_run b2, sliceBound_run b1]
  · obtain ⟨k3, rfl⟩ := h3
    rcases hi with _ | hi <;> rcases hi' with _ | hh <;> try (exact h2.elim)
    · simp at hm
    · obtain ⟨k2, rfl⟩ := h2
      simp only [Option.getD_some] at b1 b2 b3
      rcases lo with _ | lo <;> rcases lo' with _ | l <;> try (exact h1.elim)
      · simp [Instr.sliceBounds, sliceBound_run b2, sliceBound_run b3]
      · obtain ⟨k, rfl⟩ := h1
        simp only [Option.getD_some] at b1
        simp [Instr.sliceBounds, sliceBound_run b2, sliceBound_run b1, sliceBound_run b3]

theorem add_off (a b : Nat) (n : Nat) : Addr.add ⟨a, b, none⟩ n = ⟨a, b + n, none⟩ := by
  unfold Addr.add; split
  · rename_i e; subst e; rfl
  · rfl

theorem slc_run {t e : TypeId} {i : TypeInfo} {x x' v : Value} {lo hi mx : Option Value} {lo' hi' mx' : Option Nat} (hu : P.underlying t = some (.slice e)) (hi0 : P.info? e = some i)
    (hx : VR φ x x') (h1 : OptIs lo lo') (h2 : OptIs hi hi') (h3 : OptIs mx mx') (hm : mx'.isSome = true → hi'.isSome = true) (ev : slc i.size x lo' hi' mx' = some v) :
    ∃ v', (Instr.sliceAt t x' lo hi mx).run P w = .ok v' w ∧ VR φ v v' := by
  have main : ∀ (a : Option Addr) (len cap : Nat), (lo'.getD 0 ≤ hi'.getD len ∧ hi'.getD len ≤ mx'.getD cap ∧ mx'.getD cap ≤ cap) →
      (Instr.sliceAt t (.slice a len cap) lo hi mx).run P w =
        .ok (.slice (if mx'.getD cap = lo'.getD 0 then a else a.map (·.add (lo'.getD 0 * i.size))) (hi'.getD len - lo'.getD 0) (mx'.getD cap - lo'.getD 0)) w := by
    intro a len cap hb
    simp only [Instr.sliceAt, Instr.slice, Sem.run_bind, run_under hu, Result.andThen_ok, sliceBounds_run h1 h2 h3 hb hm, run_size hi0, Sem.run_pure]
  unfold slc at ev
  split at ev
  · rename_i len cap
    cases hx
    simp only at ev
    split at ev
    · rename_i hb
      cases ev
      exact ⟨_, main _ _ _ hb, by split <;> exact .sl0 _ _⟩
    · cases ev
  · rename_i ii o len cap
    simp only at ev
    split at ev
    · rename_i hb
      cases ev
      cases hx with
      | sl hl =>
        refine ⟨_, main _ _ _ hb, ?_⟩
        by_cases hml : mx'.getD cap = lo'.getD 0
        · rw [if_pos hml, if_pos hml]; exact .sl hl
        · rw [if_neg hml, if_neg hml]
          simp only [Option.map_some, add_off, Nat.add_assoc]
          exact .sl hl
    · cases ev
  · rename_i ii o s len cap
    simp only at ev
    split at ev
    · rename_i hb
      obtain ⟨rfl, hb⟩ := hb
      cases hx with
      | slx hl hn hc ha hs =>
        rename_i cap' l a
        cases mx' with
        | none =>
          simp only [Option.getD_none] at ev hb
          cases ev
          have hb' : lo'.getD 0 ≤ hi'.getD len ∧ hi'.getD len ≤ (none : Option Nat).getD cap' ∧ (none : Option Nat).getD cap' ≤ cap' := by
            simp only [Option.getD_none]; omega
          refine ⟨_, main _ _ _ hb', ?_⟩
          simp only [Option.getD_none]
          by_cases hml : cap' = lo'.getD 0
          · rw [if_pos hml]
            exact .slx hl (by omega) (by omega) (.inl (by omega)) (by
              have e0 : cap' - lo'.getD 0 = 0 := by omega
              rw [e0, ← hml, Nat.zero_mul]; omega)
          · rw [if_neg hml]
            simp only [Option.map_some]
            refine .slx hl (by omega) (by omega) ?_ ?_
            · rcases ha with h0 | rfl
              · omega
              · right; rw [add_off, Nat.add_assoc]
            · have : cap' * i.size = lo'.getD 0 * i.size + (cap' - lo'.getD 0) * i.size := by
                rw [← Nat.add_mul]; congr 1; omega
              omega
        | some m =>
          simp only [Option.getD_some] at ev hb
          split at ev
          · cases ev
          · rename_i hz
            cases ev
            have hb' : lo'.getD 0 ≤ hi'.getD len ∧ hi'.getD len ≤ (some m).getD cap' ∧ (some m).getD cap' ≤ cap' := by
              simp only [Option.getD_some]; omega
            refine ⟨_, main _ _ _ hb', ?_⟩
            rcases ha with h0 | rfl
            · omega
            · simp only [Option.getD_some]
              by_cases hml : m = lo'.getD 0
              · rw [if_pos hml, if_pos hml]; exact .sl hl
              · rw [if_neg hml, if_neg hml]
                simp only [Option.map_some, add_off, Nat.add_assoc]
                exact .sl hl
    · cases ev
  · cases ev

theorem reps_length (n : Nat) (z : List Value) : (reps n z).length = n * z.length := by
  unfold reps
  split
  · simp
  · simp
  · simp [List.length_flatten, List.map_replicate, List.sum_replicate_nat]

theorem flat_get (z : List Value) : ∀ (n j : Nat), j < n * z.length → ((List.replicate n z).flatten)[j]? = z[j % z.length]? := by
  intro n
  induction n with
  | zero => intro j h; omega
  | succ n ih =>
    intro j h
    rw [List.replicate_succ, List.flatten_cons, List.getElem?_append]
    by_cases hj : j < z.length
    · rw [if_pos hj, Nat.mod_eq_of_lt hj]
    · have h' : j < n * z.length + z.length := by rw [← Nat.succ_mul]; exact h
      rw [if_neg hj, ih (j - z.length) (by omega)]
      congr 1
      exact (Nat.mod_eq_sub_mod (by omega)).symm

theorem reps_get (n : Nat) (z : List Value) (j : Nat) (h : j < n * z.length) : (reps n z)[j]? = z[j % z.length]? := by
  unfold reps
  split
  · simp at h
  · simp at h; simp [h, Nat.mod_one]
  · exact flat_get z n j h

theorem zeros_rel {z : Array Value} (hz : ∀ v ∈ z.toList, plain v = true) (n : Nat) (N : Nat) (hN : N = n * z.size) :
    VRs φ (reps n z.toList) ((Array.range N).map fun i => z[i % z.size]!).toList := by
  subst hN
  refine ⟨by simp [reps_length], fun j x y hx hy => ?_⟩
  have hj : j < n * z.size := by
    have := (List.getElem?_eq_some_iff.1 hx).1
    rw [reps_length] at this
    simpa using this
  rw [reps_get n z.toList j (by simpa using hj)] at hx
  simp only [Array.length_toList] at hx
  have hpos : 0 < z.size := by
    rcases Nat.eq_zero_or_pos z.size with h0 | h0
    · rw [h0] at hj; simp at hj
    · exact h0
  have hlt : j % z.size < z.size := Nat.mod_lt _ hpos
  simp [hj] at hy
  rw [Array.getElem?_toList] at hx
  have hx' : z[j % z.size]! = x := by
    rw [getElem!_pos z _ hlt]
    have := (Array.getElem?_eq_some_iff.1 hx)
    exact this.2
  rw [hx'] at hy
  subst hy
  exact .plain (hz x (List.mem_of_getElem? (by rw [Array.getElem?_toList]; exact hx)))

theorem firstCells_run (S : Sim φ h w) {sz n : Nat} {y y' : Value} {cs : List Value} (hv : VR φ y y') (hn : ∀ m, lenOf y = some m → n ≤ m) (e : cellsOf h sz n y = some cs) :
    ∃ cs', (Builtin.firstCells sz n y').run P w = .ok cs' w ∧ VRs φ cs cs'.toList ∧ cs'.size = n * sz := by
  unfold cellsOf at e
  split at e
  · rename_i i o sp ln c
    split at e
    · rename_i h0
      cases e
      refine ⟨#[], ?_, .nil φ, by simp [h0]⟩
      cases hv <;> simp [Builtin.firstCells, h0, loadCells, loadCellsFrom]
    · rename_i h0
      have hex : ∃ l cap', φ i = some l ∧ y' = .slice (some ⟨l.blk, l.base + o, none⟩) ln cap' := by
        cases hv with
        | sl hl => exact ⟨_, _, hl, rfl⟩
        | slx hl hm hc ha hs =>
          rcases ha with ha | rfl
          · have := hn ln rfl
            exfalso
            have : n = 0 := by omega
            subst this
            simp at h0
          · exact ⟨_, _, hl, rfl⟩
      obtain ⟨l, cap', hl, rfl⟩ := hex
      obtain ⟨vs', hlen, hc, hr⟩ := S.lds e hl
      refine ⟨vs'.toArray, ?_, by simpa using hr, by simpa using hlen⟩
      have := loadCells_run (P := P) (w := w) l.blk (l.base + o) (n * sz) 0 #[] vs' hlen (by simpa using hc)
      simp only [Builtin.firstCells, loadCells, this]
      simp
  · rename_i ln c
    split at e
    · rename_i h0
      cases e
      cases hv
      exact ⟨#[], by simp [Builtin.firstCells], .nil φ, by simp [h0]⟩
    · cases e
  · cases e
end Go.Ae
