/-
  A run in two: what is known behind its first part may be forgotten, but for what the second part asks.
-/
import Derived.Test.YtmmpnmekiplhfaaGreatAeTop
namespace Go.Ae
open Go Go.RowKit

variable {P : Program}

theorem seqF_ok {nt : Nat} {c1 c2 : Code} {f1 f2 : Tm → H → Option (Ex × Tm × H)} (ih1 : CodeOk P nt c1 f1) (ih2 : CodeOk P nt c2 f2) {φ : Emb} {h : H} {w : World} {T : Tm} {a : Act} {T1 : Tm} {h1 : H} {e : Ex} {T' : Tm} {h' : H} {Q : Exit → Act → World → Prop}
    (S : Sim φ h w) (hf : Fresh φ h) (hT : TR φ T a.tmps) (hn : nt ≤ a.tmps.size) (e1 : f1 T h = some (.normal, T1, h1)) (e2 : f2 T1 h1 = some (e, T', h'))
    (hK : ∀ φ' a' w', Sim φ' h' w' → TR φ' T' a'.tmps → nt ≤ a'.tmps.size → a'.defers = a.defers → Fr φ h w φ' h' w' → Q (toExit e) a' w') : (Code.seq c1 c2).wp P Q a w := by
  refine wp_seq (ih1 φ h w T a .normal T1 h1 _ S hf hT hn e1 ?_)
  intro φ1 a1 w1 S1 hT1 hn1 hd1 F1
  exact ih2 φ1 h1 w1 T1 a1 e T' h' Q S1 (F1.fresh hf) hT1 hn1 e2 (fun φ2 a2 w2 S2 hT2 hn2 hd2 F2 => hK φ2 a2 w2 S2 hT2 hn2 (hd2.trans hd1) (F1.trans F2))

def isJunk : Value → Bool
  | .tuple xs => match xs.toList with
    | [.tuple ys] => ys.isEmpty
    | _ => false
  | _ => false
theorem isJunk_eq {v : Value} (h : isJunk v = true) : v = junk := by
  unfold isJunk at h
  split at h
  · rename_i xs
    split at h
    · rename_i ys e
      obtain rfl : ys = #[] := by simpa using h
      have : xs = #[.tuple #[]] := by apply Array.ext'; rw [e]
      rw [this]
    · cases h
  · cases h

/-- Is the second what is left of the first, some of it forgotten? -/
def wkT : Tr Value → Tr Value → Bool
  | .nil, .nil => true
  | .node l v r, .node l' v' r' => (match v, v' with
    | none, none => true
    | some u, some u' => isJunk u' || veqa u u'
    | _, _ => false) && (wkT l l' && wkT r r')
  | _, _ => false

def wkR (a b : Option Value) : Prop := (b = none ∧ a = none) ∨ ∃ u u', a = some u ∧ b = some u' ∧ (u' = junk ∨ u' = u)
theorem wkT_getF : ∀ (f : Nat) {T T' : Tr Value} (i : Nat), wkT T T' = true → wkR (Tr.getF f T i) (Tr.getF f T' i)
  | 0, _, _, _, _ => .inl ⟨rfl, rfl⟩
  | f + 1, .nil, .nil, _, _ => .inl ⟨rfl, rfl⟩
  | f + 1, .nil, .node _ _ _, _, h => by cases h
  | f + 1, .node _ _ _, .nil, _, h => by cases h
  | f + 1, .node l v r, .node l' v' r', i, h => by
    simp only [wkT, Bool.and_eq_true] at h
    obtain ⟨h0, h1, h2⟩ := h
    simp only [Tr.getF, Tr.cond_beq]
    by_cases c0 : i = 0
    · rw [if_pos c0, if_pos c0]
      split at h0
      · exact .inl ⟨rfl, rfl⟩
      · rename_i u u'
        rw [Bool.or_eq_true] at h0
        exact .inr ⟨u, u', rfl, rfl, h0.imp isJunk_eq fun e => (veqa_eq e).symm⟩
      · cases h0
    · rw [if_neg c0, if_neg c0]
      by_cases c1 : i % 2 = 1
      · rw [if_pos c1, if_pos c1]; exact wkT_getF f _ h1
      · rw [if_neg c1, if_neg c1]; exact wkT_getF f _ h2
theorem wkT_tr {φ : Emb} {T T' : Tm} (h : wkT T T' = true) {t : Array Value} (hT : TR φ T t) : TR φ T' t := by
  intro i
  have hi := hT i
  unfold g at hi ⊢
  rcases wkT_getF (i + 1) i h with ⟨a, b⟩ | ⟨u, u', a, b, e⟩
  · unfold Tr.get at hi ⊢
    rw [a]; rw [b] at hi; exact hi
  · unfold Tr.get at hi ⊢
    rw [b]; rw [a] at hi
    rcases e with rfl | rfl
    · exact .junk _
    · exact hi

/-- A heap without blocks. -/
def Hn (n : Nat) : H := ⟨.nil, fun _ => none, n, .nil⟩
def cutB (T' : Tm) (n : Nat) : Option (Ex × Tm × H) → Bool
  | some (.normal, T, h) => Nat.ble h.next n && wkT T T'
  | _ => false
def cutF (f : Tm → H → Option (Ex × Tm × H)) (T' : Tm) (n : Nat) (T : Tm) (h : H) : Option (Ex × Tm × H) := if cutB T' n (f T h) = true then some (.normal, T', Hn n) else none

theorem cut_ok {nt : Nat} {c : Code} {f : Tm → H → Option (Ex × Tm × H)} {T' : Tm} {n : Nat} (hc : CodeOk P nt c f) : CodeOk P nt c (cutF f T' n) := by
  intro φ h w T a e T2 h2 Q S hf hT hn ev hK
  unfold cutF at ev
  split at ev
  rotate_left
  · cases ev
  rename_i hb
  simp only [Option.some.injEq, Prod.mk.injEq] at ev
  obtain ⟨rfl, rfl, rfl⟩ := ev
  unfold cutB at hb
  split at hb
  · rename_i T1 h1 he
    rw [Bool.and_eq_true] at hb
    have hle : h1.next ≤ n := Nat.le_of_ble_eq_true hb.1
    refine hc φ h w T a .normal T1 h1 Q S hf hT hn he ?_
    intro φ' a' w' S' hT' hn' hd F
    have gn : ∀ i, (Hn n).get i = none := fun i => by unfold H.get Hn; simp [Tr.get_nil]
    have mn : ∀ i, (Hn n).mget i = none := fun i => by unfold H.mget Hn; simp [Tr.get_nil]
    refine hK φ' a' w' ⟨fun i k h => (by rw [gn] at h; cases h), fun i i' k k' l l' _ h => (by rw [gn] at h; cases h), fun i m h => (by rw [mn] at h; cases h), fun i i' k k' l l' _ h => (by rw [mn] at h; cases h)⟩ (wkT_tr hb.2 hT') hn' hd ⟨F.os, F.tape, F.output, F.size, F.kept, F.ext, fun i l x y => ?_, Nat.le_trans F.next hle, fun b ho => ?_⟩
    · have := F.late i l x y
      exact ⟨this.1, Nat.lt_of_lt_of_le this.2 hle⟩
    · rcases ho with ⟨i, k, l, y, _⟩ | ⟨i, m, l, y, _⟩
      · rw [gn] at y; cases y
      · rw [mn] at y; cases y
  · cases hb

/-- Does a run end by returning 'true'? -/
def endsTrue (res : List Rs) : Option (Ex × Tm × H) → Bool
  | some (.ret, T, h) => match evRs T h res with
    | some [.bool true] => true
    | _ => false
  | _ => false

/-- A closed function that answers 'true', its run cut behind its second part. -/
theorem cut_true {tab : FuncId → Option Fn'} (htab : ∀ f c, tab f = some c → compFn P f = some c) {n N f : Nat} {fn : Func} (hfn : P.funcs[f]? = some fn) {c1 c2 c3 : Code} (hbody : fn.body = some (.seq c1 (.seq c2 c3)))
    {x1 x2 x3 : C} (h1 : compC P fn.ntmps c1 = some x1) (h2 : compC P fn.ntmps c2 = some x2) (h3 : compC P fn.ntmps c3 = some x3) {res : List Rs} (hres : compRs P fn.results.toList = some res) {T0 T' : Tm}
    (e1 : evC (evFn ⟨tab, noSpec⟩ n) n x1 .nil H0 = some (.normal, T0, H0)) (e2 : cutB T' N (evC (evFn ⟨tab, noSpec⟩ n) n x2 T0 H0) = true)
    (e3 : endsTrue res (evC (evFn ⟨tab, noSpec⟩ n) n x3 T' (Hn N)) = true) (w : World) :
    Calls P f #[] w fun e w' => e = .returned (.bool true) ∧ Below w.heap.size w w' := by
  have ih : CallOk P (evFn ⟨tab, noSpec⟩ n) := fn_ok (E := ⟨tab, noSpec⟩) htab noSpec_ok n
  have fr := evFn_fr (E := ⟨tab, noSpec⟩) (noSpec_ok (P := P)).fr n
  unfold endsTrue at e3
  split at e3
  · rename_i T2 hh2 ev
    split at e3
    · rename_i hrs
      refine calls_of_wp hfn hbody ?_
      refine seqF_ok (code_ok ih fr n fn.ntmps c1 x1 h1) (f2 := fun T h => (cutF (evC (evFn ⟨tab, noSpec⟩ n) n x2) T' N T h).bind fun r => evC (evFn ⟨tab, noSpec⟩ n) n x3 r.2.1 r.2.2) ?_ (φ := fun _ => none) (Sim.empty w) (fun _ _ => rfl) (a := ⟨#[] ++ Array.replicate (fn.ntmps - (#[] : Array Value).size) undef, []⟩) (fun i => ?_) (by simp) e1 (T' := T2) (h' := hh2) (e := .ret) ?_ ?_
      · intro φ h w T a e T4 h4 Q S hf hT hn ev hK
        cases hcut : cutF (evC (evFn ⟨tab, noSpec⟩ n) n x2) T' N T h with
        | none => simp [hcut] at ev
        | some r =>
          simp only [hcut, Option.bind_some] at ev
          have hr : r = (.normal, T', Hn N) := by
            unfold cutF at hcut
            split at hcut
            · cases hcut; rfl
            · cases hcut
          subst hr
          exact seqF_ok (cut_ok (code_ok ih fr n fn.ntmps c2 x2 h2)) (code_ok ih fr n fn.ntmps c3 x3 h3) S hf hT hn hcut ev hK
      · have : g (.nil : Tm) i = undef := by unfold g; rw [Tr.get_nil]
        rw [this]
        have : (#[] ++ Array.replicate (fn.ntmps - (#[] : Array Value).size) undef).getD i undef = undef := by
          simp only [Array.empty_append, Array.getD_eq_getD_getElem?, Array.getElem?_replicate]; split <;> rfl
        rw [this]
        exact .undef _
      · have : cutF (evC (evFn ⟨tab, noSpec⟩ n) n x2) T' N T0 H0 = some (.normal, T', Hn N) := by unfold cutF; rw [if_pos e2]
        simp only [this, Option.bind_some]
        exact ev
      · intro φ1 a1 w1 S1 hT1 hn1 hd1 F1
        obtain ⟨v', g1, g2⟩ := results_run S1 hT1 hres hrs
        refine ⟨hd1, v', g1, ?_, F1.below fun b _ => Owns.empty b⟩
        cases g2.bool_inv
        rfl
    · cases e3
  · cases e3

end Go.Ae
