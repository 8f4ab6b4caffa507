/-
  THE PLAIN LAW of tallies: in each model of a tally's clauses the i-th out holds just where more than i of the literals hold; and whatever the variables below are, there is a model. No program is run.
-/
import Derived.Test.YtnejnaoehcahbaaTally7
import Derived.Test.YtnejnaoehcahbaaRef13b
namespace Go.Proofs.Ytnejnaoehcahbaa
open Go Go.Ae Go.Ae.Sat13

/-- Literals of variables below n. -/
def Bel (n : Int) (ls : List Int) : Prop := ∀ x ∈ ls, x ≠ 0 ∧ -n < x ∧ x < n
def cnt (t : Int → Bool) (ls : List Int) : Nat := (ls.filter fun x => litT t x).length

theorem Bel.mono {n m : Int} {ls : List Int} (b : Bel n ls) (h : n ≤ m) : Bel m ls := fun x hx => by have := b x hx; omega
theorem litT_congr {t t' : Int → Bool} {n x : Int} (h : ∀ v, v < n → t' v = t v) (hx : -n < x ∧ x < n) : litT t' x = litT t x := by
  unfold litT; split
  · rw [h _ (by omega)]
  · rw [h _ (by omega)]
theorem cnt_congr {t t' : Int → Bool} {n : Int} {ls : List Int} (h : ∀ v, v < n → t' v = t v) (b : Bel n ls) : cnt t' ls = cnt t ls := by
  unfold cnt
  congr 1
  exact List.filter_congr fun x hx => litT_congr h (b x hx).2
theorem cnt_append (t : Int → Bool) (l1 l2 : List Int) : cnt t (l1 ++ l2) = cnt t l1 + cnt t l2 := by simp [cnt]
theorem cnt_le (t : Int → Bool) (ls : List Int) : cnt t ls ≤ ls.length := List.length_filter_le _ _

theorem mem_no0 {x : Int} {ls : List Int} : x ∈ no0 ls ↔ x ∈ ls ∧ x ≠ 0 := by simp [no0]

theorem neg_of {n x : Int} (h : n ≤ 1000000000000) (hx : -n < x ∧ x < n) : neg x = -x := by
  show IntKind.i64.wrap (0 - x) = -x
  rw [wrap_id (by omega) (by omega)]; omega

theorem mem_joinC {c : List Int} {a b out : List Int} : c ∈ joinC a b out ↔ ∃ i k, i ≤ a.length ∧ k ≤ b.length ∧ (c ∈ cl1 a b out i k ∨ c ∈ cl2 a b out i k) := by
  simp only [joinC, joinTo, rowC, List.mem_flatMap, List.mem_range, List.mem_append]
  constructor
  · rintro ⟨i, hi, k, hk, h⟩; exact ⟨i, k, by omega, by omega, h⟩
  · rintro ⟨i, k, hi, hk, h⟩; exact ⟨i, by omega, k, by omega, h⟩

/-- What a row of outs tells: the i-th holds just where i is less than p. -/
structure Tells (t : Int → Bool) (n : Int) (o : Nat) (a : List Int) (p : Nat) : Prop where
  bel : Bel n a
  tell : ∀ i (hi : i < a.length), litT t a[i] = decide (i < p)
  all : p ≤ a.length ∨ a.length = o

theorem Tells.notP {t : Int → Bool} {n : Int} {o p i : Nat} {a : List Int} (T : Tells t n o a p) (hn : n ≤ 1000000000000) (h1 : 1 ≤ i) (h2 : i ≤ a.length) : notP a i ≠ 0 ∧ -n < notP a i ∧ notP a i < n ∧ litT t (notP a i) = decide (p < i) := by
  have hm := List.getElem_mem (show i - 1 < a.length by omega)
  have hb := T.bel _ hm
  have e : Proofs.Ytnejnaoehcahbaa.notP a i = -a[i - 1] := by
    unfold Proofs.Ytnejnaoehcahbaa.notP
    rw [if_neg (by omega), List.getD_eq_getElem?_getD, List.getElem?_eq_getElem (by omega), Option.getD_some, neg_of hn hb.2]
  rw [e, litT_neg hb.1, T.tell]
  refine ⟨by omega, by omega, by omega, ?_⟩
  rw [Bool.eq_iff_iff]
  simp
  omega

theorem getD_at {a : List Int} {i : Nat} (h : i < a.length) : a.getD i 0 = a[i] := by rw [List.getD_eq_getElem?_getD, List.getElem?_eq_getElem h, Option.getD_some]
theorem getD_no {a : List Int} {i : Nat} (h : a.length ≤ i) : a.getD i 0 = 0 := by rw [List.getD_eq_getElem?_getD, List.getElem?_eq_none h, Option.getD_none]

section
variable {t : Int → Bool} {n : Int} {o p q : Nat} {a b out : List Int}

/-- Where all clauses of join hold, the new outs tell the sum. -/
theorem join_tells (hn : n ≤ 1000000000000) (A : Tells t n o a p) (B : Tells t n o b q) (hout : out.length = min (a.length + b.length) o) (hbo : Bel n out) (hc : ∀ c ∈ joinC a b out, ∃ x ∈ c, litT t x = true) :
    ∀ j (hj : j < out.length), litT t out[j] = decide (j < p + q) := by
  intro j hj
  have a1 := A.all
  have b1 := B.all
  have hbj := hbo _ (List.getElem_mem hj)
  by_cases h : j < p + q
  · obtain ⟨i, k, hi, hi2, hk, hk2, hik⟩ : ∃ i k, i ≤ p ∧ i ≤ a.length ∧ k ≤ q ∧ k ≤ b.length ∧ i + k = j + 1 := by
      by_cases h1 : min p a.length ≤ j + 1
      · exact ⟨min p a.length, j + 1 - min p a.length, by omega, by omega, by omega, by omega, by omega⟩
      · exact ⟨j + 1, 0, by omega, by omega, by omega, by omega, by omega⟩
    have hm : min (i + k) out.length = j + 1 := by omega
    obtain ⟨x, hx, ht⟩ := hc _ (mem_joinC.2 ⟨i, k, hi2, hk2, .inl (by rw [cl1, if_pos (by omega)]; exact List.mem_singleton.2 rfl)⟩)
    rw [mem_no0, hm, Nat.add_sub_cancel, getD_at hj] at hx
    obtain ⟨hx, hx0⟩ := hx
    simp only [List.mem_cons, List.not_mem_nil, or_false] at hx
    rcases hx with rfl | rfl | rfl
    · by_cases h0 : i = 0
      · subst h0; exact absurd rfl hx0
      · rw [(A.notP hn (by omega) hi2).2.2.2] at ht; simp at ht; omega
    · by_cases h0 : k = 0
      · subst h0; exact absurd rfl hx0
      · rw [(B.notP hn (by omega) hk2).2.2.2] at ht; simp at ht; omega
    · rw [ht]; simp [h]
  · obtain ⟨i, k, hi, hi2, hk, hk2, hik⟩ : ∃ i k, p ≤ i ∧ i ≤ a.length ∧ q ≤ k ∧ k ≤ b.length ∧ i + k = j := by
      by_cases h1 : j - q ≤ a.length
      · exact ⟨j - q, q, by omega, by omega, by omega, by omega, by omega⟩
      · exact ⟨a.length, j - a.length, by omega, by omega, by omega, by omega, by omega⟩
    obtain ⟨x, hx, ht⟩ := hc _ (mem_joinC.2 ⟨i, k, hi2, hk2, .inr (by rw [cl2, if_pos (by omega)]; exact List.mem_singleton.2 rfl)⟩)
    rw [mem_no0, hik, getD_at hj, neg_of hn hbj.2] at hx
    obtain ⟨hx, hx0⟩ := hx
    simp only [List.mem_cons, List.not_mem_nil, or_false] at hx
    rcases hx with rfl | rfl | rfl
    · by_cases h0 : i < a.length
      · rw [getD_at h0, A.tell] at ht; simp at ht; omega
      · exact absurd (getD_no (by omega)) hx0
    · by_cases h0 : k < b.length
      · rw [getD_at h0, B.tell] at ht; simp at ht; omega
      · exact absurd (getD_no (by omega)) hx0
    · rw [litT_neg hbj.1] at ht; simp at ht; rw [ht]; simp [h]

/-- Where the new outs tell the sum, all clauses of join hold. -/
theorem join_holds (hn : n ≤ 1000000000000) (A : Tells t n o a p) (B : Tells t n o b q) (hout : out.length = min (a.length + b.length) o) (hbo : Bel n out) (ht : ∀ j (hj : j < out.length), litT t out[j] = decide (j < p + q)) :
    ∀ c ∈ joinC a b out, ∃ x ∈ c, litT t x = true := by
  intro c hc
  have a1 := A.all
  have b1 := B.all
  obtain ⟨i, k, hi, hk, hc⟩ := mem_joinC.1 hc
  rcases hc with hc | hc
  · unfold cl1 at hc
    split at hc
    · rename_i hm
      rw [List.mem_singleton] at hc
      subst hc
      have hj : min (i + k) out.length - 1 < out.length := by omega
      have hbj := hbo _ (List.getElem_mem hj)
      by_cases h1 : p < i
      · obtain ⟨h2, _, _, h3⟩ := A.notP hn (show 1 ≤ i by omega) hi
        exact ⟨_, mem_no0.2 ⟨by simp, h2⟩, by rw [h3]; simp [h1]⟩
      by_cases h2 : q < k
      · obtain ⟨h2', _, _, h3⟩ := B.notP hn (show 1 ≤ k by omega) hk
        exact ⟨notP b k, mem_no0.2 ⟨by simp, h2'⟩, by rw [h3]; simp [h2]⟩
      refine ⟨out[min (i + k) out.length - 1], mem_no0.2 ⟨by rw [getD_at hj]; simp, hbj.1⟩, ?_⟩
      rw [ht _ hj, decide_eq_true]
      omega
    · cases hc
  · unfold cl2 at hc
    split at hc
    · rename_i hm
      rw [List.mem_singleton] at hc
      subst hc
      have hj : i + k < out.length := by omega
      have hbj := hbo _ (List.getElem_mem hj)
      by_cases h1 : i < a.length ∧ i < p
      · exact ⟨a[i], mem_no0.2 ⟨by rw [getD_at h1.1]; simp, (A.bel _ (List.getElem_mem h1.1)).1⟩, by rw [A.tell]; simp [h1.2]⟩
      by_cases h2 : k < b.length ∧ k < q
      · exact ⟨b[k], mem_no0.2 ⟨by rw [getD_at h2.1]; simp, (B.bel _ (List.getElem_mem h2.1)).1⟩, by rw [B.tell]; simp [h2.2]⟩
      refine ⟨-out[i + k], mem_no0.2 ⟨by rw [getD_at hj, neg_of hn hbj.2]; simp, by omega⟩, ?_⟩
      rw [litT_neg hbj.1, ht _ hj]
      simp
      omega
    · cases hc

/-- The clauses of join are of the variables below. -/
theorem join_bel (hn : n ≤ 1000000000000) (ha : Bel n a) (hb : Bel n b) (hbo : Bel n out) : ∀ c ∈ joinC a b out, Bel n c ∧ c.length ≤ 3 := by
  have key : ∀ (a : List Int), Bel n a → ∀ i, (a.getD i 0 ≠ 0 → -n < a.getD i 0 ∧ a.getD i 0 < n) := fun a ha i h0 => by
    by_cases hi : i < a.length
    · rw [getD_at hi] at h0 ⊢; exact (ha _ (List.getElem_mem hi)).2
    · exact absurd (getD_no (by omega)) h0
  have key2 : ∀ (a : List Int), Bel n a → ∀ i, (neg (a.getD i 0) ≠ 0 → -n < neg (a.getD i 0) ∧ neg (a.getD i 0) < n) := fun a ha i h0 => by
    by_cases hi : a.getD i 0 = 0
    · rw [hi] at h0; exact absurd (by decide) h0
    · have := key a ha i hi
      rw [neg_of hn this]; omega
  have key3 : ∀ (a : List Int), Bel n a → ∀ i, (notP a i ≠ 0 → -n < notP a i ∧ notP a i < n) := fun a ha i h0 => by
    unfold notP at h0 ⊢
    split at h0
    · exact absurd rfl h0
    · rw [if_neg ‹_›]; exact key2 a ha _ h0
  intro c hc
  obtain ⟨i, k, hi, hk, hc⟩ := mem_joinC.1 hc
  rcases hc with hc | hc
  · unfold cl1 at hc
    split at hc
    · rw [List.mem_singleton] at hc
      subst hc
      refine ⟨fun x hx => ?_, List.length_filter_le _ _⟩
      obtain ⟨hx, h0⟩ := mem_no0.1 hx
      simp only [List.mem_cons, List.not_mem_nil, or_false] at hx
      rcases hx with rfl | rfl | rfl
      · exact ⟨h0, key3 a ha i h0⟩
      · exact ⟨h0, key3 b hb k h0⟩
      · exact ⟨h0, key out hbo _ h0⟩
    · cases hc
  · unfold cl2 at hc
    split at hc
    · rw [List.mem_singleton] at hc
      subst hc
      refine ⟨fun x hx => ?_, List.length_filter_le _ _⟩
      obtain ⟨hx, h0⟩ := mem_no0.1 hx
      simp only [List.mem_cons, List.not_mem_nil, or_false] at hx
      rcases hx with rfl | rfl | rfl
      · exact ⟨h0, key a ha i h0⟩
      · exact ⟨h0, key b hb k h0⟩
      · exact ⟨h0, key2 out hbo _ h0⟩
    · cases hc
end

structure Law (o : Nat) (ls : List Int) (n : Int) (out : List Int) (C : List (List Int)) (n' : Int) : Prop where
  le : n ≤ n'
  len : out.length = min ls.length o
  bel : Bel n' out
  cl : ∀ d ∈ C, Bel n' d ∧ d.length ≤ 3
  tells : ∀ t, (∀ d ∈ C, ∃ x ∈ d, litT t x = true) → ∀ i (hi : i < out.length), litT t out[i] = decide (i < cnt t ls)
  has : ∀ t : Int → Bool, ∃ t' : Int → Bool, (∀ v, v < n → t' v = t v) ∧ ∀ d ∈ C, ∃ x ∈ d, litT t' x = true

theorem sat_congr {t t' : Int → Bool} {n : Int} {C : List (List Int)} (h : ∀ v, v < n → t' v = t v) (hb : ∀ d ∈ C, Bel n d) (hs : ∀ d ∈ C, ∃ x ∈ d, litT t x = true) : ∀ d ∈ C, ∃ x ∈ d, litT t' x = true := fun d hd => by
  obtain ⟨x, hx, ht⟩ := hs d hd
  exact ⟨x, hx, by rw [litT_congr h (hb d hd x hx).2]; exact ht⟩

theorem outL_at {next : Int} {m j : Nat} (hj : j < (outL next m).length) : (outL next m)[j] = next + j := by simp [outL]

theorem Cnt.law {o : Nat} {ls out : List Int} {n n' : Int} {C : List (List Int)} (c : Cnt o ls n out C n') (ho : 1 ≤ o) (hn : 1 ≤ n) (hb : Bel n ls) (hn' : n' ≤ 1000000000000) : Law o ls n out C n' := by
  induction c with
  | one x next =>
    refine ⟨Int.le_refl _, by simp; omega, hb, by simp, fun t _ i hi => ?_, fun t => ⟨t, fun _ _ => rfl, by simp⟩⟩
    simp only [List.length_singleton] at hi
    obtain rfl : i = 0 := by omega
    simp only [List.getElem_cons_zero, cnt, List.filter_cons, List.filter_nil]
    cases litT t x <;> rfl
  | @two l1 l2 n0 n1 n2 a b C1 C2 h1 h2 c1 c2 i1 i2 =>
    obtain ⟨m, hm⟩ : ∃ m, m = min (a.length + b.length) o := ⟨_, rfl⟩
    rw [← hm] at hn' ⊢
    have hb1 : Bel n0 l1 := fun x hx => hb x (List.mem_append_left _ hx)
    have hb2 : Bel n0 l2 := fun x hx => hb x (List.mem_append_right _ hx)
    -- the next variables only grow
    have grow : ∀ {o ls n out C n'}, Cnt o ls n out C n' → n ≤ n' := fun c => by
      induction c with
      | one => exact Int.le_refl _
      | two _ _ _ _ j1 j2 => omega
    have g1 := grow c1
    have g2 := grow c2
    have L1 := i1 hn hb1 (by omega)
    have L2 := i2 (by omega) (hb2.mono g1) (by omega)
    have hlen : (outL n2 m).length = min (a.length + b.length) o := by rw [outL_length, hm]
    have hbo : Bel (n2 + m) (outL n2 m) := fun x hx => by
      simp only [outL, List.mem_map, List.mem_range] at hx
      obtain ⟨j, hj, rfl⟩ := hx
      omega
    have e1 := L1.len
    have e2 := L2.len
    have TA : ∀ t, (∀ d ∈ C1, ∃ x ∈ d, litT t x = true) → Tells t (n2 + m) o a (cnt t l1) := fun t hs => ⟨L1.bel.mono (by omega), L1.tells t hs, by have := cnt_le t l1; omega⟩
    have TB : ∀ t, (∀ d ∈ C2, ∃ x ∈ d, litT t x = true) → Tells t (n2 + m) o b (cnt t l2) := fun t hs => ⟨L2.bel.mono (by omega), L2.tells t hs, by have := cnt_le t l2; omega⟩
    refine ⟨by omega, by rw [hlen, List.length_append]; omega, hbo, fun d hd => ?_, fun t hs => ?_, fun t => ?_⟩
    · rw [List.mem_append, List.mem_append] at hd
      rcases hd with (hd | hd) | hd
      · have := L1.cl d hd; exact ⟨this.1.mono (by omega), this.2⟩
      · have := L2.cl d hd; exact ⟨this.1.mono (by omega), this.2⟩
      · exact join_bel hn' (L1.bel.mono (by omega)) (L2.bel.mono (by omega)) hbo d hd
    · rw [cnt_append]
      exact join_tells hn' (TA t fun d hd => hs d (by simp [hd])) (TB t fun d hd => hs d (by simp [hd])) hlen hbo fun d hd => hs d (by simp [hd])
    · obtain ⟨t1, a1, s1⟩ := L1.has t
      obtain ⟨t2, a2, s2⟩ := L2.has t1
      have s1' := sat_congr a2 (fun d hd => (L1.cl d hd).1) s1
      obtain ⟨t3, ht3⟩ : ∃ t3 : Int → Bool, t3 = fun v => if n2 ≤ v then decide (v - n2 < (cnt t2 l1 + cnt t2 l2 : Nat)) else t2 v := ⟨_, rfl⟩
      have a3 : ∀ v, v < n2 → t3 v = t2 v := fun v hv => by rw [ht3]; simp only; rw [if_neg (by omega)]
      have s1'' := sat_congr a3 (fun d hd => (L1.cl d hd).1.mono g2) s1'
      have s2' := sat_congr a3 (fun d hd => (L2.cl d hd).1) s2
      have k1 : cnt t3 l1 = cnt t2 l1 := cnt_congr a3 (hb1.mono (by omega))
      have k2 : cnt t3 l2 = cnt t2 l2 := cnt_congr a3 (hb2.mono (by omega))
      have s3 := join_holds (out := outL n2 m) hn' (TA t3 s1'') (TB t3 s2') hlen hbo fun j hj => by
        rw [outL_at, k1, k2]
        unfold litT
        rw [if_neg (by omega), ht3]
        simp only
        rw [if_pos (by omega)]
        congr 1
        apply propext
        omega
      refine ⟨t3, fun v hv => by rw [a3 v (by omega), a2 v (by omega), a1 v hv], fun d hd => ?_⟩
      rw [List.mem_append, List.mem_append] at hd
      rcases hd with (hd | hd) | hd
      · exact s1'' d hd
      · exact s2' d hd
      · exact s3 d hd
end Go.Proofs.Ytnejnaoehcahbaa
