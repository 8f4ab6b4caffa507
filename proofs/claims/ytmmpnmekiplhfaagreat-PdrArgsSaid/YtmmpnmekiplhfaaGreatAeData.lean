/-
  Data on the heap: rows of pairs, lists of lists that grow in a cell, and what a call leaves alone.
-/
import Derived.Test.YtmmpnmekiplhfaaGreatAeMore
namespace Go.Ae
open Go

/-- The block of the slice in a block's first cell. -/
def lvB (h : H) (p : Nat) : Option Nat := match h.get p with | some ⟨v :: _, _⟩ => blkOf v | _ => none

/-- All but the block p, and the block of its first slice, is as it was. -/
def Kp (p : Nat) (h h' : H) : Prop :=
  h.next ≤ h'.next ∧ (∀ i, i < h.next → i ≠ p → lvB h p ≠ some i → h'.get i = h.get i) ∧ ∀ i, i < h.next → lvB h p ≠ some i → lvB h' p ≠ some i

theorem Kp.refl (p : Nat) (h : H) : Kp p h h := ⟨Nat.le_refl _, fun _ _ _ _ => rfl, fun _ _ h => h⟩
theorem Kp.trans {p : Nat} {h h' h'' : H} (a : Kp p h h') (b : Kp p h' h'') : Kp p h h'' :=
  ⟨Nat.le_trans a.1 b.1, fun i hi hp hl => (b.2.1 i (Nat.lt_of_lt_of_le hi a.1) hp (a.2.2 i hi hl)).trans (a.2.1 i hi hp hl), fun i hi hl => b.2.2 i (Nat.lt_of_lt_of_le hi a.1) (a.2.2 i hi hl)⟩
theorem Kp.of_ext {p : Nat} {h h' : H} (hp : p < h.next) (e : Ext h.next h h') : Kp p h h' := by
  have : lvB h' p = lvB h p := by unfold lvB; rw [e.2 p hp]
  exact ⟨e.1, fun i hi _ _ => e.2 i hi, fun i _ hl => by rw [this]; exact hl⟩

/-- A value that has nothing to do with the block p. -/
def Ap (h : H) (p : Nat) (v : Value) : Prop := ∀ b, blkOf v = some b → b < h.next ∧ b ≠ p ∧ lvB h p ≠ some b
theorem Ap.kp {p : Nat} {h h' : H} {v : Value} (a : Ap h p v) (k : Kp p h h') : Ap h' p v := fun b hb => by
  obtain ⟨h1, h2, h3⟩ := a b hb
  exact ⟨Nat.lt_of_lt_of_le h1 k.1, h2, k.2.2 b h1 h3⟩
theorem Ap.old {h : H} {p : Nat} {v : Value} (a : Ap h p v) : Old h.next v := fun b hb => (a b hb).1
theorem Rd.kp {p : Nat} {h h' : H} {v : Value} {vs : List Value} (r : Rd h v vs) (a : Ap h p v) (k : Kp p h h') : Rd h' v vs := r.keep fun b hb => by
  obtain ⟨h1, h2, h3⟩ := a b hb
  exact k.2.1 b h1 h2 h3

/-- Where a slice's room ends is known, or is made by append. -/
def Spt (v : Value) : Prop := ∀ a n c, v = .slice (some a) n c → a.spot = none ∨ a.spot = some 1
theorem Acc.spt {n : Nat} {h : H} {v : Value} {vs : List Value} (a : Acc n h v vs) : Spt v := by
  rintro x m c rfl
  rcases a with ⟨e, _⟩ | ⟨b, s, hs, _, _, e, _⟩
  · cases e
  · cases e; exact hs
theorem Spt.none (n c : Nat) : Spt (.slice none n c) := fun _ _ _ e => by cases e
theorem Spt.plain (b o n c : Nat) : Spt (.slice (some ⟨b, o, .none⟩) n c) := fun _ _ _ e => by cases e; exact .inl rfl

/-- A slice of slices of whole numbers, all older than n. -/
def Rds (n : Nat) (h : H) (v : Value) (lss : List (List Int)) : Prop :=
  ∃ cs, Rd h v cs ∧ Old n v ∧ cs.length = lss.length ∧ ∀ (j : Nat) (c : Value) (l : List Int), cs[j]? = some c → lss[j]? = some l → Rd h c (ints l) ∧ Old n c ∧ Spt c
theorem Rds.ext {n : Nat} {h h' : H} {v : Value} {lss : List (List Int)} (r : Rds n h v lss) (e : Ext n h h') : Rds n h' v lss := by
  obtain ⟨cs, h1, h2, h3, h4⟩ := r
  exact ⟨cs, h1.ext h2 e, h2, h3, fun j c l hc hl => ⟨(h4 j c l hc hl).1.ext (h4 j c l hc hl).2.1 e, (h4 j c l hc hl).2⟩⟩
theorem Rds.mono {n m : Nat} {h : H} {v : Value} {lss : List (List Int)} (r : Rds n h v lss) (e : n ≤ m) : Rds m h v lss := by
  obtain ⟨cs, h1, h2, h3, h4⟩ := r
  exact ⟨cs, h1, h2.mono e, h3, fun j c l hc hl => ⟨(h4 j c l hc hl).1, (h4 j c l hc hl).2.1.mono e, (h4 j c l hc hl).2.2⟩⟩

/-- A block whose first cell is a slice of slices that grows. -/
structure Grow (n : Nat) (h : H) (q : Nat) (rest : List Value) (L : List (List Int)) : Prop where
  le : n ≤ q
  lt : q < h.next
  ex : ∃ lv vs, h.get q = some ⟨lv :: rest, false⟩ ∧ Acc n h lv vs ∧ blkOf lv ≠ some q ∧ vs.length = L.length ∧
    ∀ (j : Nat) (c : Value) (l : List Int), vs[j]? = some c → L[j]? = some l → Rd h c (ints l) ∧ Ap h q c ∧ Spt c

theorem Grow.lv_lt {n q : Nat} {h : H} {rest : List Value} {L : List (List Int)} (w : Grow n h q rest L) {b : Nat} (hb : lvB h q = some b) : b < h.next ∧ b ≠ q := by
  obtain ⟨w1, w2, lv, vs, w3, w4, w5, w6, w7⟩ := w
  have e : lvB h q = blkOf lv := by simp [lvB, w3]
  rw [e] at hb
  exact ⟨w4.old b hb, fun e => w5 (by rw [← e]; exact hb)⟩

theorem Grow.ext {n q : Nat} {h h' : H} {rest : List Value} {L : List (List Int)} (w : Grow n h q rest L) (e : Ext h.next h h') : Grow n h' q rest L := by
  obtain ⟨w1, w2, lv, vs, w3, w4, w5, w6, w7⟩ := w
  have k := Kp.of_ext w2 e
  refine ⟨w1, Nat.lt_of_lt_of_le w2 e.1, lv, vs, (e.2 q w2).trans w3, w4.ext e, w5, w6, fun j c l hc hl => ?_⟩
  obtain ⟨r1, r2, r3⟩ := w7 j c l hc hl
  exact ⟨Rd.kp r1 r2 k, r2.kp k, r3⟩

theorem Grow.rds {n q : Nat} {h : H} {rest : List Value} {L : List (List Int)} (w : Grow n h q rest L) : ∃ lv, h.get q = some ⟨lv :: rest, false⟩ ∧ Rds h.next h lv L := by
  obtain ⟨w1, w2, lv, vs, w3, w4, w5, w6, w7⟩ := w
  exact ⟨lv, w3, vs, w4.rd, w4.old, w6, fun j c l hc hl => ⟨(w7 j c l hc hl).1, (w7 j c l hc hl).2.1.old, (w7 j c l hc hl).2.2⟩⟩

theorem ld_blk {h : H} {p o : Nat} {cs : List Value} {ro : Bool} (e : h.get p = some ⟨cs, ro⟩) : h.ld p o = cs[o]? := by simp [H.ld, e]
theorem lds_blk {h : H} {p n : Nat} {cs : List Value} {ro : Bool} (e : h.get p = some ⟨cs, ro⟩) (hn : n = cs.length) : h.lds p 0 n = some cs := by subst hn; exact lds_all e

/-- One row more. h0 is the heap as the struct was told; since then only newer blocks were written. -/
theorem Grow.push {n q b3 : Nat} {h0 h : H} {rest : List Value} {L : List (List Int)} {c : List Int} {el : Value} (w : Grow n h0 q rest L) (hk : ∀ i, i < h0.next → h.get i = h0.get i) (hn : h0.next ≤ h.next) (hel : ∃ a m k, el = .slice a m k) (hsp : Spt el) (rel : Rd h el (ints c))
    (fr : ∀ b, blkOf el = some b → h0.next ≤ b ∧ b < h.next) (h3 : h.get b3 = some ⟨[el], false⟩) (hne : blkOf el ≠ some b3) (hL : L.length ≤ 1000000000) :
    ∃ lv v' h4, h.get q = some ⟨lv :: rest, false⟩ ∧ (∃ a m k, lv = .slice a m k) ∧ (∃ a m k, v' = .slice a m k) ∧ Ae.app h 1 24 lv (.slice (some ⟨b3, 0, none⟩) 1 1) = some (v', h4) ∧ h4.get q = some ⟨lv :: rest, false⟩ ∧
      Grow n (h4.set q (some ⟨v' :: rest, false⟩)) q rest (L ++ [c]) ∧ Kp q h0 (h4.set q (some ⟨v' :: rest, false⟩)) := by
  obtain ⟨w1, w2, lv, vs, w3, w4, w5, w6, w7⟩ := w
  have hlv0 : lvB h0 q = blkOf lv := by simp [lvB, w3]
  have hq : h.get q = some ⟨lv :: rest, false⟩ := (hk q w2).trans w3
  have a3 : Acc n h lv vs := w4.keep hn fun i hi => hk i (w4.old i hi)
  have r3 : Rd h (.slice (some ⟨b3, 0, none⟩) 1 1) [el] := ⟨_, 1, rfl, Nat.le_refl _, .inr ⟨b3, 0, none, rfl, lds_all h3⟩⟩
  have hone : el.oneCell' = true := by obtain ⟨a, m, k, rfl⟩ := hel; rfl
  obtain ⟨v', h4, e4, a4, n4, k4⟩ := a3.app (bytes := 24) r3 (by omega) (by simp [hone]) (by simp; omega)
  have eb : ∀ i, blkOf v' = some i → blkOf lv = some i ∨ h.next ≤ i := fun i hi => app_blk e4 hi
  have h4q : h4.get q = some ⟨lv :: rest, false⟩ := by rw [k4 q (by omega) w5]; exact hq
  refine ⟨lv, v', h4, hq, ?_, ?_, e4, h4q, ?_⟩
  · obtain ⟨base, cap, e⟩ := w4.rd.len; exact ⟨_, _, _, e⟩
  · obtain ⟨base, cap, e⟩ := a4.rd.len; exact ⟨_, _, _, e⟩
  generalize hh5 : h4.set q (some ⟨v' :: rest, false⟩) = h5
  have h5n : h5.next = h4.next := by rw [← hh5]; rfl
  have h5q : h5.get q = some ⟨v' :: rest, false⟩ := by rw [← hh5, H.get_set, if_pos rfl]
  have h5l : lvB h5 q = blkOf v' := by simp [lvB, h5q]
  have h5g : ∀ i, i ≠ q → h5.get i = h4.get i := fun i hi => by rw [← hh5, H.get_set, if_neg hi]
  have h5k : ∀ i, i < h0.next → i ≠ q → blkOf lv ≠ some i → h5.get i = h0.get i := fun i hi hip hl => by rw [h5g i hip, k4 i (by omega) hl, hk i hi]
  have h5v : ∀ i, i < h0.next → blkOf lv ≠ some i → blkOf v' ≠ some i := fun i hi hl e => (eb i e).elim hl fun h => by omega
  have hlo : ∀ i, blkOf lv = some i → i < h0.next := fun i hi => w4.old i hi
  refine ⟨⟨w1, by omega, v', vs ++ [el], h5q, a4.keep (by omega) (fun i hi => h5g i fun e => ?_), fun e => ?_, by simp [w6], fun j d l hc hl => ?_⟩,
    by omega, fun i hi hip hl => h5k i hi hip (by rw [← hlv0]; exact hl), fun i hi hl => by rw [h5l]; exact h5v i hi (by rw [← hlv0]; exact hl)⟩
  · subst e; exact h5v i w2 w5 hi
  · exact h5v q w2 w5 e
  · by_cases hj : j < vs.length
    · rw [List.getElem?_append_left hj] at hc
      rw [List.getElem?_append_left (by omega)] at hl
      obtain ⟨r1, r2, r3⟩ := w7 j d l hc hl
      refine ⟨r1.keep fun i hi => ?_, fun i hi => ?_, r3⟩
      · obtain ⟨a1, a2, a3⟩ := r2 i hi
        exact h5k i a1 a2 (by rw [← hlv0]; exact a3)
      · obtain ⟨a1, a2, a3⟩ := r2 i hi
        exact ⟨by omega, a2, by rw [h5l]; exact h5v i a1 (by rw [← hlv0]; exact a3)⟩
    · rw [List.getElem?_append_right (by omega)] at hc hl
      have hj1 : j - vs.length = 0 := by
        have := (List.getElem?_eq_some_iff.1 hc).1
        simpa using this
      have hj2 : j - L.length = 0 := by omega
      rw [hj1] at hc
      rw [hj2] at hl
      simp only [List.getElem?_cons_zero, Option.some.injEq] at hc hl
      subst hc hl
      have hfr : ∀ i, blkOf el = some i → blkOf lv ≠ some i := fun i hi e => by have := hlo i e; have := (fr i hi).1; omega
      refine ⟨rel.keep fun i hi => ?_, fun i hi => ?_, hsp⟩
      · have := fr i hi
        rw [h5g i (by omega), k4 i this.2 (hfr i hi)]
      · have := fr i hi
        exact ⟨by omega, by omega, by rw [h5l]; exact fun e => (eb i e).elim (hfr i hi) fun h => by omega⟩

/-- The first of a slice. -/
theorem Rd.slcTo {h : H} {v : Value} {vs : List Value} (r : Rd h v vs) (hs : Spt v) {k : Nat} (hk : k ≤ vs.length) :
    ∃ u, slc 1 v none (some k) none = some u ∧ Rd h u (vs.take k) ∧ (blkOf u = blkOf v) ∧ Spt u := by
  obtain ⟨base, cap, rfl, hc, h1⟩ := r
  have hlen : (vs.take k).length = k := by simp; omega
  rcases h1 with rfl | ⟨b, o, s, rfl, hl⟩
  · simp only [List.length_nil] at hk hc
    obtain rfl : k = 0 := by omega
    cases base with
    | none => exact ⟨.slice none 0 cap, by simp [slc], ⟨none, cap, by simp, by simp, .inl (by simp)⟩, rfl, Spt.none _ _⟩
    | some a =>
      obtain ⟨b, o, s⟩ := a
      have := hs ⟨b, o, s⟩ _ _ rfl
      simp only at this
      rcases this with rfl | rfl
      · exact ⟨.slice (some ⟨b, if cap = 0 then o else o + 0 * 1, none⟩) 0 cap, by simp [slc], ⟨some ⟨b, if cap = 0 then o else o + 0 * 1, none⟩, cap, rfl, by simp, .inl (by simp)⟩, rfl, Spt.plain _ _ _ _⟩
      · exact ⟨.slice (some ⟨b, o + 0 * 1, some 1⟩) 0 cap, by simp [slc], ⟨some ⟨b, o + 0 * 1, some 1⟩, cap, rfl, by simp, .inl (by simp)⟩, rfl, fun a n c e => by cases e; exact .inr rfl⟩
  · have hh := ld_of_lds hl
    have hrd : vs.take k = [] ∨ h.lds b o (vs.take k).length = some (vs.take k) := by
      by_cases h3 : vs.take k = []
      · exact .inl h3
      · exact .inr (lds_of_ld h3 fun j hj => by rw [hh.2 j (by simp at hj; omega)]; simp)
    have := hs ⟨b, o, s⟩ _ _ rfl
    simp only at this
    rcases this with rfl | rfl
    · refine ⟨.slice (some ⟨b, if cap = 0 then o else o + 0 * 1, none⟩) k cap, by simp [slc]; omega, ⟨_, cap, by rw [hlen], by omega, ?_⟩, rfl, Spt.plain _ _ _ _⟩
      have e : (if cap = 0 then o else o + 0 * 1) = o := by split <;> simp
      exact hrd.imp id fun h => ⟨b, o, none, by rw [e], h⟩
    · refine ⟨.slice (some ⟨b, o + 0 * 1, some 1⟩) k cap, by simp [slc]; omega, ⟨_, cap, by rw [hlen], by omega, ?_⟩, rfl, fun a n c e => by cases e; exact .inr rfl⟩
      exact hrd.imp id fun h => ⟨b, o, some 1, by simp, h⟩

abbrev u32s (l : List Int) : List Value := l.map (.int .u32)
theorem u32_one (l : List Int) : (u32s l).all Value.oneCell' = true := by simp [u32s, Value.oneCell']

/-- A row of pairs of numbers. -/
def prs (k1 k2 : IntKind) (l : List (Int × Int)) : List Value := l.flatMap fun p => [.int k1 p.1, .int k2 p.2]
theorem prs_length (k1 k2 : IntKind) (l : List (Int × Int)) : (prs k1 k2 l).length = l.length * 2 := by
  induction l with
  | nil => rfl
  | cons p l ih => simp only [prs, List.flatMap_cons, List.length_append, List.length_cons, List.length_nil] at ih ⊢; omega
theorem prs_at (k1 k2 : IntKind) : ∀ (l : List (Int × Int)) (i : Nat) (hi : i < l.length), ((prs k1 k2 l).drop (i * 2)).take 2 = [.int k1 l[i].1, .int k2 l[i].2]
  | p :: l, 0, _ => by simp [prs]
  | p :: l, i + 1, hi => by
    have := prs_at k1 k2 l i (by simpa using hi)
    rw [show (i + 1) * 2 = i * 2 + 1 + 1 by omega]
    simp only [prs, List.flatMap_cons, List.cons_append, List.nil_append, List.drop_succ_cons, List.getElem_cons_succ]
    exact this

def RdP (h : H) (v : Value) (k1 k2 : IntKind) (l : List (Int × Int)) : Prop :=
  ∃ base cap, v = .slice base l.length cap ∧ l.length ≤ cap ∧ (l = [] ∨ ∃ b o s, base = some ⟨b, o, s⟩ ∧ h.lds b o (l.length * 2) = some (prs k1 k2 l))

theorem RdP.len {h : H} {v : Value} {k1 k2 : IntKind} {l : List (Int × Int)} (r : RdP h v k1 k2 l) : ∃ base cap, v = .slice base l.length cap := by
  obtain ⟨base, cap, rfl, _⟩ := r; exact ⟨base, cap, rfl⟩
theorem RdP.keep {h h' : H} {v : Value} {k1 k2 : IntKind} {l : List (Int × Int)} (r : RdP h v k1 k2 l) (k : ∀ b, blkOf v = some b → h'.get b = h.get b) : RdP h' v k1 k2 l := by
  obtain ⟨base, cap, rfl, hc, h1⟩ := r
  refine ⟨base, cap, rfl, hc, ?_⟩
  rcases h1 with h1 | ⟨b, o, s, rfl, hl⟩
  · exact .inl h1
  · exact .inr ⟨b, o, s, rfl, by rw [lds_congr (k b rfl)]; exact hl⟩
theorem RdP.ext {n : Nat} {h h' : H} {v : Value} {k1 k2 : IntKind} {l : List (Int × Int)} (r : RdP h v k1 k2 l) (o : Old n v) (e : Ext n h h') : RdP h' v k1 k2 l := r.keep fun b hb => e.2 b (o b hb)
theorem RdP.kp {p : Nat} {h h' : H} {v : Value} {k1 k2 : IntKind} {l : List (Int × Int)} (r : RdP h v k1 k2 l) (a : Ap h p v) (k : Kp p h h') : RdP h' v k1 k2 l := r.keep fun b hb => by
  obtain ⟨h1, h2, h3⟩ := a b hb
  exact k.2.1 b h1 h2 h3
theorem RdP.at {h : H} {v : Value} {k1 k2 : IntKind} {l : List (Int × Int)} (r : RdP h v k1 k2 l) {i : Nat} (hi : i < l.length) :
    ∃ b o s cap, v = .slice (some ⟨b, o, s⟩) l.length cap ∧ h.lds b (o + i * 2) 2 = some [.int k1 l[i].1, .int k2 l[i].2] := by
  obtain ⟨base, cap, rfl, hc, h1⟩ := r
  rcases h1 with rfl | ⟨b, o, s, rfl, hl⟩
  · simp at hi
  · refine ⟨b, o, s, cap, rfl, ?_⟩
    unfold H.lds at hl ⊢
    cases hg : h.get b with
    | none => simp [hg] at hl
    | some k =>
      simp only [hg, Option.bind_some] at hl ⊢
      split at hl
      · rename_i hle
        rw [if_pos (by omega)]
        simp only [Option.some.injEq] at hl ⊢
        have := prs_at k1 k2 l i hi
        rw [← hl, List.drop_take, List.drop_drop, List.take_take] at this
        rw [← this]
        congr 1
        omega
      · cases hl
theorem RdP.ld {h : H} {b o : Nat} {x y : Value} (e : h.lds b o 2 = some [x, y]) : h.ld b o = some x ∧ h.ld b (o + 1) = some y := by
  have := ld_of_lds e
  exact ⟨by simpa using this.2 0 (by simp), by simpa using this.2 1 (by simp)⟩

theorem shr_one : (∀ a : Int, a.fdiv (2 ^ min (1 : Int).toNat IntKind.u32.bits) = a / 2) ∧ ∀ a : Int, a.fdiv (2 ^ min (1 : Int).toNat 32) = a / 2 := by
  have e : (2 : Int) ^ min (1 : Int).toNat IntKind.u32.bits = 2 := by decide
  have e' : (2 : Int) ^ min (1 : Int).toNat 32 = 2 := by decide
  rw [e, e']
  exact ⟨fun a => Int.fdiv_eq_ediv_of_nonneg _ (by decide), fun a => Int.fdiv_eq_ediv_of_nonneg _ (by decide)⟩
theorem and_one {a : Int} (h0 : 0 ≤ a) (h1 : a < 4294967296) : IntKind.u32.wrap ((BitVec.ofInt IntKind.u32.bits a &&& BitVec.ofInt IntKind.u32.bits 1).toNat : Nat) = a % 2 := by
  have e1 : (BitVec.ofInt IntKind.u32.bits a).toNat = a.toNat := by
    rw [BitVec.toNat_ofInt]
    show (a % ((2 ^ 32 : Nat) : Int)).toNat = _
    rw [Int.emod_eq_of_lt h0 (show a < ((2 ^ 32 : Nat) : Int) from (by decide : (4294967296 : Int) = ((2 ^ 32 : Nat) : Int)) ▸ h1)]
  have e2 : (BitVec.ofInt IntKind.u32.bits (1 : Int)).toNat = 1 := by decide
  rw [BitVec.toNat_and, e1, e2, Nat.and_one_is_mod]
  rw [IntWalk.u32_in _ (by omega)]
  omega
end Go.Ae
