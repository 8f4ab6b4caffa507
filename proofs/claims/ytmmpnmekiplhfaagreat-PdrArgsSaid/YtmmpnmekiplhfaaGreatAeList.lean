/-
  Slices as lists: reading, what leaves a reading alone, growing by append.
-/
import Derived.Test.YtmmpnmekiplhfaaGreatAeWorld
namespace Go.Ae
open Go

def blkOf : Value → Option Nat
  | .slice (some ⟨b, _, _⟩) _ _ => some b
  | _ => none

/-- h' holds what h held in the blocks below n. -/
def Ext (n : Nat) (h h' : H) : Prop := h.next ≤ h'.next ∧ ∀ i, i < n → h'.get i = h.get i
theorem Ext.refl (n : Nat) (h : H) : Ext n h h := ⟨Nat.le_refl _, fun _ _ => rfl⟩
theorem Ext.trans {n : Nat} {h h' h'' : H} (a : Ext n h h') (b : Ext n h' h'') : Ext n h h'' := ⟨Nat.le_trans a.1 b.1, fun i hi => (b.2 i hi).trans (a.2 i hi)⟩
theorem Ext.le {n m : Nat} {h h' : H} (a : Ext n h h') (hm : m ≤ n) : Ext m h h' := ⟨a.1, fun i hi => a.2 i (by omega)⟩

theorem Ext.new {h : H} (b : Blk) : Ext h.next h (h.new b) := ⟨Nat.le_succ _, fun i hi => by rw [H.get_new, if_neg (by omega)]⟩

theorem lds_congr {h h' : H} {b o n : Nat} (e : h'.get b = h.get b) : h'.lds b o n = h.lds b o n := by unfold H.lds; rw [e]
theorem ld_congr {h h' : H} {b o : Nat} (e : h'.get b = h.get b) : h'.ld b o = h.ld b o := by unfold H.ld; rw [e]

theorem Rd.nil (h : H) : Rd h (.slice none 0 0) [] := ⟨none, 0, rfl, Nat.le_refl _, .inl rfl⟩
theorem Rd.keep {h h' : H} {v : Value} {vs : List Value} (r : Rd h v vs) (k : ∀ b, blkOf v = some b → h'.get b = h.get b) : Rd h' v vs := by
  obtain ⟨base, cap, rfl, hc, h1⟩ := r
  refine ⟨base, cap, rfl, hc, ?_⟩
  rcases h1 with h1 | ⟨b, o, s, rfl, hl⟩
  · exact .inl h1
  · exact .inr ⟨b, o, s, rfl, by rw [lds_congr (k b rfl)]; exact hl⟩
/-- A slice whose block is older than n. -/
def Old (n : Nat) (v : Value) : Prop := ∀ b, blkOf v = some b → b < n
theorem Old.mono {n m : Nat} {v : Value} (o : Old n v) (h : n ≤ m) : Old m v := fun b hb => Nat.lt_of_lt_of_le (o b hb) h
theorem Rd.ext {n : Nat} {h h' : H} {v : Value} {vs : List Value} (r : Rd h v vs) (o : Old n v) (e : Ext n h h') : Rd h' v vs := r.keep fun b hb => e.2 b (o b hb)

theorem Rd.at {h : H} {v : Value} {vs : List Value} (r : Rd h v vs) {i : Nat} (hi : i < vs.length) :
    ∃ b o s cap, v = .slice (some ⟨b, o, s⟩) vs.length cap ∧ h.ld b (o + i) = some vs[i] := by
  obtain ⟨base, cap, rfl, hc, h1⟩ := r
  rcases h1 with rfl | ⟨b, o, s, rfl, hl⟩
  · simp at hi
  · exact ⟨b, o, s, cap, rfl, (ld_of_lds hl).2 i hi⟩
theorem Rd.len {h : H} {v : Value} {vs : List Value} (r : Rd h v vs) : ∃ base cap, v = .slice base vs.length cap := by
  obtain ⟨base, cap, rfl, _⟩ := r; exact ⟨base, cap, rfl⟩
theorem Rd.cells {h : H} {v : Value} {vs : List Value} (r : Rd h v vs) : cellsOf h 1 vs.length v = some vs ∧ lenOf v = some vs.length := by
  obtain ⟨base, cap, rfl, hc, h1⟩ := r
  refine ⟨?_, rfl⟩
  rcases h1 with rfl | ⟨b, o, s, rfl, hl⟩
  · cases base with
    | none => rfl
    | some a => obtain ⟨b, o, s⟩ := a; simp [cellsOf]
  · simp only [cellsOf, Nat.mul_one]
    split
    · rename_i h0; rw [List.length_eq_zero_iff.1 h0]
    · exact hl

/-- A slice of one's own that grows by append: its block is n or more. -/
def Acc (n : Nat) (h : H) (v : Value) (vs : List Value) : Prop :=
  (v = .slice none 0 0 ∧ vs = []) ∨ ∃ b s, (s = none ∨ s = some 1) ∧ n ≤ b ∧ b < h.next ∧ v = .slice (some ⟨b, 0, s⟩) vs.length vs.length ∧ h.get b = some ⟨vs, false⟩

theorem Acc.nil (n : Nat) (h : H) : Acc n h (.slice none 0 0) [] := .inl ⟨rfl, rfl⟩
theorem lds_all {h : H} {b : Nat} {vs : List Value} {ro : Bool} (e : h.get b = some ⟨vs, ro⟩) : h.lds b 0 vs.length = some vs := by
  simp [H.lds, e]
theorem Acc.rd {n : Nat} {h : H} {v : Value} {vs : List Value} (a : Acc n h v vs) : Rd h v vs := by
  rcases a with ⟨rfl, rfl⟩ | ⟨b, s, _, _, _, rfl, hb⟩
  · exact .nil h
  · exact ⟨_, _, rfl, Nat.le_refl _, .inr ⟨b, 0, s, rfl, lds_all hb⟩⟩
theorem Acc.old {n : Nat} {h : H} {v : Value} {vs : List Value} (a : Acc n h v vs) : Old h.next v := by
  rcases a with ⟨rfl, rfl⟩ | ⟨b, s, _, _, hn, rfl, hb⟩
  · intro b hb; cases hb
  · intro c hc; cases hc; exact hn
theorem Acc.keep {n : Nat} {h h' : H} {v : Value} {vs : List Value} (a : Acc n h v vs) (hn : h.next ≤ h'.next) (k : ∀ b, blkOf v = some b → h'.get b = h.get b) : Acc n h' v vs := by
  rcases a with ⟨rfl, rfl⟩ | ⟨b, s, hs, h1, h2, rfl, hb⟩
  · exact .inl ⟨rfl, rfl⟩
  · exact .inr ⟨b, s, hs, h1, by omega, rfl, by rw [k b rfl]; exact hb⟩
theorem Acc.le {n m : Nat} {h : H} {v : Value} {vs : List Value} (a : Acc n h v vs) (hm : m ≤ n) : Acc m h v vs := by
  rcases a with ⟨rfl, rfl⟩ | ⟨b, s, hs, h1, h2, rfl, hb⟩
  · exact .inl ⟨rfl, rfl⟩
  · exact .inr ⟨b, s, hs, by omega, h2, rfl, hb⟩
theorem Acc.ext {n : Nat} {h h' : H} {v : Value} {vs : List Value} (a : Acc n h v vs) (e : Ext h.next h h') : Acc n h' v vs := a.keep e.1 fun b hb => e.2 b (a.old b hb)

/-- append to one's own slice. -/
theorem Acc.app {n : Nat} {h : H} {v y : Value} {vs us : List Value} {bytes : Nat} (a : Acc n h v vs) (r : Rd h y us) (hn : n ≤ h.next) (ho : us.all Value.oneCell' = true) (hb : (vs.length + us.length) * bytes ≤ 140737488355328) :
    ∃ v' h', app h 1 bytes v y = some (v', h') ∧ Acc n h' v' (vs ++ us) ∧ h.next ≤ h'.next ∧ ∀ i, i < h.next → blkOf v ≠ some i → h'.get i = h.get i := by
  obtain ⟨hc, hl⟩ := r.cells
  by_cases h0 : us = []
  · subst h0
    rcases a with ⟨rfl, rfl⟩ | ⟨b, s, hs, h1, h2, rfl, hbk⟩
    · exact ⟨.slice none 0 0, h, by simp [Ae.app, hl], .inl ⟨rfl, rfl⟩, Nat.le_refl _, fun _ _ _ => rfl⟩
    · exact ⟨.slice (some ⟨b, 0, s⟩) vs.length vs.length, h, by simp [Ae.app, hl], .inr ⟨b, s, hs, h1, h2, by simp, by simpa using hbk⟩, Nat.le_refl _, fun _ _ _ => rfl⟩
  · have hp : 0 < us.length := List.length_pos_iff.2 h0
    rcases a with ⟨rfl, rfl⟩ | ⟨b, s, hs, h1, h2, rfl, hbk⟩
    · refine ⟨.slice (some ⟨h.next, 0, some 1⟩) us.length us.length, h.new ⟨us, false⟩, ?_, .inr ⟨h.next, some 1, .inr rfl, hn, Nat.lt_succ_self _, by simp, by simp [H.get_new]⟩, Nat.le_succ _, fun i hi _ => by rw [H.get_new, if_neg (by omega)]⟩
      simp only [List.length_nil, Nat.zero_add] at hb
      simp only [Ae.app, hl, if_neg (show us.length ≠ 0 by omega), hc, Option.bind_some, Nat.zero_add, if_pos hb]
      simp [cellsOf, h0]
    · have h3 : ¬ (vs.length + us.length ≤ vs.length) := by omega
      have hold : cellsOf h 1 vs.length (.slice (some ⟨b, 0, s⟩) vs.length vs.length) = some vs := by
        by_cases hv : vs = []
        · subst hv; simp [cellsOf]
        · have : vs.length ≠ 0 := by have := List.length_pos_iff.2 hv; omega
          simp only [cellsOf, Nat.mul_one, if_neg this, lds_all hbk]
      rcases hs with rfl | rfl
      · refine ⟨.slice (some ⟨h.next, 0, some 1⟩) (vs.length + us.length) (vs.length + us.length), h.new ⟨vs ++ us, false⟩, ?_, .inr ⟨h.next, some 1, .inr rfl, hn, Nat.lt_succ_self _, by simp, by simp [H.get_new]⟩, Nat.le_succ _, fun i hi hbi => by rw [H.get_new, if_neg (by omega)]⟩
        simp only [Ae.app, hl, if_neg (show us.length ≠ 0 by omega), hc, Option.bind_some, if_neg h3, if_pos hb, hold]
      · refine ⟨.slice (some ⟨h.next, 0, some 1⟩) (vs.length + us.length) (vs.length + us.length), (h.set b none).new ⟨vs ++ us, false⟩, ?_, .inr ⟨h.next, some 1, .inr rfl, hn, Nat.lt_succ_self _, by simp, by simp [H.get_new]⟩, Nat.le_succ _, fun i hi hbi => ?_⟩
        · simp only [Ae.app, hl, if_neg (show us.length ≠ 0 by omega), hc, Option.bind_some, if_neg h3, if_pos hb, hbk, hold]
          simp [ho]
        · rw [H.get_new, if_neg (by simp; omega), H.get_set, if_neg (fun e => hbi (by simp [blkOf, e]))]

theorem Acc.ne {n : Nat} {h : H} {v : Value} {vs : List Value} (a : Acc n h v vs) {i : Nat} (hi : i < n) : blkOf v ≠ some i := by
  rcases a with ⟨rfl, rfl⟩ | ⟨b, s, hs, h1, h2, rfl, hb⟩
  · intro e; cases e
  · intro e; cases e; omega

/-- A row told by itself is one's own. -/
theorem Acc.row (h : H) (vs : List Value) {n : Nat} (hn : n ≤ h.next) : Acc n (h.new ⟨vs, false⟩) (.slice (some ⟨h.next, 0, none⟩) vs.length vs.length) vs :=
  .inr ⟨h.next, none, .inl rfl, hn, Nat.lt_succ_self _, rfl, by rw [H.get_new, if_pos rfl]⟩

/-- append of a row, where only what is older matters. -/
theorem Acc.app' {n : Nat} {h : H} {v y : Value} {vs us : List Value} {bytes : Nat} (a : Acc n h v vs) (r : Rd h y us) (hn : n ≤ h.next) (ho : us.all Value.oneCell' = true) (hb : (vs.length + us.length) * bytes ≤ 140737488355328) :
    ∃ v' h', Ae.app h 1 bytes v y = some (v', h') ∧ Acc n h' v' (vs ++ us) ∧ Ext n h h' := by
  obtain ⟨v', h', e, a', hl, hk⟩ := a.app r hn ho hb
  exact ⟨v', h', e, a', hl, fun i hi => hk i (by omega) (a.ne hi)⟩

theorem Rd.new (h : H) (vs : List Value) : Rd (h.new ⟨vs, false⟩) (.slice (some ⟨h.next, 0, none⟩) vs.length vs.length) vs :=
  ⟨_, _, rfl, Nat.le_refl _, .inr ⟨h.next, 0, none, rfl, lds_all (by rw [H.get_new, if_pos rfl])⟩⟩

/-- append of one value that is told by itself. -/
theorem Acc.app1 {n : Nat} {h : H} {v x : Value} {vs : List Value} {bytes : Nat} (a : Acc n h v vs) (hn : n ≤ h.next) (ho : x.oneCell' = true) (hb : (vs.length + 1) * bytes ≤ 140737488355328) :
    ∃ v' h', Ae.app (h.new ⟨[x], false⟩) 1 bytes v (.slice (some ⟨h.next, 0, none⟩) 1 1) = some (v', h') ∧ Acc n h' v' (vs ++ [x]) ∧ Ext n h h' ∧ ∀ i, i < h.next → blkOf v ≠ some i → h'.get i = h.get i := by
  obtain ⟨v', h', e, a', hl, hk⟩ := (a.ext (Ext.new ⟨[x], false⟩)).app (Rd.new h [x]) (Nat.le_trans hn (Nat.le_succ _)) (by simp [ho]) hb
  have hk2 : ∀ i, i < h.next → blkOf v ≠ some i → h'.get i = h.get i := fun i hi hne => by
    rw [hk i (Nat.lt_succ_of_lt hi) hne, H.get_new, if_neg (by omega)]
  exact ⟨v', h', e, a', ⟨Nat.le_trans (Nat.le_succ _) hl, fun i hi => hk2 i (by omega) (a.ne hi)⟩, hk2⟩

/-- What stands for a value of the world is older than what comes. -/
theorem old_of_vr {W : World} {u v : Value} (h : VR (emb W) u v) : Old (ofWorld W).next u := by
  intro b hb
  have key : ∀ {l : Loc}, emb W b = some l → b < (ofWorld W).next := by
    intro l hl
    have hf := ofWorld_fresh W b
    by_cases hlt : b < (ofWorld W).next
    · exact hlt
    · rw [hf (by omega)] at hl; cases hl
  cases h <;> simp only [blkOf, Option.some.injEq, reduceCtorEq] at hb
  · subst hb; exact key ‹_›
  · subst hb; exact key ‹_›

theorem int_one (ns : List Int) : (ints ns).all Value.oneCell' = true := by
  simp [ints, Value.oneCell']
end Go.Ae
