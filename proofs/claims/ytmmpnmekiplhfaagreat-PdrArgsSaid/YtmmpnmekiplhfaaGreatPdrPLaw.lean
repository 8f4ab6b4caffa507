/-
  The law PdrArgs over the evaluator: what may not be asked is ErrArg; then nothing else is told.
-/
import Derived.Test.YtmmpnmekiplhfaaGreatPdrCArgs
import Derived.Test.YtmmpnmekiplhfaaGreatIrPdr
import Derived.Test.YtmmpnmekiplhfaaGreatIrLc
namespace Go.Proofs.YtmmpnmekiplhfaaGreat
open Go Go.Ae
set_option linter.unusedSimpArgs false

def askP (c : Cir) (bad budget : Int) : Bool := mayP c && (decide (0 ≤ bad) && (decide (bad < (c.bads.length : Int)) && (decide (0 ≤ budget) && decide (budget ≤ 1048576))))

set_option maxHeartbeats 4000000 in
theorem asked_ok {c : Cir} {h : H} {bad budget : Int} (k : CirOk h.next h c) (s : Small c) :
    AF E 48 [.agg c.cells.toArray, int bad, int budget] h fun v h' => v = .bool (askP c bad budget) ∧ Ext h.next h h' := by
  refine AF.walk (E_fn comp48) (E_spec (by decide) _ _) ?_
  obtain ⟨⟨a1, m1, e1⟩, ⟨a2, m2, e2⟩, ⟨a3, m3, e3⟩, ⟨a4, m4, e4⟩, ⟨a5, m5, e5⟩⟩ := k.sl
  have hx1 : Ext h.next h (h.new ⟨c.cells, false⟩) := Ext.new _
  have hb1 : (h.new ⟨c.cells, false⟩).get h.next = some ⟨c.cells, false⟩ := by rw [H.get_new, if_pos rfl]
  have hn1 : (h.new ⟨c.cells, false⟩).next = h.next + 1 := rfl
  simp only [At.regD,Dps.new,go_sem,Nat.reduceEqDiff,Nat.reduceAdd,reduceIte,reduceCtorEq,Nat.reduceLeDiff,Int.reduceBEq,Int.reduceBNe,Int.reduceEq,Int.reduceLT,Int.reduceLE,Int.reduceNeg, c48, c48_0, cells_agg]
  generalize h.new ⟨c.cells, false⟩ = h1 at hx1 hb1 hn1
  simp only [At.regD,Dps.new,go_sem,Nat.reduceEqDiff,Nat.reduceAdd,reduceIte,reduceCtorEq,Nat.reduceLeDiff,Int.reduceBEq,Int.reduceBNe,Int.reduceEq,Int.reduceLT,Int.reduceLE,Int.reduceNeg, c48_1, ld6 hb1]
  refine callV.of (rmay_ok (k.to (Nat.le_refl _) hx1) s) fun v h2 hv => ?_
  obtain ⟨rfl, hx2⟩ := hv
  have hx02 := hx1.trans (hx2.le hx1.1)
  have hb2 : h2.get h.next = some ⟨c.cells, false⟩ := (hx2.2 _ (by omega)).trans hb1
  cases hm : mayP c
  · simp only [gate_un, At.regD,Dps.new,go_sem,Nat.reduceEqDiff,Nat.reduceAdd,reduceIte,reduceCtorEq,Nat.reduceLeDiff,Int.reduceBEq,Int.reduceBNe,Int.reduceEq,Int.reduceLT,Int.reduceLE,Int.reduceNeg]
    exact ⟨by unfold askP; rw [hm]; rfl, hx02⟩
  simp only [gate_un, At.regD,Dps.new,go_sem,Nat.reduceEqDiff,Nat.reduceAdd,reduceIte,reduceCtorEq,Nat.reduceLeDiff,Int.reduceBEq,Int.reduceBNe,Int.reduceEq,Int.reduceLT,Int.reduceLE,Int.reduceNeg]
  by_cases y1 : 0 ≤ bad
  rotate_left
  · simp only [gate_un, At.regD,Dps.new,go_sem,Nat.reduceEqDiff,Nat.reduceAdd,reduceIte,reduceCtorEq,Nat.reduceLeDiff,Int.reduceBEq,Int.reduceBNe,Int.reduceEq,Int.reduceLT,Int.reduceLE,Int.reduceNeg, y1]
    exact ⟨by unfold askP; rw [decide_eq_false y1]; simp, hx02⟩
  simp only [gate_un, At.regD,Dps.new,go_sem,Nat.reduceEqDiff,Nat.reduceAdd,reduceIte,reduceCtorEq,Nat.reduceLeDiff,Int.reduceBEq,Int.reduceBNe,Int.reduceEq,Int.reduceLT,Int.reduceLE,Int.reduceNeg, y1, ld_blk hb2, at4, e4]
  by_cases y2 : bad < (c.bads.length : Int)
  rotate_left
  · simp only [gate_un, At.regD,Dps.new,go_sem,Nat.reduceEqDiff,Nat.reduceAdd,reduceIte,reduceCtorEq,Nat.reduceLeDiff,Int.reduceBEq,Int.reduceBNe,Int.reduceEq,Int.reduceLT,Int.reduceLE,Int.reduceNeg, y2]
    exact ⟨by unfold askP; rw [decide_eq_false y2]; simp, hx02⟩
  simp only [gate_un, At.regD,Dps.new,go_sem,Nat.reduceEqDiff,Nat.reduceAdd,reduceIte,reduceCtorEq,Nat.reduceLeDiff,Int.reduceBEq,Int.reduceBNe,Int.reduceEq,Int.reduceLT,Int.reduceLE,Int.reduceNeg, y2]
  by_cases y3 : 0 ≤ budget
  rotate_left
  · simp only [gate_un, At.regD,Dps.new,go_sem,Nat.reduceEqDiff,Nat.reduceAdd,reduceIte,reduceCtorEq,Nat.reduceLeDiff,Int.reduceBEq,Int.reduceBNe,Int.reduceEq,Int.reduceLT,Int.reduceLE,Int.reduceNeg, y3]
    exact ⟨by unfold askP; rw [decide_eq_false y3]; simp, hx02⟩
  simp only [gate_un, At.regD,Dps.new,go_sem,Nat.reduceEqDiff,Nat.reduceAdd,reduceIte,reduceCtorEq,Nat.reduceLeDiff,Int.reduceBEq,Int.reduceBNe,Int.reduceEq,Int.reduceLT,Int.reduceLE,Int.reduceNeg, y3]
  refine ⟨?_, hx02⟩
  unfold askP
  rw [hm, decide_eq_true y1, decide_eq_true y2, decide_eq_true y3]; simp

theorem askP_args {c : Cir} {lss : List (List Int)} {bad budget : Int} : (askP c bad budget && cmayP c lss) = true ↔ cargsP c lss bad budget := by
  unfold askP cargsP
  simp only [Bool.and_eq_true, decide_eq_true_eq]
  constructor
  · rintro ⟨⟨_, h1, h2, h3, h4⟩, h5⟩; exact ⟨h5, h1, h2, h3, h4⟩
  · rintro ⟨h5, h1, h2, h3, h4⟩
    have : mayP c = true := by unfold cmayP at h5; rw [Bool.and_eq_true] at h5; exact h5.1
    exact ⟨⟨this, h1, h2, h3, h4⟩, h5⟩

set_option maxHeartbeats 4000000 in
theorem less_args {c : Cir} {h : H} {u : Value} {lss : List (List Int)} {bad budget : Int} (k : CirOk h.next h c) (s : Small c) (x : CrtOk h.next h u lss) (hno : ¬ cargsP c lss bad budget) :
    AF E 57 [.agg c.cells.toArray, int bad, .agg #[u], int budget] h fun v h' => v = .tuple #[.agg #[.slice none 0 0], .bool false, int 2] ∧ Ext h.next h h' := by
  refine AF.walk (E_fn comp57) (E_spec (by decide) _ _) ?_
  have hx1 : Ext h.next h (h.new ⟨c.cells, false⟩) := Ext.new _
  have hb1 : (h.new ⟨c.cells, false⟩).get h.next = some ⟨c.cells, false⟩ := by rw [H.get_new, if_pos rfl]
  have hn1 : (h.new ⟨c.cells, false⟩).next = h.next + 1 := rfl
  simp only [At.regD,Dps.new,go_sem,Nat.reduceEqDiff,Nat.reduceAdd,reduceIte,reduceCtorEq,Nat.reduceLeDiff,Int.reduceBEq,Int.reduceBNe,Int.reduceEq,Int.reduceLT,Int.reduceLE,Int.reduceNeg, c57, c57_0, cells_agg]
  generalize h.new ⟨c.cells, false⟩ = h1 at hx1 hb1 hn1
  have hx2 : Ext h1.next h1 (h1.new ⟨[u], false⟩) := Ext.new _
  have hb2 : (h1.new ⟨[u], false⟩).get h1.next = some ⟨[u], false⟩ := by rw [H.get_new, if_pos rfl]
  have hn2 : (h1.new ⟨[u], false⟩).next = h1.next + 1 := rfl
  generalize h1.new ⟨[u], false⟩ = h2 at hx2 hb2 hn2
  have hx3 : Ext h2.next h2 (h2.new ⟨[.slice none 0 0], false⟩) := Ext.new _
  have hb3 : (h2.new ⟨[.slice none 0 0], false⟩).get h2.next = some ⟨[.slice none 0 0], false⟩ := by rw [H.get_new, if_pos rfl]
  have hn3 : (h2.new ⟨[.slice none 0 0], false⟩).next = h2.next + 1 := rfl
  try simp only [At.regD,Dps.new,go_sem,Nat.reduceEqDiff,Nat.reduceAdd,reduceIte,reduceCtorEq,Nat.reduceLeDiff,Int.reduceBEq,Int.reduceBNe,Int.reduceEq,Int.reduceLT,Int.reduceLE,Int.reduceNeg]
  generalize h2.new ⟨[.slice none 0 0], false⟩ = h3 at hx3 hb3 hn3
  have hx02 := hx1.trans (hx2.le hx1.1)
  have hx03 := hx02.trans (hx3.le hx02.1)
  have hc3 : h3.get h.next = some ⟨c.cells, false⟩ := (hx3.2 _ (by omega)).trans ((hx2.2 _ (by omega)).trans hb1)
  have hu3 : h3.get h1.next = some ⟨[u], false⟩ := (hx3.2 _ (by omega)).trans hb2
  simp only [At.regD,Dps.new,go_sem,Nat.reduceEqDiff,Nat.reduceAdd,reduceIte,reduceCtorEq,Nat.reduceLeDiff,Int.reduceBEq,Int.reduceBNe,Int.reduceEq,Int.reduceLT,Int.reduceLE,Int.reduceNeg, c57_1, ld6 hc3, lds1 hu3]
  refine callV.of (check_args (k.to (Nat.le_refl _) hx03) s (x.to (Nat.le_refl _) hx03) hno) fun v h4 hv => ?_
  obtain ⟨rfl, hx4⟩ := hv
  have hx04 := hx03.trans (hx4.le hx03.1)
  have hb4 : h4.get h2.next = some ⟨[.slice none 0 0], false⟩ := (hx4.2 _ (by omega)).trans hb3
  have st1 := sts_of (h := h4) (i := h2.next) (off := 0) (vs := [.slice none 0 0]) hb4 rfl (Nat.le_refl _) rfl
  simp only [At.regD,Dps.new,go_sem,Nat.reduceEqDiff,Nat.reduceAdd,reduceIte,reduceCtorEq,Nat.reduceLeDiff,Int.reduceBEq,Int.reduceBNe,Int.reduceEq,Int.reduceLT,Int.reduceLE,Int.reduceNeg, c57_2, c57_3, st1]
  have hl : (h4.set h2.next (some ⟨[.slice none 0 0], false⟩)).lds h2.next 0 1 = some [.slice none 0 0] := lds1 (by rw [H.get_set, if_pos rfl])
  rw [hl]
  exact ⟨_, rfl, rfl, hx04.trans ⟨Nat.le_refl _, fun i hi => by have := hx02.1; rw [H.get_set, if_neg (by omega)]⟩⟩

set_option maxHeartbeats 8000000 in
theorem prove_args {c : Cir} {h : H} {bad budget : Int} (k : CirOk h.next h c) (s : Small c) (hno : askP c bad budget = false) :
    AF E 50 [.agg c.cells.toArray, int bad, int budget] h fun v h' => v = .tuple #[.int .u8 0, .agg #[.slice none 0 0], .agg #[int 0, .slice none 0 0, .slice none 0 0], int 2] ∧ Ext h.next h h' := by
  refine AF.walk (E_fn comp50) (E_spec (by decide) _ _) ?_
  obtain ⟨⟨a1, m1, e1⟩, ⟨a2, m2, e2⟩, ⟨a3, m3, e3⟩, ⟨a4, m4, e4⟩, ⟨a5, m5, e5⟩⟩ := k.sl
  have hx1 : Ext h.next h (h.new ⟨c.cells, false⟩) := Ext.new _
  have hb1 : (h.new ⟨c.cells, false⟩).get h.next = some ⟨c.cells, false⟩ := by rw [H.get_new, if_pos rfl]
  have hn1 : (h.new ⟨c.cells, false⟩).next = h.next + 1 := rfl
  simp only [At.regD,Dps.new,go_sem,Nat.reduceEqDiff,Nat.reduceAdd,reduceIte,reduceCtorEq,Nat.reduceLeDiff,Int.reduceBEq,Int.reduceBNe,Int.reduceEq,Int.reduceLT,Int.reduceLE,Int.reduceNeg, c50, c50_0, cells_agg]
  generalize h.new ⟨c.cells, false⟩ = h1 at hx1 hb1 hn1
  have hx2 : Ext h1.next h1 (h1.new ⟨[.slice none 0 0], false⟩) := Ext.new _
  have hb2 : (h1.new ⟨[.slice none 0 0], false⟩).get h1.next = some ⟨[.slice none 0 0], false⟩ := by rw [H.get_new, if_pos rfl]
  have hn2 : (h1.new ⟨[.slice none 0 0], false⟩).next = h1.next + 1 := rfl
  generalize h1.new ⟨[.slice none 0 0], false⟩ = h2 at hx2 hb2 hn2
  have hx3 : Ext h2.next h2 (h2.new ⟨[int 0, .slice none 0 0, .slice none 0 0], false⟩) := Ext.new _
  have hb3 : (h2.new ⟨[int 0, .slice none 0 0, .slice none 0 0], false⟩).get h2.next = some ⟨[int 0, .slice none 0 0, .slice none 0 0], false⟩ := by rw [H.get_new, if_pos rfl]
  have hn3 : (h2.new ⟨[int 0, .slice none 0 0, .slice none 0 0], false⟩).next = h2.next + 1 := rfl
  generalize h2.new ⟨[int 0, .slice none 0 0, .slice none 0 0], false⟩ = h3 at hx3 hb3 hn3
  have hx02 := hx1.trans (hx2.le hx1.1)
  have hx03 := hx02.trans (hx3.le hx02.1)
  have hc3 : h3.get h.next = some ⟨c.cells, false⟩ := (hx3.2 _ (by omega)).trans ((hx2.2 _ (by omega)).trans hb1)
  have hu3 : h3.get h1.next = some ⟨[.slice none 0 0], false⟩ := (hx3.2 _ (by omega)).trans hb2
  simp only [At.regD,Dps.new,go_sem,Nat.reduceEqDiff,Nat.reduceAdd,reduceIte,reduceCtorEq,Nat.reduceLeDiff,Int.reduceBEq,Int.reduceBNe,Int.reduceEq,Int.reduceLT,Int.reduceLE,Int.reduceNeg, c50_1, ld6 hc3]
  refine callV.of (may_ok (k.to (Nat.le_refl _) hx03) s) fun v h4 hv => ?_
  obtain ⟨rfl, hx4⟩ := hv
  have hx04 := hx03.trans (hx4.le hx03.1)
  have hc4 : h4.get h.next = some ⟨c.cells, false⟩ := (hx4.2 _ (by omega)).trans hc3
  have hu4 : h4.get h1.next = some ⟨[.slice none 0 0], false⟩ := (hx4.2 _ (by omega)).trans hu3
  have hw4 : h4.get h2.next = some ⟨[int 0, .slice none 0 0, .slice none 0 0], false⟩ := (hx4.2 _ (by omega)).trans hb3
  have st1 := sts_of (h := h4) (i := h1.next) (off := 0) (vs := [.slice none 0 0]) hu4 rfl (Nat.le_refl _) rfl
  obtain ⟨h5, hh5⟩ : ∃ h5, h4.set h1.next (some ⟨[.slice none 0 0], false⟩) = h5 := ⟨_, rfl⟩
  have hx5 : Ext h.next h h5 := hx04.trans ⟨by rw [← hh5]; exact Nat.le_refl _, fun i hi => by have := hx1.1; rw [← hh5, H.get_set, if_neg (by omega)]⟩
  have hu5 : h5.get h1.next = some ⟨[.slice none 0 0], false⟩ := by rw [← hh5, H.get_set, if_pos rfl]
  have hw5 : h5.get h2.next = some ⟨[int 0, .slice none 0 0, .slice none 0 0], false⟩ := by rw [← hh5, H.get_set, if_neg (by omega)]; exact hw4
  have st2 := sts_of (h := h5) (i := h2.next) (off := 0) (vs := [int 0, .slice none 0 0, .slice none 0 0]) hw5 rfl (Nat.le_refl _) rfl
  have e2 : (some { (⟨[int 0, .slice none 0 0, .slice none 0 0], false⟩ : Blk) with cells := put [int 0, .slice none 0 0, .slice none 0 0] 0 [int 0, .slice none 0 0, .slice none 0 0] }) = some (⟨[int 0, .slice none 0 0, .slice none 0 0], false⟩ : Blk) := rfl
  rw [e2] at st2
  obtain ⟨h6, hh6⟩ : ∃ h6, h5.set h2.next (some ⟨[int 0, .slice none 0 0, .slice none 0 0], false⟩) = h6 := ⟨_, rfl⟩
  have hx6 : Ext h.next h h6 := hx5.trans ⟨by rw [← hh6]; exact Nat.le_refl _, fun i hi => by have := hx02.1; rw [← hh6, H.get_set, if_neg (by omega)]⟩
  have hl7 : h6.lds h1.next 0 1 = some [.slice none 0 0] := lds1 (by rw [← hh6, H.get_set, if_neg (by omega)]; exact hu5)
  have hl8 : h6.lds h2.next 0 3 = some [int 0, .slice none 0 0, .slice none 0 0] := lds_blk (by rw [← hh6, H.get_set, if_pos rfl]) rfl
  rw [hh6] at st2
  cases hm : mayP c
  · simp only [gate_un, At.regD,Dps.new,go_sem,Nat.reduceEqDiff,Nat.reduceAdd,reduceIte,reduceCtorEq,Nat.reduceLeDiff,Int.reduceBEq,Int.reduceBNe,Int.reduceEq,Int.reduceLT,Int.reduceLE,Int.reduceNeg, c50_2, st1, hh5, st2, hl7, hl8]
    exact hx6
  simp only [gate_un, At.regD,Dps.new,go_sem,Nat.reduceEqDiff,Nat.reduceAdd,reduceIte,reduceCtorEq,Nat.reduceLeDiff,Int.reduceBEq,Int.reduceBNe,Int.reduceEq,Int.reduceLT,Int.reduceLE,Int.reduceNeg]
  by_cases y1 : bad < 0
  · simp only [gate_un, At.regD,Dps.new,go_sem,Nat.reduceEqDiff,Nat.reduceAdd,reduceIte,reduceCtorEq,Nat.reduceLeDiff,Int.reduceBEq,Int.reduceBNe,Int.reduceEq,Int.reduceLT,Int.reduceLE,Int.reduceNeg, y1, c50_2, st1, hh5, st2, hl7, hl8]
    exact hx6
  simp only [gate_un, At.regD,Dps.new,go_sem,Nat.reduceEqDiff,Nat.reduceAdd,reduceIte,reduceCtorEq,Nat.reduceLeDiff,Int.reduceBEq,Int.reduceBNe,Int.reduceEq,Int.reduceLT,Int.reduceLE,Int.reduceNeg, y1, ld_blk hc4, at4, e4]
  by_cases y2 : (c.bads.length : Int) ≤ bad
  · simp only [gate_un, At.regD,Dps.new,go_sem,Nat.reduceEqDiff,Nat.reduceAdd,reduceIte,reduceCtorEq,Nat.reduceLeDiff,Int.reduceBEq,Int.reduceBNe,Int.reduceEq,Int.reduceLT,Int.reduceLE,Int.reduceNeg, y2, c50_2, st1, hh5, st2, hl7, hl8]
    exact hx6
  simp only [gate_un, At.regD,Dps.new,go_sem,Nat.reduceEqDiff,Nat.reduceAdd,reduceIte,reduceCtorEq,Nat.reduceLeDiff,Int.reduceBEq,Int.reduceBNe,Int.reduceEq,Int.reduceLT,Int.reduceLE,Int.reduceNeg, y2]
  by_cases y3 : budget < 0
  · simp only [gate_un, At.regD,Dps.new,go_sem,Nat.reduceEqDiff,Nat.reduceAdd,reduceIte,reduceCtorEq,Nat.reduceLeDiff,Int.reduceBEq,Int.reduceBNe,Int.reduceEq,Int.reduceLT,Int.reduceLE,Int.reduceNeg, y3, c50_2, st1, hh5, st2, hl7, hl8]
    exact hx6
  simp only [gate_un, At.regD,Dps.new,go_sem,Nat.reduceEqDiff,Nat.reduceAdd,reduceIte,reduceCtorEq,Nat.reduceLeDiff,Int.reduceBEq,Int.reduceBNe,Int.reduceEq,Int.reduceLT,Int.reduceLE,Int.reduceNeg, y3]
  by_cases y4 : 1048576 < budget
  · simp only [gate_un, At.regD,Dps.new,go_sem,Nat.reduceEqDiff,Nat.reduceAdd,reduceIte,reduceCtorEq,Nat.reduceLeDiff,Int.reduceBEq,Int.reduceBNe,Int.reduceEq,Int.reduceLT,Int.reduceLE,Int.reduceNeg, y4, c50_2, st1, hh5, st2, hl7, hl8]
    exact hx6
  exfalso
  unfold askP at hno
  rw [hm, decide_eq_true (show 0 ≤ bad by omega), decide_eq_true (show bad < (c.bads.length : Int) by omega), decide_eq_true (show 0 ≤ budget by omega), decide_eq_true (show budget ≤ 1048576 by omega)] at hno
  cases hno

set_option maxHeartbeats 16000000 in
/-- THE LAW, over the evaluator. -/
theorem pargs_says {c : Cir} {h : H} {u : Value} {lss : List (List Int)} {bad budget : Int} (k : CirOk h.next h c) (s : Small c) (x : CrtOk h.next h u lss) :
    AF E 16 [.agg c.cells.toArray, int bad, .agg #[u], int budget] h fun v _ => v = .bool true := by
  refine AF.walk (E_fn comp16) (E_spec (by decide) _ _) ?_
  obtain ⟨ua, uc, hu⟩ := x.r.len
  have hx1 : Ext h.next h (h.new ⟨c.cells, false⟩) := Ext.new _
  have hb1 : (h.new ⟨c.cells, false⟩).get h.next = some ⟨c.cells, false⟩ := by rw [H.get_new, if_pos rfl]
  have hn1 : (h.new ⟨c.cells, false⟩).next = h.next + 1 := rfl
  simp only [At.regD,Dps.new,go_sem,Nat.reduceEqDiff,Nat.reduceAdd,reduceIte,reduceCtorEq,Nat.reduceLeDiff,Int.reduceBEq,Int.reduceBNe,Int.reduceEq,Int.reduceLT,Int.reduceLE,Int.reduceNeg, c16, c16_0, cells_agg]
  generalize h.new ⟨c.cells, false⟩ = h1 at hx1 hb1 hn1
  have hx2 : Ext h1.next h1 (h1.new ⟨[u], false⟩) := Ext.new _
  have hb2 : (h1.new ⟨[u], false⟩).get h1.next = some ⟨[u], false⟩ := by rw [H.get_new, if_pos rfl]
  have hn2 : (h1.new ⟨[u], false⟩).next = h1.next + 1 := rfl
  generalize h1.new ⟨[u], false⟩ = h2 at hx2 hb2 hn2
  have hc2 : h2.get h.next = some ⟨c.cells, false⟩ := (hx2.2 _ (by omega)).trans hb1
  have hx02 := hx1.trans (hx2.le hx1.1)
  have atu : ([u] : List Value)[0]? = some u := rfl
  simp only [At.regD,Dps.new,go_sem,Nat.reduceEqDiff,Nat.reduceAdd,reduceIte,reduceCtorEq,Nat.reduceLeDiff,Int.reduceBEq,Int.reduceBNe,Int.reduceEq,Int.reduceLT,Int.reduceLE,Int.reduceNeg, c16_1, ld_blk hb2, atu, hu]
  by_cases y1 : 200 < (lss.length : Int)
  · simp only [gate_un, At.regD,Dps.new,go_sem,Nat.reduceEqDiff,Nat.reduceAdd,reduceIte,reduceCtorEq,Nat.reduceLeDiff,Int.reduceBEq,Int.reduceBNe,Int.reduceEq,Int.reduceLT,Int.reduceLE,Int.reduceNeg, y1, c16_2]
    refine callV.of (E_lives _) fun v h' hv => ?_
    obtain ⟨rfl, rfl⟩ := hv
    simp only [At.regD,Dps.new,go_sem,Nat.reduceEqDiff,Nat.reduceAdd,reduceIte,reduceCtorEq,Nat.reduceLeDiff,Int.reduceBEq,Int.reduceBNe,Int.reduceEq,Int.reduceLT,Int.reduceLE,Int.reduceNeg]
  simp only [gate_un, At.regD,Dps.new,go_sem,Nat.reduceEqDiff,Nat.reduceAdd,reduceIte,reduceCtorEq,Nat.reduceLeDiff,Int.reduceBEq,Int.reduceBNe,Int.reduceEq,Int.reduceLT,Int.reduceLE,Int.reduceNeg, y1, ld6 hc2]
  refine callV.of (asked_ok (k.to (Nat.le_refl _) hx02) s) fun v h3 hv => ?_
  obtain ⟨rfl, hx3⟩ := hv
  have hx03 := hx02.trans (hx3.le hx02.1)
  have hc3 : h3.get h.next = some ⟨c.cells, false⟩ := (hx3.2 _ (by omega)).trans hc2
  have hb3 : h3.get h1.next = some ⟨[u], false⟩ := (hx3.2 _ (by omega)).trans hb2
  have rest : ∀ (h4 : H), Ext h.next h h4 → h4.get h.next = some ⟨c.cells, false⟩ → h4.get h1.next = some ⟨[u], false⟩ → h1.next < h4.next → (askP c bad budget && cmayP c lss) = false → ∀ T : Tm, g T 4 = .pointer (some ⟨h.next, 0, none⟩) → g T 6 = .pointer (some ⟨h1.next, 0, none⟩) → g T 1 = int bad → g T 3 = int budget →
      At E c16_3 T h4 [.seq (.seq (.seq c16_4 (.cond (.tmp 51) (.seq c16_5 .ret) .skip)) (.seq (.seq c16_6 (.cond (.tmp 55) (.seq c16_7 .ret) .skip)) (.seq c16_8 (.seq c16_9 .ret))))] (resQ [.tmp 8] fun v _ => v = .bool true) := by
    intro h4 hx04 hc4 hb4 hlt4 hno T g4 g6 g1 g3
    simp only [At.regD,Dps.new,go_sem,Nat.reduceEqDiff,Nat.reduceAdd,reduceIte,reduceCtorEq,Nat.reduceLeDiff,Int.reduceBEq,Int.reduceBNe,Int.reduceEq,Int.reduceLT,Int.reduceLE,Int.reduceNeg, c16_3, g4, g6, g1, g3, ld6 hc4, lds1 hb4]
    refine callV.of (less_args (k.to (Nat.le_refl _) hx04) s (x.to (Nat.le_refl _) hx04) (fun y => by rw [askP_args.2 y] at hno; cases hno)) fun v h5 hv => ?_
    obtain ⟨rfl, hx5⟩ := hv
    have hx05 := hx04.trans (hx5.le hx04.1)
    have hl4 := hx04.1
    have hl5 := hx5.1
    have hc5 : h5.get h.next = some ⟨c.cells, false⟩ := (hx5.2 _ (by omega)).trans hc4
    have st1 := sts_of (h := h5.new ⟨[.slice none 0 0], false⟩) (i := h5.next) (off := 0) (vs := [.slice none 0 0]) (get_newest h5 _) rfl (Nat.le_refl _) rfl
    have f1 : (some { (⟨[.slice none 0 0], false⟩ : Blk) with cells := put [.slice none 0 0] 0 [.slice none 0 0] }) = some (⟨[.slice none 0 0], false⟩ : Blk) := rfl
    rw [f1] at st1
    obtain ⟨h6, hh6⟩ : ∃ h6, (h5.new ⟨[.slice none 0 0], false⟩).set h5.next (some ⟨[.slice none 0 0], false⟩) = h6 := ⟨_, rfl⟩
    rw [hh6] at st1
    have hg6 : h6.get h5.next = some ⟨[.slice none 0 0], false⟩ := by rw [← hh6, H.get_set, if_pos rfl]
    have hx6 : Ext h5.next h5 h6 := by rw [← hh6]; exact ext_box _ _
    have hl6 := hx6.1
    have hx06 := hx05.trans (hx6.le hx05.1)
    have hc6 : h6.get h.next = some ⟨c.cells, false⟩ := (hx6.2 _ (by omega)).trans hc5
    have atn : ([.slice none 0 0] : List Value)[0]? = some (.slice none 0 0) := rfl
    simp only [gate_un, At.regD,Dps.new,go_sem,Nat.reduceEqDiff,Nat.reduceAdd,reduceIte,reduceCtorEq,Nat.reduceLeDiff,Int.reduceBEq,Int.reduceBNe,Int.reduceEq,Int.reduceLT,Int.reduceLE,Int.reduceNeg, st1, c16_4, ld_blk hg6, atn, c16_6, g4, g1, g3, ld6 hc6]
    refine callV.of (asked_ok (k.to (Nat.le_refl _) hx06) s) fun v h7 hv => ?_
    obtain ⟨rfl, hx7⟩ := hv
    have hl7 := hx7.1
    have hx07 := hx06.trans (hx7.le hx06.1)
    have hc7 : h7.get h.next = some ⟨c.cells, false⟩ := (hx7.2 _ (by omega)).trans hc6
    cases hm : askP c bad budget
    rotate_left
    · simp only [gate_un, At.regD,Dps.new,go_sem,Nat.reduceEqDiff,Nat.reduceAdd,reduceIte,reduceCtorEq,Nat.reduceLeDiff,Int.reduceBEq,Int.reduceBNe,Int.reduceEq,Int.reduceLT,Int.reduceLE,Int.reduceNeg, c16_7]
      refine callV.of (E_lives _) fun v h' hv => ?_
      obtain ⟨rfl, rfl⟩ := hv
      simp only [At.regD,Dps.new,go_sem,Nat.reduceEqDiff,Nat.reduceAdd,reduceIte,reduceCtorEq,Nat.reduceLeDiff,Int.reduceBEq,Int.reduceBNe,Int.reduceEq,Int.reduceLT,Int.reduceLE,Int.reduceNeg]
    simp only [gate_un, At.regD,Dps.new,go_sem,Nat.reduceEqDiff,Nat.reduceAdd,reduceIte,reduceCtorEq,Nat.reduceLeDiff,Int.reduceBEq,Int.reduceBNe,Int.reduceEq,Int.reduceLT,Int.reduceLE,Int.reduceNeg, c16_8, g4, g1, g3, ld6 hc7]
    refine callV.of (prove_args (k.to (Nat.le_refl _) hx07) s hm) fun v h8 hv => ?_
    obtain ⟨rfl, hx8⟩ := hv
    obtain ⟨h9, hh9⟩ : ∃ h9, h8.new ⟨[.slice none 0 0], false⟩ = h9 := ⟨_, rfl⟩
    have hg9 : h9.get h8.next = some ⟨[.slice none 0 0], false⟩ := by rw [← hh9, H.get_new, if_pos rfl]
    have hn9 : h9.next = h8.next + 1 := by rw [← hh9]; rfl
    obtain ⟨h10, hh10⟩ : ∃ h10, h9.new ⟨[int 0, .slice none 0 0, .slice none 0 0], false⟩ = h10 := ⟨_, rfl⟩
    have hg10 : h10.get h9.next = some ⟨[int 0, .slice none 0 0, .slice none 0 0], false⟩ := by rw [← hh10, H.get_new, if_pos rfl]
    have hk10 : h10.get h8.next = some ⟨[.slice none 0 0], false⟩ := by rw [← hh10, H.get_new, if_neg (by omega)]; exact hg9
    have st3 := sts_of (h := h10) (i := h8.next) (off := 0) (vs := [.slice none 0 0]) hk10 rfl (Nat.le_refl _) rfl
    rw [f1] at st3
    obtain ⟨h11, hh11⟩ : ∃ h11, h10.set h8.next (some ⟨[.slice none 0 0], false⟩) = h11 := ⟨_, rfl⟩
    rw [hh11] at st3
    have hk11 : h11.get h8.next = some ⟨[.slice none 0 0], false⟩ := by rw [← hh11, H.get_set, if_pos rfl]
    have hg11 : h11.get h9.next = some ⟨[int 0, .slice none 0 0, .slice none 0 0], false⟩ := by rw [← hh11, H.get_set, if_neg (by omega)]; exact hg10
    have st4 := sts_of (h := h11) (i := h9.next) (off := 0) (vs := [int 0, .slice none 0 0, .slice none 0 0]) hg11 rfl (Nat.le_refl _) rfl
    have f2 : (some { (⟨[int 0, .slice none 0 0, .slice none 0 0], false⟩ : Blk) with cells := put [int 0, .slice none 0 0, .slice none 0 0] 0 [int 0, .slice none 0 0, .slice none 0 0] }) = some (⟨[int 0, .slice none 0 0, .slice none 0 0], false⟩ : Blk) := rfl
    rw [f2] at st4
    obtain ⟨h12, hh12⟩ : ∃ h12, h11.set h9.next (some ⟨[int 0, .slice none 0 0, .slice none 0 0], false⟩) = h12 := ⟨_, rfl⟩
    rw [hh12] at st4
    have hk12 : h12.get h8.next = some ⟨[.slice none 0 0], false⟩ := by rw [← hh12, H.get_set, if_neg (by omega)]; exact hk11
    have hg12 : h12.get h9.next = some ⟨[int 0, .slice none 0 0, .slice none 0 0], false⟩ := by rw [← hh12, H.get_set, if_pos rfl]
    have at2 : ([int 0, .slice none 0 0, .slice none 0 0] : List Value)[2]? = some (.slice none 0 0) := rfl
    have w0 : (IntKind.i64.wrap (0 + 0) == 0) = true := rfl
    simp only [gate_un, At.regD,Dps.new,go_sem,Nat.reduceEqDiff,Nat.reduceAdd,reduceIte,reduceCtorEq,Nat.reduceLeDiff,Int.reduceBEq,Int.reduceBNe,Int.reduceEq,Int.reduceLT,Int.reduceLE,Int.reduceNeg, hh9, hh10, st3, st4, c16_9, ld_blk hk12, ld_blk hg12, atn, at2, w0]
    refine callV.of (E_lives _) fun v h' hv => ?_
    obtain ⟨rfl, rfl⟩ := hv
    simp only [gate_un, At.regD,Dps.new,go_sem,Nat.reduceEqDiff,Nat.reduceAdd,reduceIte,reduceCtorEq,Nat.reduceLeDiff,Int.reduceBEq,Int.reduceBNe,Int.reduceEq,Int.reduceLT,Int.reduceLE,Int.reduceNeg]
  cases hm : askP c bad budget
  · simp only [gate_un, At.regD,Dps.new,go_sem,Nat.reduceEqDiff,Nat.reduceAdd,reduceIte,reduceCtorEq,Nat.reduceLeDiff,Int.reduceBEq,Int.reduceBNe,Int.reduceEq,Int.reduceLT,Int.reduceLE,Int.reduceNeg]
    exact rest h3 hx03 hc3 hb3 (by have := hx3.1; omega) (by rw [hm]; rfl) _ rfl rfl rfl rfl
  simp only [gate_un, At.regD,Dps.new,go_sem,Nat.reduceEqDiff,Nat.reduceAdd,reduceIte,reduceCtorEq,Nat.reduceLeDiff,Int.reduceBEq,Int.reduceBNe,Int.reduceEq,Int.reduceLT,Int.reduceLE,Int.reduceNeg, ld6 hc3, lds1 hb3]
  refine callV.of (rcmay_ok (k.to (Nat.le_refl _) hx03) s (x.to (Nat.le_refl _) hx03)) fun v h4 hv => ?_
  obtain ⟨rfl, hx4⟩ := hv
  have hx04 := hx03.trans (hx4.le hx03.1)
  have hl3 := hx3.1
  have hc4 : h4.get h.next = some ⟨c.cells, false⟩ := (hx4.2 _ (by omega)).trans hc3
  have hb4 : h4.get h1.next = some ⟨[u], false⟩ := (hx4.2 _ (by omega)).trans hb3
  cases hm2 : cmayP c lss
  · simp only [gate_un, At.regD,Dps.new,go_sem,Nat.reduceEqDiff,Nat.reduceAdd,reduceIte,reduceCtorEq,Nat.reduceLeDiff,Int.reduceBEq,Int.reduceBNe,Int.reduceEq,Int.reduceLT,Int.reduceLE,Int.reduceNeg]
    exact rest h4 hx04 hc4 hb4 (by have := hx4.1; omega) (by rw [hm, hm2]; rfl) _ rfl rfl rfl rfl
  simp only [gate_un, At.regD,Dps.new,go_sem,Nat.reduceEqDiff,Nat.reduceAdd,reduceIte,reduceCtorEq,Nat.reduceLeDiff,Int.reduceBEq,Int.reduceBNe,Int.reduceEq,Int.reduceLT,Int.reduceLE,Int.reduceNeg, c16_2]
  refine callV.of (E_lives _) fun v h' hv => ?_
  obtain ⟨rfl, rfl⟩ := hv
  simp only [At.regD,Dps.new,go_sem,Nat.reduceEqDiff,Nat.reduceAdd,reduceIte,reduceCtorEq,Nat.reduceLeDiff,Int.reduceBEq,Int.reduceBNe,Int.reduceEq,Int.reduceLT,Int.reduceLE,Int.reduceNeg]
end Go.Proofs.YtmmpnmekiplhfaaGreat
