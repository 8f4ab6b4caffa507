/-
  May a certificate be for a circuit? What the document says is what cert.May says.
-/
import Derived.Test.YtmmpnmekiplhfaaGreatAeOpen4
import Derived.Test.YtmmpnmekiplhfaaGreatPdrRefMay
namespace Go.Proofs.YtmmpnmekiplhfaaGreat
open Go Go.Ae
set_option linter.unusedSimpArgs false

/-- A certificate's clauses. -/
structure CrtOk (n : Nat) (h : H) (u : Value) (lss : List (List Int)) : Prop where
  r : RdsK .u32 n h u lss
  w : ∀ l ∈ lss, l.length ≤ 9223372036854775807 ∧ ∀ z ∈ l, U32 z
  b : lss.length ≤ 9223372036854775807
theorem CrtOk.ext {n : Nat} {h h' : H} {u : Value} {lss : List (List Int)} (k : CrtOk n h u lss) (e : Ext n h h') : CrtOk n h' u lss := { k with r := k.r.ext e }
theorem CrtOk.to {n : Nat} {h h' : H} {u : Value} {lss : List (List Int)} (k : CrtOk n h u lss) (hn : n ≤ h.next) (e : Ext n h h') : CrtOk h'.next h' u lss := { k with r := k.r.to hn e }

def litOk (c : Cir) (z : Int) : Bool := decide (c.inputs < z / 2) && decide (z / 2 ≤ c.inputs + c.lats.length)
def clOk (c : Cir) (l : List Int) : Bool := decide (l.length ≤ 4096) && l.all (litOk c)
def cmayP (c : Cir) (lss : List (List Int)) : Bool := mayP c && (decide (lss.length ≤ 65536) && lss.all (clOk c))

abbrev cellOf (u : Value) : List Value := [u]
theorem cells_fn (f : Fn) (a b : Array Value) : (Value.func f a b).cells = #[.func f a b] := rfl
theorem lds1 {h : H} {p : Nat} {u : Value} (e : h.get p = some ⟨[u], false⟩) : h.lds p 0 1 = some [u] := lds_blk e rfl

/-- One clause, literal by literal. -/
inductive CI (c : Cir) (l : List Int) (hA : H) : Nat → Tm → H → Prop
  | mk {T : Tm} (i : Nat) (hi : i ≤ l.length) (g6 : g T 6 = int i) (ha : (l.take i).all (litOk c) = true) : CI c l hA (l.length - i) T hA
inductive CO (c : Cir) (lss : List (List Int)) (hA : H) : Nat → Tm → H → Prop
  | mk {T : Tm} (i : Nat) (hi : i ≤ lss.length) (g5 : g T 5 = int i) (ha : (lss.take i).all (clOk c) = true) : CO c lss hA (lss.length - i) T hA

theorem mayP_sz {c : Cir} (h : mayP c = true) : 0 ≤ c.inputs ∧ c.inputs ≤ 16384 ∧ c.lats.length ≤ 16384 := by
  have := mayP_size h
  unfold varsP at this
  omega

set_option maxHeartbeats 8000000 in
theorem rcmay_ok {c : Cir} {h : H} {u : Value} {lss : List (List Int)} (k : CirOk h.next h c) (s : Small c) (x : CrtOk h.next h u lss) :
    AF E 33 [.agg c.cells.toArray, .agg #[u]] h fun v h' => v = .bool (cmayP c lss) ∧ Ext h.next h h' := by
  refine AF.walk (E_fn comp33) (E_spec (by decide) _ _) ?_
  obtain ⟨⟨a1, m1, e1⟩, ⟨a2, m2, e2⟩, ⟨a3, m3, e3⟩, ⟨a4, m4, e4⟩, ⟨a5, m5, e5⟩⟩ := k.sl
  have hx1 : Ext h.next h (h.new ⟨c.cells, false⟩) := Ext.new _
  have hb1 : (h.new ⟨c.cells, false⟩).get h.next = some ⟨c.cells, false⟩ := by rw [H.get_new, if_pos rfl]
  have hn1 : (h.new ⟨c.cells, false⟩).next = h.next + 1 := rfl
  simp only [At.regD,Dps.new,go_sem,Nat.reduceEqDiff,Nat.reduceAdd,reduceIte,reduceCtorEq,Nat.reduceLeDiff,Int.reduceBEq,Int.reduceBNe,Int.reduceEq,Int.reduceLT,Int.reduceLE,Int.reduceNeg, c33, c33_0, cells_agg]
  generalize h.new ⟨c.cells, false⟩ = h1 at hx1 hb1 hn1
  have hx2 : Ext h1.next h1 (h1.new ⟨[u], false⟩) := Ext.new _
  have hb2 : (h1.new ⟨[u], false⟩).get h1.next = some ⟨[u], false⟩ := by rw [H.get_new, if_pos rfl]
  have hn2 : (h1.new ⟨[u], false⟩).next = h1.next + 1 := rfl
  generalize h1.new ⟨[u], false⟩ = h2 at hx2 hb2 hn2
  have hc2 : h2.get h.next = some ⟨c.cells, false⟩ := (hx2.2 _ (by omega)).trans hb1
  have hx02 := hx1.trans (hx2.le hx1.1)
  simp only [At.regD,Dps.new,go_sem,Nat.reduceEqDiff,Nat.reduceAdd,reduceIte,reduceCtorEq,Nat.reduceLeDiff,Int.reduceBEq,Int.reduceBNe,Int.reduceEq,Int.reduceLT,Int.reduceLE,Int.reduceNeg, c33_1, ld6 hc2]
  refine callV.of (rmay_ok (k.to (Nat.le_refl _) hx02) s) fun v h3 hv => ?_
  obtain ⟨rfl, hx3⟩ := hv
  have hx03 := hx02.trans (hx3.le hx02.1)
  have hc3 : h3.get h.next = some ⟨c.cells, false⟩ := (hx3.2 _ (by omega)).trans hc2
  have hb3 : h3.get h1.next = some ⟨[u], false⟩ := (hx3.2 _ (by omega)).trans hb2
  have kx := x.to (Nat.le_refl _) hx03
  obtain ⟨ua, uc, hu⟩ := kx.r.len
  cases hm : mayP c
  · simp only [At.regD,Dps.new,go_sem,Nat.reduceEqDiff,Nat.reduceAdd,reduceIte,reduceCtorEq,Nat.reduceLeDiff,Int.reduceBEq,Int.reduceBNe,Int.reduceEq,Int.reduceLT,Int.reduceLE,Int.reduceNeg, c33_2]
    exact ⟨by unfold cmayP; rw [hm]; rfl, hx03⟩
  obtain ⟨q0, q1, q2⟩ := mayP_sz hm
  simp only [At.regD,Dps.new,go_sem,Nat.reduceEqDiff,Nat.reduceAdd,reduceIte,reduceCtorEq,Nat.reduceLeDiff,Int.reduceBEq,Int.reduceBNe,Int.reduceEq,Int.reduceLT,Int.reduceLE,Int.reduceNeg, ld_blk hb3, hu]
  by_cases hbig : (65536 : Int) < lss.length
  · simp only [At.regD,Dps.new,go_sem,Nat.reduceEqDiff,Nat.reduceAdd,reduceIte,reduceCtorEq,Nat.reduceLeDiff,Int.reduceBEq,Int.reduceBNe,Int.reduceEq,Int.reduceLT,Int.reduceLE,Int.reduceNeg, hbig, c33_2]
    exact ⟨by unfold cmayP; rw [hm, decide_eq_false (by omega)]; rfl, hx03⟩
  simp only [At.regD,Dps.new,go_sem,Nat.reduceEqDiff,Nat.reduceAdd,reduceIte,reduceCtorEq,Nat.reduceLeDiff,Int.reduceBEq,Int.reduceBNe,Int.reduceEq,Int.reduceLT,Int.reduceLE,Int.reduceNeg, hbig, c33_3]
  have w1 : IntKind.i64.wrap (c.inputs + c.lats.length) = c.inputs + c.lats.length := wrap_id (by omega) (by omega)
  refine At.loopK [4, 5, 6, 7, 17, 18, 19, 20, 21, 22, 23, 24, 25, 26, 27, 28, 29, 30, 31, 32, 33, 34, 35, 36, 37, 38, 39, 40, 41, 42, 43, 44, 45, 46, 47, 48, 49, 50, 51, 52, 53, 54, 55, 56, 57, 58, 59, 60, 61, 62, 63, 64] (CO c lss h3) ?_ lss.length ?_
  rotate_left
  · exact .mk 0 (Nat.zero_le _) (by simp only [At.regD,Dps.new,go_sem,Nat.reduceEqDiff,Nat.reduceAdd,reduceIte,reduceCtorEq,Nat.reduceLeDiff,Int.reduceBEq,Int.reduceBNe,Int.reduceEq,Int.reduceLT,Int.reduceLE,Int.reduceNeg, cast_zero]) rfl
  rintro w T _ hk ⟨i, hi, g5, ha⟩
  have g2 := hk.at 2 rfl
  have g3 := hk.at 3 rfl
  simp only [At.regD,Dps.new,go_sem,Nat.reduceEqDiff,Nat.reduceAdd,reduceIte,reduceCtorEq,Nat.reduceLeDiff,Int.reduceBEq,Int.reduceBNe,Int.reduceEq,Int.reduceLT,Int.reduceLE,Int.reduceNeg] at g2 g3
  simp only [At.regD,Dps.new,go_sem,Nat.reduceEqDiff,Nat.reduceAdd,reduceIte,reduceCtorEq,Nat.reduceLeDiff,Int.reduceBEq,Int.reduceBNe,Int.reduceEq,Int.reduceLT,Int.reduceLE,Int.reduceNeg, c33_4, g3, g5, ld_blk hb3, hu, Int.ofNat_lt]
  by_cases hlt : i < lss.length
  · obtain ⟨b, o, sp, cap, el, hb, hld, hre, hoe⟩ := kx.r.at hlt
    rw [hu] at hb; cases hb
    obtain ⟨ea, ec, hel⟩ := hre.len
    rw [List.length_map] at hel
    have hwl := x.w _ (List.getElem_mem hlt)
    have hfalse : clOk c lss[i] = false → cmayP c lss = false := fun hf => by
      unfold cmayP
      have : lss.all (clOk c) = false := by rw [List.all_eq_false]; exact ⟨_, List.getElem_mem hlt, by rw [hf]; decide⟩
      rw [this, Bool.and_false, Bool.and_false]
    simp only [At.regD,Dps.new,go_sem,Nat.reduceEqDiff,Nat.reduceAdd,reduceIte,reduceCtorEq,Nat.reduceLeDiff,Int.reduceBEq,Int.reduceBNe,Int.reduceEq,Int.reduceLT,Int.reduceLE,Int.reduceNeg, hlt, c33_5, g3, g5, ld_blk hb3, hu, natOf_int (Int.natCast_nonneg i), Int.toNat_natCast, hld, hel]
    by_cases hlong : (4096 : Int) < lss[i].length
    · simp only [At.regD,Dps.new,go_sem,Nat.reduceEqDiff,Nat.reduceAdd,reduceIte,reduceCtorEq,Nat.reduceLeDiff,Int.reduceBEq,Int.reduceBNe,Int.reduceEq,Int.reduceLT,Int.reduceLE,Int.reduceNeg, hlong, c33_6]
      exact ⟨by rw [hfalse (by unfold clOk; rw [decide_eq_false (by omega)]; rfl)], hx03⟩
    simp only [At.regD,Dps.new,go_sem,Nat.reduceEqDiff,Nat.reduceAdd,reduceIte,reduceCtorEq,Nat.reduceLeDiff,Int.reduceBEq,Int.reduceBNe,Int.reduceEq,Int.reduceLT,Int.reduceLE,Int.reduceNeg, hlong, c33_7]
    refine At.loopK [4, 6, 7, 31, 32, 33, 34, 35, 36, 37, 38, 39, 40, 41, 42, 43, 44, 45, 46, 47, 48, 49, 50, 51, 52, 53, 54, 55, 56, 57, 58, 59, 60, 61, 62, 63, 64] (CI c lss[i] h3) ?_ lss[i].length ?_
    rotate_left
    · exact .mk 0 (Nat.zero_le _) (by simp only [At.regD,Dps.new,go_sem,Nat.reduceEqDiff,Nat.reduceAdd,reduceIte,reduceCtorEq,Nat.reduceLeDiff,Int.reduceBEq,Int.reduceBNe,Int.reduceEq,Int.reduceLT,Int.reduceLE,Int.reduceNeg, cast_zero]) rfl
    rintro w2 T2 _ hk2 ⟨j, hj, g6, hja⟩
    have g2' := hk2.at 2 rfl
    have g3' := hk2.at 3 rfl
    have g5' := hk2.at 5 rfl
    simp only [At.regD,Dps.new,go_sem,Nat.reduceEqDiff,Nat.reduceAdd,reduceIte,reduceCtorEq,Nat.reduceLeDiff,Int.reduceBEq,Int.reduceBNe,Int.reduceEq,Int.reduceLT,Int.reduceLE,Int.reduceNeg, g2, g3, g5] at g2' g3' g5'
    simp only [At.regD,Dps.new,go_sem,Nat.reduceEqDiff,Nat.reduceAdd,reduceIte,reduceCtorEq,Nat.reduceLeDiff,Int.reduceBEq,Int.reduceBNe,Int.reduceEq,Int.reduceLT,Int.reduceLE,Int.reduceNeg, c33_8, g3', g5', g6, ld_blk hb3, hu, hlt, natOf_int (Int.natCast_nonneg i), Int.toNat_natCast, hld, hel, Int.ofNat_lt]
    by_cases hjt : j < lss[i].length
    · obtain ⟨b2, o2, s2, cap2, hb2', hld2⟩ := hre.at (show j < (lss[i].map (Value.int .u32)).length by simpa using hjt)
      rw [hel, List.length_map] at hb2'; cases hb2'
      rw [List.getElem_map] at hld2
      have hz := hwl.2 _ (List.getElem_mem hjt)
      have hjf : litOk c lss[i][j] = false → clOk c lss[i] = false := fun hf => by
        unfold clOk
        have : lss[i].all (litOk c) = false := by rw [List.all_eq_false]; exact ⟨_, List.getElem_mem hjt, by rw [hf]; decide⟩
        rw [this, Bool.and_false]
      simp only [At.regD,Dps.new,go_sem,Nat.reduceEqDiff,Nat.reduceAdd,reduceIte,reduceCtorEq,Nat.reduceLeDiff,Int.reduceBEq,Int.reduceBNe,Int.reduceEq,Int.reduceLT,Int.reduceLE,Int.reduceNeg, hjt, c33_9, g3', g5', g6, ld_blk hb3, hu, hlt, natOf_int (Int.natCast_nonneg i), natOf_int (Int.natCast_nonneg j), Int.toNat_natCast, hld, hel, hld2, quo2 hz, conv64 hz, c33_10, g2', ld_blk hc3, at0]
      by_cases y1 : lss[i][j] / 2 ≤ c.inputs
      · simp only [At.regD,Dps.new,go_sem,Nat.reduceEqDiff,Nat.reduceAdd,reduceIte,reduceCtorEq,Nat.reduceLeDiff,Int.reduceBEq,Int.reduceBNe,Int.reduceEq,Int.reduceLT,Int.reduceLE,Int.reduceNeg, y1, c33_11]
        exact ⟨by rw [hfalse (hjf (by unfold litOk; rw [decide_eq_false (by omega)]; rfl))], hx03⟩
      · by_cases y2 : c.inputs + c.lats.length < lss[i][j] / 2
        · simp only [At.regD,Dps.new,go_sem,Nat.reduceEqDiff,Nat.reduceAdd,reduceIte,reduceCtorEq,Nat.reduceLeDiff,Int.reduceBEq,Int.reduceBNe,Int.reduceEq,Int.reduceLT,Int.reduceLE,Int.reduceNeg, y1, g2', ld_blk hc3, at0, at1, e1, w1, y2, c33_11]
          exact ⟨by rw [hfalse (hjf (by unfold litOk; rw [decide_eq_false (show ¬ lss[i][j] / 2 ≤ c.inputs + c.lats.length by omega), Bool.and_false]))], hx03⟩
        · simp only [At.regD,Dps.new,go_sem,Nat.reduceEqDiff,Nat.reduceAdd,reduceIte,reduceCtorEq,Nat.reduceLeDiff,Int.reduceBEq,Int.reduceBNe,Int.reduceEq,Int.reduceLT,Int.reduceLE,Int.reduceNeg, y1, g2', ld_blk hc3, at0, at1, e1, w1, y2, c33_12, g6, wrap_succ (show j < 9223372036854775807 by omega)]
          refine ⟨_, ?_, ?_, .mk (j + 1) hjt ?_ ?_⟩
          · omega
          · (repeat refine Kt.put rfl ?_); exact hk2
          · simp only [At.regD,Dps.new,go_sem,Nat.reduceEqDiff,Nat.reduceAdd,reduceIte,reduceCtorEq,Nat.reduceLeDiff,Int.reduceBEq,Int.reduceBNe,Int.reduceEq,Int.reduceLT,Int.reduceLE,Int.reduceNeg]
          · rw [take_succ hjt, List.all_append, hja]; simp [litOk]; omega
    · have : j = lss[i].length := by omega
      subst this
      rw [List.take_length] at hja
      simp only [At.regD,Dps.new,go_sem,Nat.reduceEqDiff,Nat.reduceAdd,reduceIte,reduceCtorEq,Nat.reduceLeDiff,Int.reduceBEq,Int.reduceBNe,Int.reduceEq,Int.reduceLT,Int.reduceLE,Int.reduceNeg, hjt, c33_13, g5', wrap_succ (show i < 9223372036854775807 by have := x.b; omega)]
      refine ⟨_, ?_, ?_, .mk (i + 1) hlt ?_ ?_⟩
      · omega
      · (repeat refine Kt.put rfl ?_)
        refine Kt.trans ?_ (Kt.mono rfl hk2)
        (repeat refine Kt.put rfl ?_); exact hk
      · simp only [At.regD,Dps.new,go_sem,Nat.reduceEqDiff,Nat.reduceAdd,reduceIte,reduceCtorEq,Nat.reduceLeDiff,Int.reduceBEq,Int.reduceBNe,Int.reduceEq,Int.reduceLT,Int.reduceLE,Int.reduceNeg]
      · rw [take_succ hlt, List.all_append, ha]
        simp only [List.all_cons, List.all_nil, Bool.and_true, Bool.true_and]
        unfold clOk
        rw [hja, decide_eq_true (by omega)]; rfl
  · have : i = lss.length := by omega
    subst this
    rw [List.take_length] at ha
    simp only [At.regD,Dps.new,go_sem,Nat.reduceEqDiff,Nat.reduceAdd,reduceIte,reduceCtorEq,Nat.reduceLeDiff,Int.reduceBEq,Int.reduceBNe,Int.reduceEq,Int.reduceLT,Int.reduceLE,Int.reduceNeg, hlt, c33_14]
    exact ⟨by unfold cmayP; rw [hm, ha, decide_eq_true (by omega)]; rfl, hx03⟩

/-- The closures of cert.May. -/
theorem other_ok {c : Cir} {h : H} {p q : Nat} {z : Int} (hz : U32 z) (hp : h.get p = some ⟨[int (1 + c.inputs)], false⟩) (hq : h.get q = some ⟨[int (c.inputs + c.lats.length)], false⟩) :
    AF E 130 [.int .u32 z, .pointer (some ⟨p, 0, none⟩), .pointer (some ⟨q, 0, none⟩)] h fun v h' => v = .bool (!litOk c z) ∧ h' = h := by
  refine AF.walk (E_fn comp130) (E_spec (by decide) _ _) ?_
  simp only [stp2,go_sem,Nat.reduceEqDiff,Nat.reduceAdd,reduceIte,reduceCtorEq,Nat.reduceLeDiff,Int.reduceBEq,Int.reduceBNe,Int.reduceEq,Int.reduceLT,Int.reduceLE,Int.reduceNeg,List.nil_append,List.cons_append,List.append_nil,List.toList_toArray,Option.map_none, c130, c130_0, c130_1, shf, show ¬ ((1 : Int) < 0) by decide, shr_one, conv64 hz, ld_blk hp]
  by_cases y1 : z / 2 < 1 + c.inputs
  · simp only [stp2,go_sem,Nat.reduceEqDiff,Nat.reduceAdd,reduceIte,reduceCtorEq,Nat.reduceLeDiff,Int.reduceBEq,Int.reduceBNe,Int.reduceEq,Int.reduceLT,Int.reduceLE,Int.reduceNeg,List.nil_append,List.cons_append,List.append_nil,List.toList_toArray,Option.map_none, y1]
    unfold litOk
    rw [decide_eq_false (show ¬ c.inputs < z / 2 by omega)]; simp
  · simp only [stp2,go_sem,Nat.reduceEqDiff,Nat.reduceAdd,reduceIte,reduceCtorEq,Nat.reduceLeDiff,Int.reduceBEq,Int.reduceBNe,Int.reduceEq,Int.reduceLT,Int.reduceLE,Int.reduceNeg,List.nil_append,List.cons_append,List.append_nil,List.toList_toArray,Option.map_none, y1, shf, show ¬ ((1 : Int) < 0) by decide, shr_one, conv64 hz, ld_blk hq]
    unfold litOk
    rw [decide_eq_true (show c.inputs < z / 2 by omega)]
    by_cases y2 : c.inputs + c.lats.length < z / 2
    · simp [y2]
      try omega
    · simp [y2]
      try omega

theorem long_ok {c : Cir} {h : H} {r p q : Nat} {u : Value} {l : List Int} (hr : Rd h u (u32s l)) (ho : Old h.next u) (hb : l.length ≤ 9223372036854775807) (hw : ∀ z ∈ l, U32 z) (hg : h.get r = some ⟨[.func (.func 130) #[] #[.pointer (some ⟨p, 0, none⟩), .pointer (some ⟨q, 0, none⟩)]], false⟩)
    (hpl : p < h.next) (hql : q < h.next) (hp : h.get p = some ⟨[int (1 + c.inputs)], false⟩) (hq : h.get q = some ⟨[int (c.inputs + c.lats.length)], false⟩) :
    AF E 131 [u, .pointer (some ⟨r, 0, none⟩)] h fun v h' => v = .bool (!clOk c l) ∧ Ext h.next h h' := by
  refine AF.walk (E_fn comp131) (E_spec (by decide) _ _) ?_
  obtain ⟨a, m, hu⟩ := hr.len
  rw [List.length_map] at hu
  simp only [stp2,go_sem,Nat.reduceEqDiff,Nat.reduceAdd,reduceIte,reduceCtorEq,Nat.reduceLeDiff,Int.reduceBEq,Int.reduceBNe,Int.reduceEq,Int.reduceLT,Int.reduceLE,Int.reduceNeg,List.nil_append,List.cons_append,List.append_nil,List.toList_toArray,Option.map_none, c131, c131_0, c131_1, hu]
  by_cases hlong : (4096 : Int) < l.length
  · simp only [stp2,go_sem,Nat.reduceEqDiff,Nat.reduceAdd,reduceIte,reduceCtorEq,Nat.reduceLeDiff,Int.reduceBEq,Int.reduceBNe,Int.reduceEq,Int.reduceLT,Int.reduceLE,Int.reduceNeg,List.nil_append,List.cons_append,List.append_nil,List.toList_toArray,Option.map_none, hlong]
    exact ⟨by unfold clOk; rw [decide_eq_false (by omega)]; rfl, Ext.refl _ _⟩
  · simp only [stp2,go_sem,Nat.reduceEqDiff,Nat.reduceAdd,reduceIte,reduceCtorEq,Nat.reduceLeDiff,Int.reduceBEq,Int.reduceBNe,Int.reduceEq,Int.reduceLT,Int.reduceLE,Int.reduceNeg,List.nil_append,List.cons_append,List.append_nil,List.toList_toArray,Option.map_none, hlong, ld_blk hg]
    rw [← hu]
    refine callV.of (contains32_ok (p := fun z => !litOk c z) hr ho (by omega) (fun z hz h' hx' => AF.mono (other_ok (hw z hz) ((hx'.2 p hpl).trans hp) ((hx'.2 q hql).trans hq)) fun v h2 e => ⟨e.1, by rw [e.2]; exact Ext.refl _ _⟩)) fun v h' hv => ?_
    obtain ⟨rfl, hx⟩ := hv
    simp only [stp2,go_sem,Nat.reduceEqDiff,Nat.reduceAdd,reduceIte,reduceCtorEq,Nat.reduceLeDiff,Int.reduceBEq,Int.reduceBNe,Int.reduceEq,Int.reduceLT,Int.reduceLE,Int.reduceNeg,List.nil_append,List.cons_append,List.append_nil,List.toList_toArray,Option.map_none]
    refine ⟨?_, hx⟩
    unfold clOk
    rw [decide_eq_true (show l.length ≤ 4096 by omega), Bool.true_and, List.not_all_eq_any_not]

inductive IxI (p : List Int → Bool) (lss : List (List Int)) (hA : H) : Nat → Tm → H → Prop
  | mk {T : Tm} {h : H} (i : Nat) (hi : i ≤ lss.length) (hx : Ext hA.next hA h) (g8 : g T 8 = int i) (ha : ∀ l ∈ lss.take i, p l = false) : IxI p lss hA (lss.length - i) T h

set_option maxHeartbeats 1000000 in
theorem index_rows_ok {u : Value} {f : FuncId} {cap : Array Value} {lss : List (List Int)} {p : List Int → Bool} {h : H} (x : CrtOk h.next h u lss)
    (hf : ∀ (i : Nat) (hi : i < lss.length) (el : Value) h', Ext h.next h h' → Rd h' el (u32s lss[i]) → Old h'.next el → AF E f (el :: cap.toList) h' fun v h'' => v = .bool (p lss[i]) ∧ Ext h'.next h' h'') :
    AF E 152 [u, .func (.func f) #[] cap] h fun v h' => (∃ r : Int, v = int r ∧ (decide (0 ≤ r) = lss.any p)) ∧ Ext h.next h h' := by
  refine AF.walk (E_fn comp152) (E_spec (by decide) _ _) ?_
  obtain ⟨ua, uc, hu⟩ := x.r.len
  simp only [stp2,go_sem,Nat.reduceEqDiff,Nat.reduceAdd,reduceIte,reduceCtorEq,Nat.reduceLeDiff,Int.reduceBEq,Int.reduceBNe,Int.reduceEq,Int.reduceLT,Int.reduceLE,Int.reduceNeg,List.nil_append,List.cons_append,List.append_nil,List.toList_toArray,Option.map_none, c152, c152_0, c152_1, hu]
  rw [← hu]
  refine At.loopK [4, 5, 8, 9, 10, 11, 12, 13, 14, 15, 16, 17, 18] (IxI p lss h) ?_ lss.length ?_
  rotate_left
  · exact .mk 0 (Nat.zero_le _) (Ext.refl _ _) (by simp only [stp2,go_sem,Nat.reduceEqDiff,Nat.reduceAdd,reduceIte,reduceCtorEq,Nat.reduceLeDiff,Int.reduceBEq,Int.reduceBNe,Int.reduceEq,Int.reduceLT,Int.reduceLE,Int.reduceNeg,List.nil_append,List.cons_append,List.append_nil,List.toList_toArray,Option.map_none, cast_zero]) (by simp)
  rintro w T h1 hk ⟨i, hi, hx, g8, ha⟩
  have g0 := hk.at 0 rfl
  have g1 := hk.at 1 rfl
  have g7 := hk.at 7 rfl
  simp only [stp2,go_sem,Nat.reduceEqDiff,Nat.reduceAdd,reduceIte,reduceCtorEq,Nat.reduceLeDiff,Int.reduceBEq,Int.reduceBNe,Int.reduceEq,Int.reduceLT,Int.reduceLE,Int.reduceNeg,List.nil_append,List.cons_append,List.append_nil,List.toList_toArray,Option.map_none] at g0 g1 g7
  have g0s := g0.trans hu
  simp only [stp2,go_sem,Nat.reduceEqDiff,Nat.reduceAdd,reduceIte,reduceCtorEq,Nat.reduceLeDiff,Int.reduceBEq,Int.reduceBNe,Int.reduceEq,Int.reduceLT,Int.reduceLE,Int.reduceNeg,List.nil_append,List.cons_append,List.append_nil,List.toList_toArray,Option.map_none, c152_2, g7, g8, Int.ofNat_lt]
  by_cases hlt : i < lss.length
  · obtain ⟨b, o, sp, cp, el, hb, hld, hre, hoe⟩ := (x.r.ext hx).at hlt
    rw [hu] at hb; cases hb
    simp only [stp2,go_sem,Nat.reduceEqDiff,Nat.reduceAdd,reduceIte,reduceCtorEq,Nat.reduceLeDiff,Int.reduceBEq,Int.reduceBNe,Int.reduceEq,Int.reduceLT,Int.reduceLE,Int.reduceNeg,List.nil_append,List.cons_append,List.append_nil,List.toList_toArray,Option.map_none, hlt, c152_3, c152_4, g0s, g1, g8, natOf_int (Int.natCast_nonneg i), Int.toNat_natCast, hld]
    refine callV.of (hf i hlt el h1 hx hre (hoe.mono hx.1)) fun v h2 hv => ?_
    obtain ⟨rfl, hx2⟩ := hv
    have hxx := hx.trans (hx2.le hx.1)
    cases hp : p lss[i]
    · simp only [stp2,go_sem,Nat.reduceEqDiff,Nat.reduceAdd,reduceIte,reduceCtorEq,Nat.reduceLeDiff,Int.reduceBEq,Int.reduceBNe,Int.reduceEq,Int.reduceLT,Int.reduceLE,Int.reduceNeg,List.nil_append,List.cons_append,List.append_nil,List.toList_toArray,Option.map_none, c152_6, g8, wrap_succ (show i < 9223372036854775807 by have := x.b; omega)]
      refine ⟨_, ?_, ?_, .mk (i + 1) hlt hxx ?_ ?_⟩
      · omega
      · (repeat refine Kt.put rfl ?_); exact hk
      · simp only [stp2,go_sem,Nat.reduceEqDiff,Nat.reduceAdd,reduceIte,reduceCtorEq,Nat.reduceLeDiff,Int.reduceBEq,Int.reduceBNe,Int.reduceEq,Int.reduceLT,Int.reduceLE,Int.reduceNeg,List.nil_append,List.cons_append,List.append_nil,List.toList_toArray,Option.map_none]
      · intro l hl
        rw [take_succ hlt, List.mem_append, List.mem_singleton] at hl
        rcases hl with hl | rfl
        · exact ha l hl
        · exact hp
    · simp only [stp2,go_sem,Nat.reduceEqDiff,Nat.reduceAdd,reduceIte,reduceCtorEq,Nat.reduceLeDiff,Int.reduceBEq,Int.reduceBNe,Int.reduceEq,Int.reduceLT,Int.reduceLE,Int.reduceNeg,List.nil_append,List.cons_append,List.append_nil,List.toList_toArray,Option.map_none, c152_5]
      refine ⟨⟨i, rfl, ?_⟩, hxx⟩
      rw [decide_eq_true (Int.natCast_nonneg i)]
      exact (List.any_eq_true.2 ⟨_, List.getElem_mem hlt, hp⟩).symm
  · have : i = lss.length := by omega
    subst this
    rw [List.take_length] at ha
    simp only [stp2,go_sem,Nat.reduceEqDiff,Nat.reduceAdd,reduceIte,reduceCtorEq,Nat.reduceLeDiff,Int.reduceBEq,Int.reduceBNe,Int.reduceEq,Int.reduceLT,Int.reduceLE,Int.reduceNeg,List.nil_append,List.cons_append,List.append_nil,List.toList_toArray,Option.map_none, hlt, c152_7]
    refine ⟨⟨-1, rfl, ?_⟩, hx⟩
    have : lss.any p = false := by rw [List.any_eq_false]; intro l hl; simp [ha l hl]
    rw [this]; rfl

theorem contains_rows_ok {u : Value} {f : FuncId} {cap : Array Value} {lss : List (List Int)} {p : List Int → Bool} {h : H} (x : CrtOk h.next h u lss)
    (hf : ∀ (i : Nat) (hi : i < lss.length) (el : Value) h', Ext h.next h h' → Rd h' el (u32s lss[i]) → Old h'.next el → AF E f (el :: cap.toList) h' fun v h'' => v = .bool (p lss[i]) ∧ Ext h'.next h' h'') :
    AF E 100 [u, .func (.func f) #[] cap] h fun v h' => v = .bool (lss.any p) ∧ Ext h.next h h' := by
  refine AF.walk (E_fn comp100) (E_spec (by decide) _ _) ?_
  simp only [stp2,go_sem,Nat.reduceEqDiff,Nat.reduceAdd,reduceIte,reduceCtorEq,Nat.reduceLeDiff,Int.reduceBEq,Int.reduceBNe,Int.reduceEq,Int.reduceLT,Int.reduceLE,Int.reduceNeg,List.nil_append,List.cons_append,List.append_nil,List.toList_toArray,Option.map_none, c100, c100_0, c100_1]
  refine callV.of (index_rows_ok x hf) fun v h' hv => ?_
  obtain ⟨⟨r, rfl, hr⟩, hx⟩ := hv
  simp only [stp2,go_sem,Nat.reduceEqDiff,Nat.reduceAdd,reduceIte,reduceCtorEq,Nat.reduceLeDiff,Int.reduceBEq,Int.reduceBNe,Int.reduceEq,Int.reduceLT,Int.reduceLE,Int.reduceNeg,List.nil_append,List.cons_append,List.append_nil,List.toList_toArray,Option.map_none, hr]
  exact hx

set_option maxHeartbeats 8000000 in
theorem cmay_ok {c : Cir} {h : H} {u : Value} {lss : List (List Int)} (k : CirOk h.next h c) (s : Small c) (x : CrtOk h.next h u lss) :
    AF E 83 [.agg c.cells.toArray, .agg #[u]] h fun v h' => v = .bool (cmayP c lss) ∧ Ext h.next h h' := by
  refine AF.walk (E_fn comp83) (E_spec (by decide) _ _) ?_
  have sl := s.l
  obtain ⟨⟨a1, m1, e1⟩, ⟨a2, m2, e2⟩, ⟨a3, m3, e3⟩, ⟨a4, m4, e4⟩, ⟨a5, m5, e5⟩⟩ := k.sl
  have hx1 : Ext h.next h (h.new ⟨c.cells, false⟩) := Ext.new _
  have hb1 : (h.new ⟨c.cells, false⟩).get h.next = some ⟨c.cells, false⟩ := by rw [H.get_new, if_pos rfl]
  have hn1 : (h.new ⟨c.cells, false⟩).next = h.next + 1 := rfl
  simp only [At.regD,Dps.new,go_sem,Nat.reduceEqDiff,Nat.reduceAdd,reduceIte,reduceCtorEq,Nat.reduceLeDiff,Int.reduceBEq,Int.reduceBNe,Int.reduceEq,Int.reduceLT,Int.reduceLE,Int.reduceNeg, c83, c83_0, cells_agg]
  generalize h.new ⟨c.cells, false⟩ = h1 at hx1 hb1 hn1
  have hx2 : Ext h1.next h1 (h1.new ⟨[u], false⟩) := Ext.new _
  have hb2 : (h1.new ⟨[u], false⟩).get h1.next = some ⟨[u], false⟩ := by rw [H.get_new, if_pos rfl]
  have hn2 : (h1.new ⟨[u], false⟩).next = h1.next + 1 := rfl
  generalize h1.new ⟨[u], false⟩ = h2 at hx2 hb2 hn2
  have hc2 : h2.get h.next = some ⟨c.cells, false⟩ := (hx2.2 _ (by omega)).trans hb1
  have hx02 := hx1.trans (hx2.le hx1.1)
  obtain ⟨A, w1⟩ : ∃ A, IntKind.i64.wrap (1 + c.inputs) = A := ⟨_, rfl⟩
  obtain ⟨B, w2⟩ : ∃ B, IntKind.i64.wrap (c.inputs + c.lats.length) = B := ⟨_, rfl⟩
  simp only [stp2,go_sem,Nat.reduceEqDiff,Nat.reduceAdd,reduceIte,reduceCtorEq,Nat.reduceLeDiff,Int.reduceBEq,Int.reduceBNe,Int.reduceEq,Int.reduceLT,Int.reduceLE,Int.reduceNeg,List.nil_append,List.cons_append,List.append_nil,List.toList_toArray,Option.map_none, c83_1, kept_no (show h.next < h2.next by omega), H.ld_up, ld_blk hc2, at0, at1, e1, w1, w2]
  have st1 := sts_of (h := ((h2.up 2).set h2.next (some ⟨[int 0], false⟩)).set (h2.next + 1) (some ⟨[int 0], false⟩)) (i := h2.next) (off := 0) (k := ⟨[int 0], false⟩) (vs := [int A]) (by rw [H.get_set, if_neg (by omega), H.get_set, if_pos rfl]) rfl (Nat.le_refl _) rfl
  rw [st1]
  simp only [Option.map_some]
  rw [dopV.chks]
  have hx3 : Ext h2.next h2 ((((h2.up 2).set h2.next (some ⟨[int 0], false⟩)).set (h2.next + 1) (some ⟨[int 0], false⟩)).set h2.next (some ⟨[int A], false⟩)) := ⟨Nat.le_add_right _ _, fun i hi => by
    rw [H.get_set, if_neg (by omega), H.get_set, if_neg (by omega), H.get_set, if_neg (by omega), H.get_up]⟩
  have hp3 : ((((h2.up 2).set h2.next (some ⟨[int 0], false⟩)).set (h2.next + 1) (some ⟨[int 0], false⟩)).set h2.next (some ⟨[int A], false⟩)).get h2.next = some ⟨[int A], false⟩ := by rw [H.get_set, if_pos rfl]
  have hq3 : ((((h2.up 2).set h2.next (some ⟨[int 0], false⟩)).set (h2.next + 1) (some ⟨[int 0], false⟩)).set h2.next (some ⟨[int A], false⟩)).get (h2.next + 1) = some ⟨[int 0], false⟩ := by rw [H.get_set, if_neg (by omega), H.get_set, if_pos rfl]
  have hn3 : ((((h2.up 2).set h2.next (some ⟨[int 0], false⟩)).set (h2.next + 1) (some ⟨[int 0], false⟩)).set h2.next (some ⟨[int A], false⟩)).next = h2.next + 2 := rfl
  have e0 : (some { (⟨[int 0], false⟩ : Blk) with cells := put [int 0] 0 [int A] }) = some (⟨[int A], false⟩ : Blk) := rfl
  simp only [e0]
  generalize ((((h2.up 2).set h2.next (some ⟨[int 0], false⟩)).set (h2.next + 1) (some ⟨[int 0], false⟩)).set h2.next (some ⟨[int A], false⟩)) = h3 at hx3 hp3 hq3 hn3
  have hc3 : h3.get h.next = some ⟨c.cells, false⟩ := (hx3.2 _ (by omega)).trans hc2
  refine ⟨?_, ?_⟩
  · rw [List.all_cons, List.all_cons, List.all_nil, Bool.and_true, Bool.and_eq_true]
    refine ⟨chk_ld (b := h.next) (o := 1) (u := c.lv) ?_ ?_ ?_ ?_, chk_ld (b := h.next) (o := 0) (u := int c.inputs) ?_ ?_ ?_ (veqa_int _)⟩
    · simp only [stp2,go_sem,Nat.reduceEqDiff,Nat.reduceAdd,reduceIte,reduceCtorEq,Nat.reduceLeDiff,Int.reduceBEq,Int.reduceBNe,Int.reduceEq,Int.reduceLT,Int.reduceLE,Int.reduceNeg,List.nil_append,List.cons_append,List.append_nil,List.toList_toArray,Option.map_none]
    · rw [ld_blk hc3]; rfl
    · simp only [stp2,go_sem,Nat.reduceEqDiff,Nat.reduceAdd,reduceIte,reduceCtorEq,Nat.reduceLeDiff,Int.reduceBEq,Int.reduceBNe,Int.reduceEq,Int.reduceLT,Int.reduceLE,Int.reduceNeg,List.nil_append,List.cons_append,List.append_nil,List.toList_toArray,Option.map_none, e1]
    · rw [e1]; exact veqa_slice _ _ _
    · simp only [stp2,go_sem,Nat.reduceEqDiff,Nat.reduceAdd,reduceIte,reduceCtorEq,Nat.reduceLeDiff,Int.reduceBEq,Int.reduceBNe,Int.reduceEq,Int.reduceLT,Int.reduceLE,Int.reduceNeg,List.nil_append,List.cons_append,List.append_nil,List.toList_toArray,Option.map_none]
    · rw [ld_blk hc3]; rfl
    · simp only [stp2,go_sem,Nat.reduceEqDiff,Nat.reduceAdd,reduceIte,reduceCtorEq,Nat.reduceLeDiff,Int.reduceBEq,Int.reduceBNe,Int.reduceEq,Int.reduceLT,Int.reduceLE,Int.reduceNeg,List.nil_append,List.cons_append,List.append_nil,List.toList_toArray,Option.map_none]
  have st2 := sts_of (h := h3) (i := h2.next + 1) (off := 0) (vs := [int B]) hq3 rfl (Nat.le_refl _) rfl
  simp only [stp2,go_sem,Nat.reduceEqDiff,Nat.reduceAdd,reduceIte,reduceCtorEq,Nat.reduceLeDiff,Int.reduceBEq,Int.reduceBNe,Int.reduceEq,Int.reduceLT,Int.reduceLE,Int.reduceNeg,List.nil_append,List.cons_append,List.append_nil,List.toList_toArray,Option.map_none, st2]
  have e2 : (some { (⟨[int 0], false⟩ : Blk) with cells := put [int 0] 0 [int B] }) = some (⟨[int B], false⟩ : Blk) := rfl
  try simp only [e2]
  have hx4 : Ext h2.next h2 (h3.set (h2.next + 1) (some ⟨[int B], false⟩)) := hx3.trans ⟨Nat.le_refl _, fun i hi => by rw [H.get_set, if_neg (by omega)]⟩
  have hp4 : (h3.set (h2.next + 1) (some ⟨[int B], false⟩)).get h2.next = some ⟨[int A], false⟩ := by rw [H.get_set, if_neg (by omega)]; exact hp3
  have hq4 : (h3.set (h2.next + 1) (some ⟨[int B], false⟩)).get (h2.next + 1) = some ⟨[int B], false⟩ := by rw [H.get_set, if_pos rfl]
  have hn4 : (h3.set (h2.next + 1) (some ⟨[int B], false⟩)).next = h2.next + 2 := hn3
  generalize h3.set (h2.next + 1) (some ⟨[int B], false⟩) = h4 at hx4 hp4 hq4 hn4
  have hx5 : Ext h4.next h4 (h4.new ⟨[.nilFunc], false⟩) := Ext.new _
  have hr5 : (h4.new ⟨[.nilFunc], false⟩).get h4.next = some ⟨[.nilFunc], false⟩ := by rw [H.get_new, if_pos rfl]
  have hn5 : (h4.new ⟨[.nilFunc], false⟩).next = h4.next + 1 := rfl
  simp only [stp2,go_sem,Nat.reduceEqDiff,Nat.reduceAdd,reduceIte,reduceCtorEq,Nat.reduceLeDiff,Int.reduceBEq,Int.reduceBNe,Int.reduceEq,Int.reduceLT,Int.reduceLE,Int.reduceNeg,List.nil_append,List.cons_append,List.append_nil,List.toList_toArray,Option.map_none, c83_2]
  generalize h4.new ⟨[.nilFunc], false⟩ = h5 at hx5 hr5 hn5
  have st3 := sts_of (h := h5) (i := h4.next) (off := 0) (vs := [.func (.func 130) #[] #[.pointer (some ⟨h2.next, 0, none⟩), .pointer (some ⟨h2.next + 1, 0, none⟩)]]) hr5 rfl (Nat.le_refl _) rfl
  simp only [stp2,go_sem,Nat.reduceEqDiff,Nat.reduceAdd,reduceIte,reduceCtorEq,Nat.reduceLeDiff,Int.reduceBEq,Int.reduceBNe,Int.reduceEq,Int.reduceLT,Int.reduceLE,Int.reduceNeg,List.nil_append,List.cons_append,List.append_nil,List.toList_toArray,Option.map_none, cells_fn, st3]
  have e3 : (some { (⟨[.nilFunc], false⟩ : Blk) with cells := put [.nilFunc] 0 [.func (.func 130) #[] #[.pointer (some ⟨h2.next, 0, none⟩), .pointer (some ⟨h2.next + 1, 0, none⟩)]] }) = some (⟨[.func (.func 130) #[] #[.pointer (some ⟨h2.next, 0, none⟩), .pointer (some ⟨h2.next + 1, 0, none⟩)]], false⟩ : Blk) := rfl
  try simp only [e3]
  have hx6 : Ext h2.next h2 (h5.set h4.next (some ⟨[.func (.func 130) #[] #[.pointer (some ⟨h2.next, 0, none⟩), .pointer (some ⟨h2.next + 1, 0, none⟩)]], false⟩)) := (hx4.trans (hx5.le hx4.1)).trans ⟨Nat.le_refl _, fun i hi => by rw [H.get_set, if_neg (by omega)]⟩
  have hp6 : (h5.set h4.next (some ⟨[.func (.func 130) #[] #[.pointer (some ⟨h2.next, 0, none⟩), .pointer (some ⟨h2.next + 1, 0, none⟩)]], false⟩)).get h2.next = some ⟨[int A], false⟩ := by rw [H.get_set, if_neg (by omega), hx5.2 _ (by omega)]; exact hp4
  have hq6 : (h5.set h4.next (some ⟨[.func (.func 130) #[] #[.pointer (some ⟨h2.next, 0, none⟩), .pointer (some ⟨h2.next + 1, 0, none⟩)]], false⟩)).get (h2.next + 1) = some ⟨[int B], false⟩ := by rw [H.get_set, if_neg (by omega), hx5.2 _ (by omega)]; exact hq4
  have hr6 : (h5.set h4.next (some ⟨[.func (.func 130) #[] #[.pointer (some ⟨h2.next, 0, none⟩), .pointer (some ⟨h2.next + 1, 0, none⟩)]], false⟩)).get h4.next = some ⟨[.func (.func 130) #[] #[.pointer (some ⟨h2.next, 0, none⟩), .pointer (some ⟨h2.next + 1, 0, none⟩)]], false⟩ := by rw [H.get_set, if_pos rfl]
  have hn6 : (h5.set h4.next (some ⟨[.func (.func 130) #[] #[.pointer (some ⟨h2.next, 0, none⟩), .pointer (some ⟨h2.next + 1, 0, none⟩)]], false⟩)).next = h4.next + 1 := hn5
  generalize h5.set h4.next (some ⟨[.func (.func 130) #[] #[.pointer (some ⟨h2.next, 0, none⟩), .pointer (some ⟨h2.next + 1, 0, none⟩)]], false⟩) = h6 at hx6 hp6 hq6 hr6 hn6
  have hx06 := hx02.trans (hx6.le hx02.1)
  have hc6 : h6.get h.next = some ⟨c.cells, false⟩ := (hx6.2 _ (by omega)).trans hc2
  have hb6 : h6.get h1.next = some ⟨[u], false⟩ := (hx6.2 _ (by omega)).trans hb2
  simp only [stp2,go_sem,Nat.reduceEqDiff,Nat.reduceAdd,reduceIte,reduceCtorEq,Nat.reduceLeDiff,Int.reduceBEq,Int.reduceBNe,Int.reduceEq,Int.reduceLT,Int.reduceLE,Int.reduceNeg,List.nil_append,List.cons_append,List.append_nil,List.toList_toArray,Option.map_none, c83_3, c83_4, ld6 hc6]
  refine callV.of (may_ok (k.to (Nat.le_refl _) hx06) s) fun v h7 hv => ?_
  obtain ⟨rfl, hx7⟩ := hv
  have hx07 := hx06.trans (hx7.le hx06.1)
  have hb7 : h7.get h1.next = some ⟨[u], false⟩ := (hx7.2 _ (by omega)).trans hb6
  have hp7 := (hx7.2 h2.next (by omega)).trans hp6
  have hq7 := (hx7.2 (h2.next + 1) (by omega)).trans hq6
  have hr7 := (hx7.2 h4.next (by omega)).trans hr6
  have kx := x.to (Nat.le_refl _) hx07
  obtain ⟨ua, uc, hu⟩ := kx.r.len
  cases hm : mayP c
  · simp only [stp2,go_sem,Nat.reduceEqDiff,Nat.reduceAdd,reduceIte,reduceCtorEq,Nat.reduceLeDiff,Int.reduceBEq,Int.reduceBNe,Int.reduceEq,Int.reduceLT,Int.reduceLE,Int.reduceNeg,List.nil_append,List.cons_append,List.append_nil,List.toList_toArray,Option.map_none]
    exact ⟨by unfold cmayP; rw [hm]; rfl, hx07⟩
  · simp only [stp2,go_sem,Nat.reduceEqDiff,Nat.reduceAdd,reduceIte,reduceCtorEq,Nat.reduceLeDiff,Int.reduceBEq,Int.reduceBNe,Int.reduceEq,Int.reduceLT,Int.reduceLE,Int.reduceNeg,List.nil_append,List.cons_append,List.append_nil,List.toList_toArray,Option.map_none, ld_blk hb7, at0, hu]
    have hsz := mayP_sz hm
    rw [wrap_id (by omega) (by omega)] at w1 w2
    subst w1 w2
    by_cases hlong : (lss.length : Int) ≤ 65536
    · simp only [stp2,go_sem,Nat.reduceEqDiff,Nat.reduceAdd,reduceIte,reduceCtorEq,Nat.reduceLeDiff,Int.reduceBEq,Int.reduceBNe,Int.reduceEq,Int.reduceLT,Int.reduceLE,Int.reduceNeg,List.nil_append,List.cons_append,List.append_nil,List.toList_toArray,Option.map_none, hlong, ld_blk hb7, at0]
      refine callV.of (contains_rows_ok (f := 131) (cap := #[.pointer (some ⟨h4.next, 0, none⟩)]) (p := fun l => !clOk c l) kx (fun i hi el h' hx' hre hoe => long_ok hre hoe (x.w _ (List.getElem_mem hi)).1 (x.w _ (List.getElem_mem hi)).2 ((hx'.2 h4.next (by have := hx7.1; omega)).trans hr7) (by have := hx'.1; have := hx7.1; omega) (by have := hx'.1; have := hx7.1; omega) ((hx'.2 h2.next (by have := hx7.1; omega)).trans hp7) ((hx'.2 (h2.next + 1) (by have := hx7.1; omega)).trans hq7))) fun v h8 hv => ?_
      obtain ⟨rfl, hx8⟩ := hv
      simp only [stp2,go_sem,Nat.reduceEqDiff,Nat.reduceAdd,reduceIte,reduceCtorEq,Nat.reduceLeDiff,Int.reduceBEq,Int.reduceBNe,Int.reduceEq,Int.reduceLT,Int.reduceLE,Int.reduceNeg,List.nil_append,List.cons_append,List.append_nil,List.toList_toArray,Option.map_none]
      refine ⟨?_, hx07.trans (hx8.le hx07.1)⟩
      unfold cmayP
      rw [hm, decide_eq_true (by omega), Bool.true_and, Bool.true_and, List.not_any_eq_all_not]
      simp
    · simp only [stp2,go_sem,Nat.reduceEqDiff,Nat.reduceAdd,reduceIte,reduceCtorEq,Nat.reduceLeDiff,Int.reduceBEq,Int.reduceBNe,Int.reduceEq,Int.reduceLT,Int.reduceLE,Int.reduceNeg,List.nil_append,List.cons_append,List.append_nil,List.toList_toArray,Option.map_none, hlong]
      exact ⟨by unfold cmayP; rw [hm, decide_eq_false (by omega)]; rfl, hx07⟩
end Go.Proofs.YtmmpnmekiplhfaaGreat
