/-
  The document's answer on circuits: may a circuit be (inquestref03.May)? It is what norm.May says.
-/
import Derived.Test.YtmmpnmekiplhfaaGreatAeKt
import Derived.Test.YtmmpnmekiplhfaaGreatPdrMay
namespace Go.Proofs.YtmmpnmekiplhfaaGreat
open Go Go.Ae
set_option linter.unusedSimpArgs false

def litsP (last : Int) (l : List Int) : Bool := l.all (fun x => decide (x / 2 ≤ last)) && decide (l.length ≤ 1024)

theorem quo2 {x : Int} (h : U32 x) : IntKind.u32.wrap (x.tdiv 2) = x / 2 := by
  unfold U32 at h
  rw [Int.tdiv_eq_ediv_of_nonneg h.1, IntWalk.u32_in _ (by omega)]
theorem conv64 {x : Int} (h : U32 x) : IntKind.i64.wrap (x / 2) = x / 2 := by
  unfold U32 at h; rw [wrap_id (by omega) (by omega)]

inductive LitsI (h : H) (last : Int) (l : List Int) : Nat → Tm → H → Prop
  | mk {T : Tm} (i : Nat) (hi : i ≤ l.length) (g5 : g T 5 = int i) (ha : (l.take i).all (fun x => decide (x / 2 ≤ last)) = true) : LitsI h last l (l.length - i) T h

set_option maxHeartbeats 1000000 in
theorem lits_ok {u : Value} {l : List Int} {last : Int} {h : H} (r : Rd h u (u32s l)) (hl : l.length ≤ 9223372036854775807) (hw : ∀ x ∈ l, U32 x) :
    AF E 129 [u, int last] h fun v h' => v = .bool (litsP last l) ∧ h' = h := by
  refine AF.walk (E_fn comp129) (E_spec (by decide) _ _) ?_
  obtain ⟨ba, bc, hu⟩ := r.len
  rw [List.length_map] at hu
  simp only [At.regD,Dps.new,go_sem,Nat.reduceEqDiff,Nat.reduceAdd,reduceIte,reduceCtorEq,Nat.reduceLeDiff,Int.reduceBEq,Int.reduceBNe,Int.reduceEq,Int.reduceLT,Int.reduceLE,Int.reduceNeg, c129, c129_0, c129_1]
  refine At.loopK [4, 5, 6, 7, 8, 9, 10, 11, 12, 13, 14, 15, 16, 17, 18, 19] (LitsI h last l) ?_ l.length ?_
  · rintro k T _ hk ⟨i, hi, g5, ha⟩
    have g0 := hk.at 0 rfl
    have g1 := hk.at 1 rfl
    simp only [At.regD,Dps.new,go_sem,Nat.reduceEqDiff,Nat.reduceAdd,reduceIte,reduceCtorEq,Nat.reduceLeDiff,Int.reduceBEq,Int.reduceBNe,Int.reduceEq,Int.reduceLT,Int.reduceLE,Int.reduceNeg] at g0 g1
    have g0s := g0.trans hu
    simp only [At.regD,Dps.new,go_sem,Nat.reduceEqDiff,Nat.reduceAdd,reduceIte,reduceCtorEq,Nat.reduceLeDiff,Int.reduceBEq,Int.reduceBNe,Int.reduceEq,Int.reduceLT,Int.reduceLE,Int.reduceNeg, c129_2, g5, g0s, Int.ofNat_lt]
    by_cases hlt : i < l.length
    · obtain ⟨b, o, s, cap, hb, hld⟩ := r.at (show i < (u32s l).length by simpa using hlt)
      rw [hu, List.length_map] at hb; cases hb
      rw [List.getElem_map] at hld
      have hx := hw _ (List.getElem_mem hlt)
      simp only [At.regD,Dps.new,go_sem,Nat.reduceEqDiff,Nat.reduceAdd,reduceIte,reduceCtorEq,Nat.reduceLeDiff,Int.reduceBEq,Int.reduceBNe,Int.reduceEq,Int.reduceLT,Int.reduceLE,Int.reduceNeg, hlt, c129_3, g0s, g5, g1, natOf_int (Int.natCast_nonneg i), Int.toNat_natCast, hld, quo2 hx, conv64 hx]
      by_cases hgt : last < l[i] / 2
      · have : litsP last l = false := by
          unfold litsP
          rw [Bool.and_eq_false_iff]; left
          rw [List.all_eq_false]
          exact ⟨_, List.getElem_mem hlt, by simp; omega⟩
        simp only [At.regD,Dps.new,go_sem,Nat.reduceEqDiff,Nat.reduceAdd,reduceIte,reduceCtorEq,Nat.reduceLeDiff,Int.reduceBEq,Int.reduceBNe,Int.reduceEq,Int.reduceLT,Int.reduceLE,Int.reduceNeg, hgt, c129_4, this]
      · simp only [At.regD,Dps.new,go_sem,Nat.reduceEqDiff,Nat.reduceAdd,reduceIte,reduceCtorEq,Nat.reduceLeDiff,Int.reduceBEq,Int.reduceBNe,Int.reduceEq,Int.reduceLT,Int.reduceLE,Int.reduceNeg, hgt, c129_5, g5, wrap_succ (show i < 9223372036854775807 by omega)]
        refine ⟨_, ?_, ?_, .mk (i + 1) hlt ?_ ?_⟩
        · omega
        · (repeat refine Kt.put rfl ?_); exact hk
        · simp only [At.regD,Dps.new,go_sem,Nat.reduceEqDiff,Nat.reduceAdd,reduceIte,reduceCtorEq,Nat.reduceLeDiff,Int.reduceBEq,Int.reduceBNe,Int.reduceEq,Int.reduceLT,Int.reduceLE,Int.reduceNeg]
        · rw [take_succ hlt, List.all_append, ha]; simp; omega
    · have : i = l.length := by omega
      subst this
      rw [List.take_length] at ha
      have e : litsP last l = decide (l.length ≤ 1024) := by unfold litsP; rw [ha]; rfl
      simp only [At.regD,Dps.new,go_sem,Nat.reduceEqDiff,Nat.reduceAdd,reduceIte,reduceCtorEq,Nat.reduceLeDiff,Int.reduceBEq,Int.reduceBNe,Int.reduceEq,Int.reduceLT,Int.reduceLE,Int.reduceNeg, hlt, c129_6, g0s, e]
      congr 1
      simp only [decide_eq_decide]
      omega
  · refine .mk 0 (Nat.zero_le _) ?_ rfl
    simp only [At.regD,Dps.new,go_sem,Nat.reduceEqDiff,Nat.reduceAdd,reduceIte,reduceCtorEq,Nat.reduceLeDiff,Int.reduceBEq,Int.reduceBNe,Int.reduceEq,Int.reduceLT,Int.reduceLE,Int.reduceNeg, cast_zero]

inductive RL (c : Cir) (p : Nat) (hA : H) : Nat → Tm → H → Prop
  | mk {T : Tm} (i : Nat) (hi : i ≤ c.lats.length) (g4 : g T 4 = int i) (ha : (c.lats.take i).all (fun q => decide (q.1 / 2 ≤ varsP c) && decide (q.2 ≤ 2)) = true) : RL c p hA (c.lats.length - i) T hA
inductive RG (c : Cir) (hA : H) : Nat → Tm → H → Prop
  | mk {T : Tm} {h : H} (i : Nat) (hi : i ≤ c.gats.length) (hx : Ext hA.next hA h) (g5 : g T 5 = int i) (ha : gatsOk c i = true) : RG c hA (c.gats.length - i) T h

abbrev cRL : C := .loop (.seq (.seq c79_7 (.cond (.tmp 43) .skip (.exit 0))) (.seq (.block 1 (.seq c79_8 (.cond (.tmp 64) (.seq c79_9 .ret) .skip))) c79_10))
abbrev cRG : C := .loop (.seq (.seq c79_12 (.cond (.tmp 69) .skip (.exit 2))) (.seq (.block 3 (.seq c79_13 (.seq c79_14 (.cond (.tmp 97) (.seq c79_15 .ret) .skip)))) c79_16))

theorem beyond_var {c : Cir} (s : Small c) (h1 : 0 ≤ c.inputs) (h2 : c.inputs ≤ 16384) (x : Int) : beyond c x = !decide (x / 2 ≤ varsP c) := by
  unfold beyond
  rw [varsI_eq s h1 h2]
  by_cases h : varsP c < x / 2
  · simp [h]
  · simp [h]; omega

set_option maxHeartbeats 4000000 in
theorem rl_ok {c : Cir} {n p : Nat} {hA : H} {T0 : Tm} {fs : List Fm} {Q : Ex → Tm → H → Prop} (k : CirOk n hA c) (s : Small c) (hp : hA.get p = some ⟨c.cells, false⟩)
    (g1 : g T0 1 = .pointer (some ⟨p, 0, none⟩)) (g3 : g T0 3 = int (varsP c)) (g4 : g T0 4 = int (0 : Nat))
    (no : ∀ T', g T' 2 = .bool false → c.lats.all (fun q => decide (q.1 / 2 ≤ varsP c) && decide (q.2 ≤ 2)) = false → On E .ret T' hA fs Q)
    (yes : ∀ T', g T' 1 = .pointer (some ⟨p, 0, none⟩) → g T' 3 = int (varsP c) → c.lats.all (fun q => decide (q.1 / 2 ≤ varsP c) && decide (q.2 ≤ 2)) = true → On E (.exit 0) T' hA fs Q) :
    At E cRL T0 hA fs Q := by
  have sl := s.l
  obtain ⟨la, lm, hls⟩ := k.rl.len
  refine At.loopK [2, 4, 39, 40, 41, 42, 43, 44, 45, 46, 47, 48, 49, 50, 51, 52, 53, 54, 55, 56, 57, 58, 59, 60, 61, 62, 63, 64] (RL c p hA) ?_ c.lats.length (.mk 0 (Nat.zero_le _) g4 rfl)
  rintro w T _ hk ⟨i, hi, g4, ha⟩
  have g1 := (hk.at 1 rfl).trans g1
  have g3 := (hk.at 3 rfl).trans g3
  simp only [At.regD,Dps.new,go_sem,Nat.reduceEqDiff,Nat.reduceAdd,reduceIte,reduceCtorEq,Nat.reduceLeDiff,Int.reduceBEq,Int.reduceBNe,Int.reduceEq,Int.reduceLT,Int.reduceLE,Int.reduceNeg, c79_7, g4, g1, ld_blk hp, at1, hls, Int.ofNat_lt]
  by_cases hlt : i < c.lats.length
  · obtain ⟨b, o, sp, cap', hb, hld⟩ := k.rl.at hlt
    rw [hls] at hb; cases hb
    obtain ⟨l0, l1⟩ := RdP.ld hld
    have hw := k.wl _ (List.getElem_mem hlt)
    have hfalse : (decide (c.lats[i].1 / 2 ≤ varsP c) && decide (c.lats[i].2 ≤ 2)) = false → c.lats.all (fun q => decide (q.1 / 2 ≤ varsP c) && decide (q.2 ≤ 2)) = false := fun hf => by
      rw [List.all_eq_false]; exact ⟨_, List.getElem_mem hlt, by rw [hf]; decide⟩
    simp only [At.regD,Dps.new,go_sem,Nat.reduceEqDiff,Nat.reduceAdd,reduceIte,reduceCtorEq,Nat.reduceLeDiff,Int.reduceBEq,Int.reduceBNe,Int.reduceEq,Int.reduceLT,Int.reduceLE,Int.reduceNeg, hlt, c79_8, g1, g3, g4, ld_blk hp, at1, hls, natOf_int (Int.natCast_nonneg i), Int.toNat_natCast, l0, l1, quo2 hw.1, conv64 hw.1]
    by_cases h1 : varsP c < c.lats[i].1 / 2
    · simp only [At.regD,Dps.new,go_sem,Nat.reduceEqDiff,Nat.reduceAdd,reduceIte,reduceCtorEq,Nat.reduceLeDiff,Int.reduceBEq,Int.reduceBNe,Int.reduceEq,Int.reduceLT,Int.reduceLE,Int.reduceNeg, h1, c79_9]
      exact no _ (by simp only [At.regD,Dps.new,go_sem,Nat.reduceEqDiff,Nat.reduceAdd,reduceIte,reduceCtorEq,Nat.reduceLeDiff,Int.reduceBEq,Int.reduceBNe,Int.reduceEq,Int.reduceLT,Int.reduceLE,Int.reduceNeg]) (hfalse (by rw [decide_eq_false (by omega)]; rfl))
    · by_cases h2 : 2 < c.lats[i].2
      · simp only [At.regD,Dps.new,go_sem,Nat.reduceEqDiff,Nat.reduceAdd,reduceIte,reduceCtorEq,Nat.reduceLeDiff,Int.reduceBEq,Int.reduceBNe,Int.reduceEq,Int.reduceLT,Int.reduceLE,Int.reduceNeg, h1, h2, g1, g4, ld_blk hp, at1, hls, hlt, natOf_int (Int.natCast_nonneg i), Int.toNat_natCast, l0, l1, c79_9]
        exact no _ (by simp only [At.regD,Dps.new,go_sem,Nat.reduceEqDiff,Nat.reduceAdd,reduceIte,reduceCtorEq,Nat.reduceLeDiff,Int.reduceBEq,Int.reduceBNe,Int.reduceEq,Int.reduceLT,Int.reduceLE,Int.reduceNeg]) (hfalse (by rw [decide_eq_false (show ¬ c.lats[i].2 ≤ 2 by omega), Bool.and_false]))
      · simp only [At.regD,Dps.new,go_sem,Nat.reduceEqDiff,Nat.reduceAdd,reduceIte,reduceCtorEq,Nat.reduceLeDiff,Int.reduceBEq,Int.reduceBNe,Int.reduceEq,Int.reduceLT,Int.reduceLE,Int.reduceNeg, h1, h2, g1, g4, ld_blk hp, at1, hls, hlt, natOf_int (Int.natCast_nonneg i), Int.toNat_natCast, l0, l1, c79_10, wrap_succ (show i < 9223372036854775807 by omega)]
        refine ⟨_, ?_, ?_, .mk (i + 1) hlt ?_ ?_⟩
        · omega
        · (repeat refine Kt.put rfl ?_); exact hk
        · simp only [At.regD,Dps.new,go_sem,Nat.reduceEqDiff,Nat.reduceAdd,reduceIte,reduceCtorEq,Nat.reduceLeDiff,Int.reduceBEq,Int.reduceBNe,Int.reduceEq,Int.reduceLT,Int.reduceLE,Int.reduceNeg]
        · rw [take_succ hlt, List.all_append, ha]; simp; omega
  · have : i = c.lats.length := by omega
    subst this
    rw [List.take_length] at ha
    simp only [At.regD,Dps.new,go_sem,Nat.reduceEqDiff,Nat.reduceAdd,reduceIte,reduceCtorEq,Nat.reduceLeDiff,Int.reduceBEq,Int.reduceBNe,Int.reduceEq,Int.reduceLT,Int.reduceLE,Int.reduceNeg, hlt]
    exact yes _ (by simp only [At.regD,Dps.new,go_sem,Nat.reduceEqDiff,Nat.reduceAdd,reduceIte,reduceCtorEq,Nat.reduceLeDiff,Int.reduceBEq,Int.reduceBNe,Int.reduceEq,Int.reduceLT,Int.reduceLE,Int.reduceNeg, g1]) (by simp only [At.regD,Dps.new,go_sem,Nat.reduceEqDiff,Nat.reduceAdd,reduceIte,reduceCtorEq,Nat.reduceLeDiff,Int.reduceBEq,Int.reduceBNe,Int.reduceEq,Int.reduceLT,Int.reduceLE,Int.reduceNeg, g3]) ha

set_option maxHeartbeats 4000000 in
theorem rg_ok {c : Cir} {n p : Nat} {hA : H} {T0 : Tm} {fs : List Fm} {Q : Ex → Tm → H → Prop} (k : CirOk n hA c) (s : Small c) (h0 : 0 ≤ c.inputs) (h1 : c.inputs ≤ 16384) (hn : n ≤ hA.next) (hp : hA.get p = some ⟨c.cells, false⟩) (hpl : p < hA.next)
    (g1 : g T0 1 = .pointer (some ⟨p, 0, none⟩)) (g3 : g T0 3 = int (varsP c)) (g5 : g T0 5 = int (0 : Nat))
    (no : ∀ T' h', Ext hA.next hA h' → g T' 2 = .bool false → gatsOk c c.gats.length = false → On E .ret T' h' fs Q)
    (yes : ∀ T' h', Ext hA.next hA h' → g T' 1 = .pointer (some ⟨p, 0, none⟩) → g T' 3 = int (varsP c) → gatsOk c c.gats.length = true → On E (.exit 2) T' h' fs Q) :
    At E cRG T0 hA fs Q := by
  have sl := s.l
  have sg := s.g
  refine At.loopK [2, 5, 6, 65, 66, 67, 68, 69, 70, 71, 72, 73, 74, 75, 76, 77, 78, 79, 80, 81, 82, 83, 84, 85, 86, 87, 88, 89, 90, 91, 92, 93, 94, 95, 96, 97] (RG c hA) ?_ c.gats.length (.mk 0 (Nat.zero_le _) (Ext.refl _ _) g5 rfl)
  rintro w T h hk ⟨i, hi, hx, g5, ha⟩
  have g1 := (hk.at 1 rfl).trans g1
  have g3 := (hk.at 3 rfl).trans g3
  have hkx := k.ext (hx.le hn)
  have hp' : h.get p = some ⟨c.cells, false⟩ := (hx.2 p hpl).trans hp
  have hpl' : p < h.next := Nat.lt_of_lt_of_le hpl hx.1
  obtain ⟨la, lm, hls⟩ := hkx.rg.len
  obtain ⟨ga, gm, hll⟩ := hkx.rl.len
  simp only [At.regD,Dps.new,go_sem,Nat.reduceEqDiff,Nat.reduceAdd,reduceIte,reduceCtorEq,Nat.reduceLeDiff,Int.reduceBEq,Int.reduceBNe,Int.reduceEq,Int.reduceLT,Int.reduceLE,Int.reduceNeg, c79_12, g5, g1, ld_blk hp', at2, hls, Int.ofNat_lt]
  by_cases hlt : i < c.gats.length
  · obtain ⟨b, o, sp, cap', hb, hld⟩ := hkx.rg.at hlt
    rw [hls] at hb; cases hb
    have hw := k.wg _ (List.getElem_mem hlt)
    have hgd : c.gats.getD i (0, 0) = c.gats[i] := by rw [List.getD_eq_getElem?_getD, List.getElem?_eq_getElem hlt, Option.getD_some]
    have hall : gatsOk c (i + 1) = gatOk c i c.gats[i] := by
      have e : gatsOk c (i + 1) = (gatsOk c i && gatOk c i (c.gats.getD i (0, 0))) := by simp [gatsOk, List.range_succ]
      rw [e, ha, hgd]; rfl
    have hfalse : gatOk c i c.gats[i] = false → gatsOk c c.gats.length = false := fun hf => by
      unfold gatsOk
      rw [List.all_eq_false]
      exact ⟨i, List.mem_range.2 hlt, by rw [hgd, hf]; decide⟩
    have hbx := ext_box (h := h) ⟨[.int .u32 0, .int .u32 0], false⟩ ⟨[.int .u32 c.gats[i].1, .int .u32 c.gats[i].2], false⟩
    have hst := box_sts (h := h) (zs := [.int .u32 0, .int .u32 0]) (vs := [.int .u32 c.gats[i].1, .int .u32 c.gats[i].2]) rfl (two_one .u32 .u32 c.gats[i].1 c.gats[i].2)
    simp only [At.regD,Dps.new,go_sem,Nat.reduceEqDiff,Nat.reduceAdd,reduceIte,reduceCtorEq,Nat.reduceLeDiff,Int.reduceBEq,Int.reduceBNe,Int.reduceEq,Int.reduceLT,Int.reduceLE,Int.reduceNeg, hlt, c79_13, g1, g5, ld_blk hp', at2, hls, natOf_int (Int.natCast_nonneg i), Int.toNat_natCast, hld, hst]
    have hc : ((h.new ⟨[.int .u32 0, .int .u32 0], false⟩).set h.next (some ⟨[.int .u32 c.gats[i].1, .int .u32 c.gats[i].2], false⟩)).get h.next = some ⟨[.int .u32 c.gats[i].1, .int .u32 c.gats[i].2], false⟩ := by rw [H.get_set, if_pos rfl]
    generalize (h.new ⟨[.int .u32 0, .int .u32 0], false⟩).set h.next (some ⟨[.int .u32 c.gats[i].1, .int .u32 c.gats[i].2], false⟩) = h2 at hbx hc
    have hx2 : Ext hA.next hA h2 := hx.trans (hbx.le hx.1)
    have hp2 : h2.get p = some ⟨c.cells, false⟩ := (hbx.2 p hpl').trans hp'
    have w1 : IntKind.i64.wrap (c.inputs + c.lats.length) = c.inputs + c.lats.length := wrap_id (by omega) (by omega)
    have w2 : IntKind.i64.wrap (c.inputs + c.lats.length + 1) = c.inputs + c.lats.length + 1 := wrap_id (by omega) (by omega)
    have w3 : IntKind.i64.wrap (c.inputs + c.lats.length + 1 + i) = c.inputs + c.lats.length + 1 + i := wrap_id (by omega) (by omega)
    simp only [At.regD,Dps.new,go_sem,Nat.reduceEqDiff,Nat.reduceAdd,reduceIte,reduceCtorEq,Nat.reduceLeDiff,Int.reduceBEq,Int.reduceBNe,Int.reduceEq,Int.reduceLT,Int.reduceLE,Int.reduceNeg, c79_14, g1, g5, ld_blk hp2, at0, at1, hll, ld_blk hc, quo2 hw.1, conv64 hw.1, w1, w2, w3]
    have e1 : gatOk c i c.gats[i] = (decide (c.gats[i].1 / 2 < c.inputs + c.lats.length + i + 1) && decide (c.gats[i].2 ≤ c.gats[i].1)) := rfl
    by_cases q1 : c.inputs + c.lats.length + 1 + i ≤ c.gats[i].1 / 2
    · simp only [At.regD,Dps.new,go_sem,Nat.reduceEqDiff,Nat.reduceAdd,reduceIte,reduceCtorEq,Nat.reduceLeDiff,Int.reduceBEq,Int.reduceBNe,Int.reduceEq,Int.reduceLT,Int.reduceLE,Int.reduceNeg, q1, c79_15]
      exact no _ _ hx2 (by simp only [At.regD,Dps.new,go_sem,Nat.reduceEqDiff,Nat.reduceAdd,reduceIte,reduceCtorEq,Nat.reduceLeDiff,Int.reduceBEq,Int.reduceBNe,Int.reduceEq,Int.reduceLT,Int.reduceLE,Int.reduceNeg]) (hfalse (by rw [e1, decide_eq_false (by omega)]; rfl))
    · by_cases q2 : c.gats[i].1 < c.gats[i].2
      · simp only [At.regD,Dps.new,go_sem,Nat.reduceEqDiff,Nat.reduceAdd,reduceIte,reduceCtorEq,Nat.reduceLeDiff,Int.reduceBEq,Int.reduceBNe,Int.reduceEq,Int.reduceLT,Int.reduceLE,Int.reduceNeg, q1, q2, ld_blk hc, c79_15]
        exact no _ _ hx2 (by simp only [At.regD,Dps.new,go_sem,Nat.reduceEqDiff,Nat.reduceAdd,reduceIte,reduceCtorEq,Nat.reduceLeDiff,Int.reduceBEq,Int.reduceBNe,Int.reduceEq,Int.reduceLT,Int.reduceLE,Int.reduceNeg]) (hfalse (by rw [e1, decide_eq_false (show ¬ c.gats[i].2 ≤ c.gats[i].1 by omega), Bool.and_false]))
      · simp only [At.regD,Dps.new,go_sem,Nat.reduceEqDiff,Nat.reduceAdd,reduceIte,reduceCtorEq,Nat.reduceLeDiff,Int.reduceBEq,Int.reduceBNe,Int.reduceEq,Int.reduceLT,Int.reduceLE,Int.reduceNeg, q1, q2, ld_blk hc, c79_16, g5, wrap_succ (show i < 9223372036854775807 by omega)]
        refine ⟨_, ?_, ?_, .mk (i + 1) hlt hx2 ?_ ?_⟩
        · omega
        · (repeat refine Kt.put rfl ?_); exact hk
        · simp only [At.regD,Dps.new,go_sem,Nat.reduceEqDiff,Nat.reduceAdd,reduceIte,reduceCtorEq,Nat.reduceLeDiff,Int.reduceBEq,Int.reduceBNe,Int.reduceEq,Int.reduceLT,Int.reduceLE,Int.reduceNeg]
        · rw [hall, e1, decide_eq_true (by omega), decide_eq_true (by omega)]; rfl
  · have : i = c.gats.length := by omega
    subst this
    simp only [At.regD,Dps.new,go_sem,Nat.reduceEqDiff,Nat.reduceAdd,reduceIte,reduceCtorEq,Nat.reduceLeDiff,Int.reduceBEq,Int.reduceBNe,Int.reduceEq,Int.reduceLT,Int.reduceLE,Int.reduceNeg, hlt]
    exact yes _ _ hx (by simp only [At.regD,Dps.new,go_sem,Nat.reduceEqDiff,Nat.reduceAdd,reduceIte,reduceCtorEq,Nat.reduceLeDiff,Int.reduceBEq,Int.reduceBNe,Int.reduceEq,Int.reduceLT,Int.reduceLE,Int.reduceNeg, g1]) (by simp only [At.regD,Dps.new,go_sem,Nat.reduceEqDiff,Nat.reduceAdd,reduceIte,reduceCtorEq,Nat.reduceLeDiff,Int.reduceBEq,Int.reduceBNe,Int.reduceEq,Int.reduceLT,Int.reduceLE,Int.reduceNeg, g3]) ha

/-- What the document says of a circuit. -/
theorem mayP_ref {c : Cir} (s : Small c) : mayP c = (decide (0 ≤ c.inputs ∧ c.inputs ≤ 16384 ∧ varsP c ≤ 16384) && (c.lats.all (fun q => decide (q.1 / 2 ≤ varsP c) && decide (q.2 ≤ 2)) && (gatsOk c c.gats.length && ([c.outs, c.bads, c.cons].all (litsP (varsP c)))))) := by
  unfold mayP
  by_cases hs : 0 ≤ c.inputs ∧ c.inputs ≤ 16384 ∧ varsP c ≤ 16384
  · have e1 : c.lats.all (latOk c) = c.lats.all (fun q => decide (q.1 / 2 ≤ varsP c) && decide (q.2 ≤ 2)) := by
      congr 1; funext q
      unfold latOk
      rw [beyond_var s hs.1 hs.2.1, Bool.not_not, Bool.and_comm]
    have e2 : ∀ l, listOk c l = litsP (varsP c) l := fun l => by
      unfold listOk litsP
      rw [Bool.and_comm]
      congr 1
      rw [List.not_any_eq_all_not]
      congr 1; funext q
      rw [beyond_var s hs.1 hs.2.1, Bool.not_not]
    have e3 : [c.outs, c.bads, c.cons].all (listOk c) = [c.outs, c.bads, c.cons].all (litsP (varsP c)) := by simp only [List.all_cons, e2, List.all_nil]
    unfold sizeOk
    rw [e1, e3]
    generalize [c.outs, c.bads, c.cons].all (litsP (varsP c)) = a
    generalize c.lats.all (fun q => decide (q.1 / 2 ≤ varsP c) && decide (q.2 ≤ 2)) = b
    generalize gatsOk c c.gats.length = d
    cases a <;> cases b <;> cases d <;> simp
  · unfold sizeOk
    rw [decide_eq_false hs]; rfl

set_option maxHeartbeats 4000000 in
theorem rmay_ok {c : Cir} {h : H} (k : CirOk h.next h c) (s : Small c) : AF E 79 [.agg c.cells.toArray] h fun v h' => v = .bool (mayP c) ∧ Ext h.next h h' := by
  rw [mayP_ref s]
  refine AF.walk (E_fn comp79) (E_spec (by decide) _ _) ?_
  have sl := s.l
  have sg := s.g
  obtain ⟨⟨a1, m1, e1⟩, ⟨a2, m2, e2⟩, ⟨a3, m3, e3⟩, ⟨a4, m4, e4⟩, ⟨a5, m5, e5⟩⟩ := k.sl
  have hx : Ext h.next h (h.new ⟨c.cells, false⟩) := Ext.new _
  have hb : (h.new ⟨c.cells, false⟩).get h.next = some ⟨c.cells, false⟩ := by rw [H.get_new, if_pos rfl]
  have hn1 : (h.new ⟨c.cells, false⟩).next = h.next + 1 := rfl
  simp only [At.regD,Dps.new,go_sem,Nat.reduceEqDiff,Nat.reduceAdd,reduceIte,reduceCtorEq,Nat.reduceLeDiff,Int.reduceBEq,Int.reduceBNe,Int.reduceEq,Int.reduceLT,Int.reduceLE,Int.reduceNeg, c79, c79_0, cells_agg]
  generalize h.new ⟨c.cells, false⟩ = h1 at hx hb hn1
  simp only [At.regD,Dps.new,go_sem,Nat.reduceEqDiff,Nat.reduceAdd,reduceIte,reduceCtorEq,Nat.reduceLeDiff,Int.reduceBEq,Int.reduceBNe,Int.reduceEq,Int.reduceLT,Int.reduceLE,Int.reduceNeg, c79_1, ld_blk hb, at0, at1, at2, e1, e2]
  have no : ∀ {T : Tm} {b : Bool}, b = false → ∀ h', Ext h.next h h' → resQ [.tmp 2] (fun v h' => v = .bool b ∧ Ext h.next h h') .ret (T.put 2 (.bool false)) h' := fun e h' hx' => by
    subst e
    simp only [At.regD,Dps.new,go_sem,Nat.reduceEqDiff,Nat.reduceAdd,reduceIte,reduceCtorEq,Nat.reduceLeDiff,Int.reduceBEq,Int.reduceBNe,Int.reduceEq,Int.reduceLT,Int.reduceLE,Int.reduceNeg]
    exact hx'
  by_cases q1 : c.inputs < 0
  · simp only [At.regD,Dps.new,go_sem,Nat.reduceEqDiff,Nat.reduceAdd,reduceIte,reduceCtorEq,Nat.reduceLeDiff,Int.reduceBEq,Int.reduceBNe,Int.reduceEq,Int.reduceLT,Int.reduceLE,Int.reduceNeg, q1, c79_2, decide_eq_false (show ¬ (0 ≤ c.inputs ∧ c.inputs ≤ 16384 ∧ varsP c ≤ 16384) by omega), Bool.false_and]
    exact hx
  by_cases q2 : 16384 < c.inputs
  · simp only [At.regD,Dps.new,go_sem,Nat.reduceEqDiff,Nat.reduceAdd,reduceIte,reduceCtorEq,Nat.reduceLeDiff,Int.reduceBEq,Int.reduceBNe,Int.reduceEq,Int.reduceLT,Int.reduceLE,Int.reduceNeg, q1, q2, ld_blk hb, at0, c79_2, decide_eq_false (show ¬ (0 ≤ c.inputs ∧ c.inputs ≤ 16384 ∧ varsP c ≤ 16384) by omega), Bool.false_and]
    exact hx
  have hvp : varsP c = c.inputs + c.lats.length + c.gats.length := rfl
  by_cases q3 : (16384 : Int) < c.lats.length
  · simp only [At.regD,Dps.new,go_sem,Nat.reduceEqDiff,Nat.reduceAdd,reduceIte,reduceCtorEq,Nat.reduceLeDiff,Int.reduceBEq,Int.reduceBNe,Int.reduceEq,Int.reduceLT,Int.reduceLE,Int.reduceNeg, q1, q2, q3, ld_blk hb, at0, at1, e1, c79_2, decide_eq_false (show ¬ (0 ≤ c.inputs ∧ c.inputs ≤ 16384 ∧ varsP c ≤ 16384) by omega), Bool.false_and]
    exact hx
  by_cases q4 : (16384 : Int) < c.gats.length
  · simp only [At.regD,Dps.new,go_sem,Nat.reduceEqDiff,Nat.reduceAdd,reduceIte,reduceCtorEq,Nat.reduceLeDiff,Int.reduceBEq,Int.reduceBNe,Int.reduceEq,Int.reduceLT,Int.reduceLE,Int.reduceNeg, q1, q2, q3, q4, ld_blk hb, at0, at1, at2, e1, e2, c79_2, decide_eq_false (show ¬ (0 ≤ c.inputs ∧ c.inputs ≤ 16384 ∧ varsP c ≤ 16384) by omega), Bool.false_and]
    exact hx
  have w1 : IntKind.i64.wrap (c.inputs + c.lats.length) = c.inputs + c.lats.length := wrap_id (by omega) (by omega)
  have w2 : IntKind.i64.wrap (c.inputs + c.lats.length + c.gats.length) = varsP c := by rw [wrap_id (by omega) (by omega)]; rfl
  simp only [At.regD,Dps.new,go_sem,Nat.reduceEqDiff,Nat.reduceAdd,reduceIte,reduceCtorEq,Nat.reduceLeDiff,Int.reduceBEq,Int.reduceBNe,Int.reduceEq,Int.reduceLT,Int.reduceLE,Int.reduceNeg, q1, q2, q3, q4, ld_blk hb, at0, at1, at2, e1, e2, c79_3, w1, w2, c79_4]
  by_cases q5 : 16384 < varsP c
  · simp only [At.regD,Dps.new,go_sem,Nat.reduceEqDiff,Nat.reduceAdd,reduceIte,reduceCtorEq,Nat.reduceLeDiff,Int.reduceBEq,Int.reduceBNe,Int.reduceEq,Int.reduceLT,Int.reduceLE,Int.reduceNeg, q5, c79_5, decide_eq_false (show ¬ (0 ≤ c.inputs ∧ c.inputs ≤ 16384 ∧ varsP c ≤ 16384) by omega), Bool.false_and]
    exact hx
  have hk1 := k.to (Nat.le_refl _) hx
  rw [decide_eq_true (show 0 ≤ c.inputs ∧ c.inputs ≤ 16384 ∧ varsP c ≤ 16384 by omega), Bool.true_and]
  simp only [At.regD,Dps.new,go_sem,Nat.reduceEqDiff,Nat.reduceAdd,reduceIte,reduceCtorEq,Nat.reduceLeDiff,Int.reduceBEq,Int.reduceBNe,Int.reduceEq,Int.reduceLT,Int.reduceLE,Int.reduceNeg, q5, c79_6]
  refine rl_ok hk1 s hb (by simp only [At.regD,Dps.new,go_sem,Nat.reduceEqDiff,Nat.reduceAdd,reduceIte,reduceCtorEq,Nat.reduceLeDiff,Int.reduceBEq,Int.reduceBNe,Int.reduceEq,Int.reduceLT,Int.reduceLE,Int.reduceNeg]) (by simp only [At.regD,Dps.new,go_sem,Nat.reduceEqDiff,Nat.reduceAdd,reduceIte,reduceCtorEq,Nat.reduceLeDiff,Int.reduceBEq,Int.reduceBNe,Int.reduceEq,Int.reduceLT,Int.reduceLE,Int.reduceNeg]) (by simp only [At.regD,Dps.new,go_sem,Nat.reduceEqDiff,Nat.reduceAdd,reduceIte,reduceCtorEq,Nat.reduceLeDiff,Int.reduceBEq,Int.reduceBNe,Int.reduceEq,Int.reduceLT,Int.reduceLE,Int.reduceNeg, cast_zero]) ?_ ?_
  · intro T' g2 hf
    simp only [At.regD,Dps.new,go_sem,Nat.reduceEqDiff,Nat.reduceAdd,reduceIte,reduceCtorEq,Nat.reduceLeDiff,Int.reduceBEq,Int.reduceBNe,Int.reduceEq,Int.reduceLT,Int.reduceLE,Int.reduceNeg, g2, hf, Bool.false_and]
    exact hx
  intro T' g1 g3 ht
  simp only [At.regD,Dps.new,go_sem,Nat.reduceEqDiff,Nat.reduceAdd,reduceIte,reduceCtorEq,Nat.reduceLeDiff,Int.reduceBEq,Int.reduceBNe,Int.reduceEq,Int.reduceLT,Int.reduceLE,Int.reduceNeg, c79_11, ht, Bool.true_and]
  refine rg_ok hk1 s (by omega) (by omega) (Nat.le_refl _) hb (by omega) (by simp only [At.regD,Dps.new,go_sem,Nat.reduceEqDiff,Nat.reduceAdd,reduceIte,reduceCtorEq,Nat.reduceLeDiff,Int.reduceBEq,Int.reduceBNe,Int.reduceEq,Int.reduceLT,Int.reduceLE,Int.reduceNeg, g1]) (by simp only [At.regD,Dps.new,go_sem,Nat.reduceEqDiff,Nat.reduceAdd,reduceIte,reduceCtorEq,Nat.reduceLeDiff,Int.reduceBEq,Int.reduceBNe,Int.reduceEq,Int.reduceLT,Int.reduceLE,Int.reduceNeg, g3]) (by simp only [At.regD,Dps.new,go_sem,Nat.reduceEqDiff,Nat.reduceAdd,reduceIte,reduceCtorEq,Nat.reduceLeDiff,Int.reduceBEq,Int.reduceBNe,Int.reduceEq,Int.reduceLT,Int.reduceLE,Int.reduceNeg, cast_zero]) ?_ ?_
  · intro T'' h' hx' g2 hf
    simp only [At.regD,Dps.new,go_sem,Nat.reduceEqDiff,Nat.reduceAdd,reduceIte,reduceCtorEq,Nat.reduceLeDiff,Int.reduceBEq,Int.reduceBNe,Int.reduceEq,Int.reduceLT,Int.reduceLE,Int.reduceNeg, g2, hf, Bool.false_and]
    exact hx.trans (hx'.le hx.1)
  intro T2 h2 hx2 g1 g3 ht2
  have hk2 := hk1.to (Nat.le_refl _) hx2
  have hb2 : h2.get h.next = some ⟨c.cells, false⟩ := (hx2.2 _ (by omega)).trans hb
  have hx02 := hx.trans (hx2.le hx.1)
  simp only [At.regD,Dps.new,go_sem,Nat.reduceEqDiff,Nat.reduceAdd,reduceIte,reduceCtorEq,Nat.reduceLeDiff,Int.reduceBEq,Int.reduceBNe,Int.reduceEq,Int.reduceLT,Int.reduceLE,Int.reduceNeg, c79_17, g1, g3, ld_blk hb2, at3, ht2, Bool.true_and]
  refine callV.of (lits_ok hk2.ro k.bo k.wo) fun v h' hv => ?_
  obtain ⟨rfl, rfl⟩ := hv
  cases hq1 : litsP (varsP c) c.outs
  · simp only [At.regD,Dps.new,go_sem,Nat.reduceEqDiff,Nat.reduceAdd,reduceIte,reduceCtorEq,Nat.reduceLeDiff,Int.reduceBEq,Int.reduceBNe,Int.reduceEq,Int.reduceLT,Int.reduceLE,Int.reduceNeg, List.all_cons, hq1, Bool.false_and]
    exact hx02
  simp only [At.regD,Dps.new,go_sem,Nat.reduceEqDiff,Nat.reduceAdd,reduceIte,reduceCtorEq,Nat.reduceLeDiff,Int.reduceBEq,Int.reduceBNe,Int.reduceEq,Int.reduceLT,Int.reduceLE,Int.reduceNeg, g1, g3, ld_blk hb2, at4]
  refine callV.of (lits_ok hk2.rb k.bb k.wb) fun v h' hv => ?_
  obtain ⟨rfl, rfl⟩ := hv
  cases hq2 : litsP (varsP c) c.bads
  · simp only [At.regD,Dps.new,go_sem,Nat.reduceEqDiff,Nat.reduceAdd,reduceIte,reduceCtorEq,Nat.reduceLeDiff,Int.reduceBEq,Int.reduceBNe,Int.reduceEq,Int.reduceLT,Int.reduceLE,Int.reduceNeg, List.all_cons, hq1, hq2, Bool.false_and, Bool.and_false]
    exact hx02
  simp only [At.regD,Dps.new,go_sem,Nat.reduceEqDiff,Nat.reduceAdd,reduceIte,reduceCtorEq,Nat.reduceLeDiff,Int.reduceBEq,Int.reduceBNe,Int.reduceEq,Int.reduceLT,Int.reduceLE,Int.reduceNeg, g1, g3, ld_blk hb2, at5]
  refine callV.of (lits_ok hk2.rk k.bk k.wk) fun v h' hv => ?_
  obtain ⟨rfl, rfl⟩ := hv
  simp only [At.regD,Dps.new,go_sem,Nat.reduceEqDiff,Nat.reduceAdd,reduceIte,reduceCtorEq,Nat.reduceLeDiff,Int.reduceBEq,Int.reduceBNe,Int.reduceEq,Int.reduceLT,Int.reduceLE,Int.reduceNeg, List.all_cons, hq1, hq2, Bool.true_and, Bool.and_true]
  exact hx02
end Go.Proofs.YtmmpnmekiplhfaaGreat
