/-
  May a circuit be (norm.May)? How many variables are there (norm.Vars)?
-/
import Derived.Test.YtmmpnmekiplhfaaGreatAeData
import Derived.Test.YtmmpnmekiplhfaaGreatPdrCir
namespace Go.Proofs.YtmmpnmekiplhfaaGreat
open Go Go.Ae
set_option linter.unusedSimpArgs false

def listOk (c : Cir) (l : List Int) : Bool := decide (l.length ≤ 1024) && !l.any (beyond c)
def latOk (c : Cir) (p : Int × Int) : Bool := decide (p.2 ≤ 2) && !beyond c p.1
def gatOk (c : Cir) (i : Nat) (g : Int × Int) : Bool := decide (g.1 / 2 < c.inputs + c.lats.length + i + 1) && decide (g.2 ≤ g.1)
def gatsOk (c : Cir) (n : Nat) : Bool := (List.range n).all fun i => gatOk c i (c.gats.getD i (0, 0))
def sizeOk (c : Cir) : Bool := decide (0 ≤ c.inputs ∧ c.inputs ≤ 16384 ∧ varsP c ≤ 16384)
/-- May a circuit be? -/
def mayP (c : Cir) : Bool := sizeOk c && (([c.outs, c.bads, c.cons].all (listOk c)) && (c.lats.all (latOk c) && gatsOk c c.gats.length))

structure Small (c : Cir) : Prop where
  l : c.lats.length ≤ 140737488355328
  g : c.gats.length ≤ 140737488355328
theorem varsI_eq {c : Cir} (s : Small c) (h1 : 0 ≤ c.inputs) (h2 : c.inputs ≤ 16384) : varsI c = varsP c := by
  have := s.l
  have := s.g
  unfold varsI varsP
  rw [wrap_id (show -9223372036854775808 ≤ c.inputs + c.lats.length by omega) (by omega), wrap_id (by omega) (by omega)]

abbrev row3 (c : Cir) : List Value := [c.ov, c.bv, c.kv]

inductive M1 (c : Cir) (p b3 : Nat) (hA : H) : Nat → Tm → H → Prop
  | mk {T : Tm} {h : H} (i : Nat) (hi : i ≤ 3) (hx : Ext hA.next hA h) (g1 : g T 1 = .pointer (some ⟨p, 0, none⟩)) (g3 : g T 3 = .func (.func 145) #[] #[.pointer (some ⟨p, 0, none⟩)]) (g31 : g T 31 = .slice (some ⟨b3, 0, none⟩) 3 3)
      (g32 : g T 32 = int 3) (g33 : g T 33 = int i) (ha : (([c.outs, c.bads, c.cons].take i).all (listOk c)) = true) : M1 c p b3 hA (3 - i) T h

abbrev cM1 : C := .loop (.seq c97_5 (.seq (.cond (.tmp 34) .skip (.exit 0)) (.seq (.block 1 (.seq c97_6 (.seq c97_7 (.cond (.tmp 44) (.seq c97_8 .ret) .skip)))) c97_9)))

set_option maxHeartbeats 4000000 in
theorem may_lists {c : Cir} {n p b3 : Nat} {hA : H} {T : Tm} {fs : List Fm} {Q : Ex → Tm → H → Prop} (k : CirOk n hA c) (hn : n ≤ hA.next) (hp : hA.get p = some ⟨c.cells, false⟩) (hpl : p < hA.next) (h3 : hA.get b3 = some ⟨row3 c, false⟩) (h3l : b3 < hA.next)
    (g1 : g T 1 = .pointer (some ⟨p, 0, none⟩)) (g3 : g T 3 = .func (.func 145) #[] #[.pointer (some ⟨p, 0, none⟩)]) (g31 : g T 31 = .slice (some ⟨b3, 0, none⟩) 3 3) (g32 : g T 32 = int 3) (g33 : g T 33 = int (0 : Nat))
    (no : ∀ T' h', Ext hA.next hA h' → g T' 2 = .bool false → ([c.outs, c.bads, c.cons].all (listOk c)) = false → On E .ret T' h' fs Q)
    (yes : ∀ T' h', Ext hA.next hA h' → g T' 1 = .pointer (some ⟨p, 0, none⟩) → g T' 3 = .func (.func 145) #[] #[.pointer (some ⟨p, 0, none⟩)] → ([c.outs, c.bads, c.cons].all (listOk c)) = true → On E (.exit 0) T' h' fs Q) :
    At E cM1 T hA fs Q := by
  refine At.loop (M1 c p b3 hA) ?_ 3 ?_
  · rintro w T h ⟨i, hi, hx, g1, g3, g31, g32, g33, ha⟩
    simp only [stp2,go_sem,Nat.reduceEqDiff,Nat.reduceAdd,reduceIte,reduceCtorEq,Nat.reduceLeDiff,Int.reduceBEq,Int.reduceBNe,Int.reduceEq,Int.reduceLT,Int.reduceLE,Int.reduceNeg,List.nil_append,List.cons_append,List.append_nil,List.toList_toArray,Option.map_none, c97_5, g32, g33]
    have hkx := k.ext (hx.le hn)
    have hp' : h.get p = some ⟨c.cells, false⟩ := (hx.2 p hpl).trans hp
    have h3' : h.get b3 = some ⟨row3 c, false⟩ := (hx.2 b3 h3l).trans h3
    by_cases hlt : i < 3
    · have hlt' : (i : Int) < 3 := by omega
      -- the i-th list
      obtain ⟨u, l, hu, hl, hru, hou, hwu⟩ : ∃ u l, (row3 c)[i]? = some u ∧ [c.outs, c.bads, c.cons][i]? = some l ∧ Rd h u (u32s l) ∧ Old h.next u ∧ ∀ x ∈ l, U32 x := by
        have hnx := Nat.le_trans hn hx.1
        rcases (by omega : i = 0 ∨ i = 1 ∨ i = 2) with rfl | rfl | rfl
        · exact ⟨c.ov, c.outs, rfl, rfl, hkx.ro, hkx.oo.mono hnx, k.wo⟩
        · exact ⟨c.bv, c.bads, rfl, rfl, hkx.rb, hkx.ob.mono hnx, k.wb⟩
        · exact ⟨c.kv, c.cons, rfl, rfl, hkx.rk, hkx.ok.mono hnx, k.wk⟩
      obtain ⟨ua, um, hus⟩ := hru.len
      rw [List.length_map] at hus
      have hall : (([c.outs, c.bads, c.cons].take (i + 1)).all (listOk c)) = listOk c l := by
        rw [List.take_add_one, hl, List.all_append, ha]; simp
      have wi : IntKind.i64.wrap ((i : Int) + 1) = ((i + 1 : Nat) : Int) := by rw [wrap_id (by omega) (by omega)]; omega
      have hfalse : listOk c l = false → ([c.outs, c.bads, c.cons].all (listOk c)) = false := fun hf => by
        rw [List.all_eq_false]
        exact ⟨l, List.mem_of_getElem? hl, by rw [hf]; decide⟩
      simp only [stp2,go_sem,Nat.reduceEqDiff,Nat.reduceAdd,reduceIte,reduceCtorEq,Nat.reduceLeDiff,Int.reduceBEq,Int.reduceBNe,Int.reduceEq,Int.reduceLT,Int.reduceLE,Int.reduceNeg,List.nil_append,List.cons_append,List.append_nil,List.toList_toArray,Option.map_none, hlt', c97_6, g31, g33, natOf_int (Int.natCast_nonneg i), Int.toNat_natCast, hlt, ld_blk h3', hu, c97_7]
      by_cases hbig : (1024 : Int) < l.length
      · simp only [stp2,go_sem,Nat.reduceEqDiff,Nat.reduceAdd,reduceIte,reduceCtorEq,Nat.reduceLeDiff,Int.reduceBEq,Int.reduceBNe,Int.reduceEq,Int.reduceLT,Int.reduceLE,Int.reduceNeg,List.nil_append,List.cons_append,List.append_nil,List.toList_toArray,Option.map_none, hus, hbig, c97_8]
        refine no _ _ hx (by simp only [stp2,go_sem,Nat.reduceEqDiff,Nat.reduceAdd,reduceIte,reduceCtorEq,Nat.reduceLeDiff,Int.reduceBEq,Int.reduceBNe,Int.reduceEq,Int.reduceLT,Int.reduceLE,Int.reduceNeg,List.nil_append,List.cons_append,List.append_nil,List.toList_toArray,Option.map_none]) (hfalse ?_)
        unfold listOk
        rw [decide_eq_false (by omega)]; rfl
      · simp only [stp2,go_sem,Nat.reduceEqDiff,Nat.reduceAdd,reduceIte,reduceCtorEq,Nat.reduceLeDiff,Int.reduceBEq,Int.reduceBNe,Int.reduceEq,Int.reduceLT,Int.reduceLE,Int.reduceNeg,List.nil_append,List.cons_append,List.append_nil,List.toList_toArray,Option.map_none, hus, hbig, g3]
        rw [← hus]
        refine callV.of (contains32_ok hru hou (by omega) (fun x hx2 h' hx' => beyond_ok (hkx.ext (hx'.le (Nat.le_trans hn hx.1))) ((hx'.2 p (Nat.lt_of_lt_of_le hpl hx.1)).trans hp') (hwu x hx2))) fun v h' hv => ?_
        obtain ⟨rfl, hx'⟩ := hv
        have hxx : Ext hA.next hA h' := hx.trans (hx'.le hx.1)
        have hlo : listOk c l = !l.any (beyond c) := by unfold listOk; rw [decide_eq_true (by omega)]; rfl
        cases hb : l.any (beyond c)
        · simp only [stp2,go_sem,Nat.reduceEqDiff,Nat.reduceAdd,reduceIte,reduceCtorEq,Nat.reduceLeDiff,Int.reduceBEq,Int.reduceBNe,Int.reduceEq,Int.reduceLT,Int.reduceLE,Int.reduceNeg,List.nil_append,List.cons_append,List.append_nil,List.toList_toArray,Option.map_none, c97_9, g33, wi]
          refine ⟨_, ?_, .mk (i + 1) hlt hxx ?_ ?_ ?_ ?_ ?_ (by rw [hall, hlo, hb]; rfl)⟩
          · omega
          · simp only [stp2,go_sem,Nat.reduceEqDiff,Nat.reduceAdd,reduceIte,reduceCtorEq,Nat.reduceLeDiff,Int.reduceBEq,Int.reduceBNe,Int.reduceEq,Int.reduceLT,Int.reduceLE,Int.reduceNeg,List.nil_append,List.cons_append,List.append_nil,List.toList_toArray,Option.map_none, g1]
          · simp only [stp2,go_sem,Nat.reduceEqDiff,Nat.reduceAdd,reduceIte,reduceCtorEq,Nat.reduceLeDiff,Int.reduceBEq,Int.reduceBNe,Int.reduceEq,Int.reduceLT,Int.reduceLE,Int.reduceNeg,List.nil_append,List.cons_append,List.append_nil,List.toList_toArray,Option.map_none, g3]
          · simp only [stp2,go_sem,Nat.reduceEqDiff,Nat.reduceAdd,reduceIte,reduceCtorEq,Nat.reduceLeDiff,Int.reduceBEq,Int.reduceBNe,Int.reduceEq,Int.reduceLT,Int.reduceLE,Int.reduceNeg,List.nil_append,List.cons_append,List.append_nil,List.toList_toArray,Option.map_none, g31]
          · simp only [stp2,go_sem,Nat.reduceEqDiff,Nat.reduceAdd,reduceIte,reduceCtorEq,Nat.reduceLeDiff,Int.reduceBEq,Int.reduceBNe,Int.reduceEq,Int.reduceLT,Int.reduceLE,Int.reduceNeg,List.nil_append,List.cons_append,List.append_nil,List.toList_toArray,Option.map_none, g32]
          · simp only [stp2,go_sem,Nat.reduceEqDiff,Nat.reduceAdd,reduceIte,reduceCtorEq,Nat.reduceLeDiff,Int.reduceBEq,Int.reduceBNe,Int.reduceEq,Int.reduceLT,Int.reduceLE,Int.reduceNeg,List.nil_append,List.cons_append,List.append_nil,List.toList_toArray,Option.map_none]
        · simp only [stp2,go_sem,Nat.reduceEqDiff,Nat.reduceAdd,reduceIte,reduceCtorEq,Nat.reduceLeDiff,Int.reduceBEq,Int.reduceBNe,Int.reduceEq,Int.reduceLT,Int.reduceLE,Int.reduceNeg,List.nil_append,List.cons_append,List.append_nil,List.toList_toArray,Option.map_none, c97_8]
          exact no _ _ hxx (by simp only [stp2,go_sem,Nat.reduceEqDiff,Nat.reduceAdd,reduceIte,reduceCtorEq,Nat.reduceLeDiff,Int.reduceBEq,Int.reduceBNe,Int.reduceEq,Int.reduceLT,Int.reduceLE,Int.reduceNeg,List.nil_append,List.cons_append,List.append_nil,List.toList_toArray,Option.map_none]) (hfalse (by rw [hlo, hb]; rfl))
    · have : i = 3 := by omega
      subst this
      simp only [stp2,go_sem,Nat.reduceEqDiff,Nat.reduceAdd,reduceIte,reduceCtorEq,Nat.reduceLeDiff,Int.reduceBEq,Int.reduceBNe,Int.reduceEq,Int.reduceLT,Int.reduceLE,Int.reduceNeg,List.nil_append,List.cons_append,List.append_nil,List.toList_toArray,Option.map_none, show ¬ (((3 : Nat) : Int) < 3) by decide]
      exact yes _ _ hx (by simp only [stp2,go_sem,Nat.reduceEqDiff,Nat.reduceAdd,reduceIte,reduceCtorEq,Nat.reduceLeDiff,Int.reduceBEq,Int.reduceBNe,Int.reduceEq,Int.reduceLT,Int.reduceLE,Int.reduceNeg,List.nil_append,List.cons_append,List.append_nil,List.toList_toArray,Option.map_none, g1]) (by simp only [stp2,go_sem,Nat.reduceEqDiff,Nat.reduceAdd,reduceIte,reduceCtorEq,Nat.reduceLeDiff,Int.reduceBEq,Int.reduceBNe,Int.reduceEq,Int.reduceLT,Int.reduceLE,Int.reduceNeg,List.nil_append,List.cons_append,List.append_nil,List.toList_toArray,Option.map_none, g3]) ha
  · exact .mk 0 (by omega) (Ext.refl _ _) g1 g3 g31 g32 g33 rfl

theorem ext_box {h : H} (k k' : Blk) : Ext h.next h ((h.new k).set h.next (some k')) := ⟨Nat.le_succ _, fun i hi => by rw [H.get_set, if_neg (by omega), H.get_new, if_neg (by omega)]⟩
theorem box_sts {h : H} {zs vs : List Value} (hl : vs.length = zs.length) (ho : vs.all Value.oneCell' = true) : (h.new ⟨zs, false⟩).sts h.next 0 vs = some ((h.new ⟨zs, false⟩).set h.next (some ⟨vs, false⟩)) := by
  rw [sts_of (get_newest h _) rfl (by simp; omega) ho, put_eq _ _ _ (by simp; omega)]
  simp [hl]
theorem two_one (k1 k2 : IntKind) (a b : Int) : [Value.int k1 a, Value.int k2 b].all Value.oneCell' = true := rfl

inductive M2 (c : Cir) (p : Nat) (hA : H) : Nat → Tm → H → Prop
  | mk {T : Tm} {h : H} (i : Nat) (hi : i ≤ c.lats.length) (hx : Ext hA.next hA h) (g1 : g T 1 = .pointer (some ⟨p, 0, none⟩)) (g3 : g T 3 = .func (.func 145) #[] #[.pointer (some ⟨p, 0, none⟩)]) (g47 : g T 47 = c.lv)
      (g48 : g T 48 = int c.lats.length) (g49 : g T 49 = int i) (ha : (c.lats.take i).all (latOk c) = true) : M2 c p hA (c.lats.length - i) T h

abbrev cM2 : C := .loop (.seq c97_11 (.seq (.cond (.tmp 50) .skip (.exit 2)) (.seq (.block 3 (.seq c97_12 (.seq c97_13 (.cond (.tmp 61) (.seq c97_14 .ret) .skip)))) c97_15)))

set_option maxHeartbeats 4000000 in
theorem may_lats {c : Cir} {n p : Nat} {hA : H} {T : Tm} {fs : List Fm} {Q : Ex → Tm → H → Prop} (k : CirOk n hA c) (s : Small c) (hn : n ≤ hA.next) (hp : hA.get p = some ⟨c.cells, false⟩) (hpl : p < hA.next)
    (g1 : g T 1 = .pointer (some ⟨p, 0, none⟩)) (g3 : g T 3 = .func (.func 145) #[] #[.pointer (some ⟨p, 0, none⟩)]) (g47 : g T 47 = c.lv) (g48 : g T 48 = int c.lats.length) (g49 : g T 49 = int (0 : Nat))
    (no : ∀ T' h', Ext hA.next hA h' → g T' 2 = .bool false → c.lats.all (latOk c) = false → On E .ret T' h' fs Q)
    (yes : ∀ T' h', Ext hA.next hA h' → g T' 1 = .pointer (some ⟨p, 0, none⟩) → c.lats.all (latOk c) = true → On E (.exit 2) T' h' fs Q) :
    At E cM2 T hA fs Q := by
  have sl := s.l
  refine At.loop (M2 c p hA) ?_ c.lats.length ?_
  · rintro w T h ⟨i, hi, hx, g1, g3, g47, g48, g49, ha⟩
    have hkx := k.ext (hx.le hn)
    obtain ⟨la, lm, hls⟩ := hkx.rl.len
    have gs := g47.trans hls
    have hp' : h.get p = some ⟨c.cells, false⟩ := (hx.2 p hpl).trans hp
    simp only [stp2,go_sem,Nat.reduceEqDiff,Nat.reduceAdd,reduceIte,reduceCtorEq,Nat.reduceLeDiff,Int.reduceBEq,Int.reduceBNe,Int.reduceEq,Int.reduceLT,Int.reduceLE,Int.reduceNeg,List.nil_append,List.cons_append,List.append_nil,List.toList_toArray,Option.map_none, c97_11, g48, g49, Int.ofNat_lt]
    by_cases hlt : i < c.lats.length
    · obtain ⟨b, o, sp, cap', hb, hld⟩ := hkx.rl.at hlt
      rw [hls] at hb; cases hb
      have hw := k.wl _ (List.getElem_mem hlt)
      have wi : IntKind.i64.wrap ((i : Int) + 1) = ((i + 1 : Nat) : Int) := by rw [wrap_id (by omega) (by omega)]; omega
      have hall : (c.lats.take (i + 1)).all (latOk c) = latOk c c.lats[i] := by rw [take_succ hlt, List.all_append, ha]; simp
      have hfalse : latOk c c.lats[i] = false → c.lats.all (latOk c) = false := fun hf => by
        rw [List.all_eq_false]
        exact ⟨_, List.getElem_mem hlt, by rw [hf]; decide⟩
      have hbx := ext_box (h := h) ⟨[.int .u32 0, .int .u8 0], false⟩ ⟨[.int .u32 c.lats[i].1, .int .u8 c.lats[i].2], false⟩
      have hst := box_sts (h := h) (zs := [.int .u32 0, .int .u8 0]) (vs := [.int .u32 c.lats[i].1, .int .u8 c.lats[i].2]) rfl (two_one .u32 .u8 c.lats[i].1 c.lats[i].2)
      simp only [stp2,go_sem,Nat.reduceEqDiff,Nat.reduceAdd,reduceIte,reduceCtorEq,Nat.reduceLeDiff,Int.reduceBEq,Int.reduceBNe,Int.reduceEq,Int.reduceLT,Int.reduceLE,Int.reduceNeg,List.nil_append,List.cons_append,List.append_nil,List.toList_toArray,Option.map_none, hlt, c97_12, gs, g49, natOf_int (Int.natCast_nonneg i), Int.toNat_natCast, hld, hst, c97_13, ld_set]
      have hc : ((h.new ⟨[.int .u32 0, .int .u8 0], false⟩).set h.next (some ⟨[.int .u32 c.lats[i].1, .int .u8 c.lats[i].2], false⟩)).get h.next = some ⟨[.int .u32 c.lats[i].1, .int .u8 c.lats[i].2], false⟩ := by rw [H.get_set, if_pos rfl]
      generalize (h.new ⟨[.int .u32 0, .int .u8 0], false⟩).set h.next (some ⟨[.int .u32 c.lats[i].1, .int .u8 c.lats[i].2], false⟩) = h2 at hbx hc
      have hx2 : Ext hA.next hA h2 := hx.trans (hbx.le hx.1)
      have e1 : latOk c c.lats[i] = (decide (c.lats[i].2 ≤ 2) && !beyond c c.lats[i].1) := rfl
      by_cases hr : 2 < c.lats[i].2
      · simp only [stp2,go_sem,Nat.reduceEqDiff,Nat.reduceAdd,reduceIte,reduceCtorEq,Nat.reduceLeDiff,Int.reduceBEq,Int.reduceBNe,Int.reduceEq,Int.reduceLT,Int.reduceLE,Int.reduceNeg,List.nil_append,List.cons_append,List.append_nil,List.toList_toArray,Option.map_none, hr, c97_14]
        exact no _ _ hx2 (by simp only [stp2,go_sem,Nat.reduceEqDiff,Nat.reduceAdd,reduceIte,reduceCtorEq,Nat.reduceLeDiff,Int.reduceBEq,Int.reduceBNe,Int.reduceEq,Int.reduceLT,Int.reduceLE,Int.reduceNeg,List.nil_append,List.cons_append,List.append_nil,List.toList_toArray,Option.map_none]) (hfalse (by rw [e1, decide_eq_false (by omega)]; rfl))
      · simp only [stp2,go_sem,Nat.reduceEqDiff,Nat.reduceAdd,reduceIte,reduceCtorEq,Nat.reduceLeDiff,Int.reduceBEq,Int.reduceBNe,Int.reduceEq,Int.reduceLT,Int.reduceLE,Int.reduceNeg,List.nil_append,List.cons_append,List.append_nil,List.toList_toArray,Option.map_none, hr, g3, ld_blk hc]
        refine callV.of (beyond_ok (k.ext (hx2.le hn)) ((hx2.2 p hpl).trans hp) hw.1) fun v h' hv => ?_
        obtain ⟨rfl, hx'⟩ := hv
        have hxx : Ext hA.next hA h' := hx2.trans (hx'.le hx2.1)
        have e2 : latOk c c.lats[i] = !beyond c c.lats[i].1 := by rw [e1, decide_eq_true (by omega)]; rfl
        cases hbb : beyond c c.lats[i].1
        · simp only [stp2,go_sem,Nat.reduceEqDiff,Nat.reduceAdd,reduceIte,reduceCtorEq,Nat.reduceLeDiff,Int.reduceBEq,Int.reduceBNe,Int.reduceEq,Int.reduceLT,Int.reduceLE,Int.reduceNeg,List.nil_append,List.cons_append,List.append_nil,List.toList_toArray,Option.map_none, c97_15, g49, wi]
          refine ⟨_, ?_, .mk (i + 1) hlt hxx ?_ ?_ ?_ ?_ ?_ (by rw [hall, e2, hbb]; rfl)⟩
          · omega
          · simp only [stp2,go_sem,Nat.reduceEqDiff,Nat.reduceAdd,reduceIte,reduceCtorEq,Nat.reduceLeDiff,Int.reduceBEq,Int.reduceBNe,Int.reduceEq,Int.reduceLT,Int.reduceLE,Int.reduceNeg,List.nil_append,List.cons_append,List.append_nil,List.toList_toArray,Option.map_none, g1]
          · simp only [stp2,go_sem,Nat.reduceEqDiff,Nat.reduceAdd,reduceIte,reduceCtorEq,Nat.reduceLeDiff,Int.reduceBEq,Int.reduceBNe,Int.reduceEq,Int.reduceLT,Int.reduceLE,Int.reduceNeg,List.nil_append,List.cons_append,List.append_nil,List.toList_toArray,Option.map_none, g3]
          · simp only [stp2,go_sem,Nat.reduceEqDiff,Nat.reduceAdd,reduceIte,reduceCtorEq,Nat.reduceLeDiff,Int.reduceBEq,Int.reduceBNe,Int.reduceEq,Int.reduceLT,Int.reduceLE,Int.reduceNeg,List.nil_append,List.cons_append,List.append_nil,List.toList_toArray,Option.map_none, g47]
          · simp only [stp2,go_sem,Nat.reduceEqDiff,Nat.reduceAdd,reduceIte,reduceCtorEq,Nat.reduceLeDiff,Int.reduceBEq,Int.reduceBNe,Int.reduceEq,Int.reduceLT,Int.reduceLE,Int.reduceNeg,List.nil_append,List.cons_append,List.append_nil,List.toList_toArray,Option.map_none, g48]
          · simp only [stp2,go_sem,Nat.reduceEqDiff,Nat.reduceAdd,reduceIte,reduceCtorEq,Nat.reduceLeDiff,Int.reduceBEq,Int.reduceBNe,Int.reduceEq,Int.reduceLT,Int.reduceLE,Int.reduceNeg,List.nil_append,List.cons_append,List.append_nil,List.toList_toArray,Option.map_none]
        · simp only [stp2,go_sem,Nat.reduceEqDiff,Nat.reduceAdd,reduceIte,reduceCtorEq,Nat.reduceLeDiff,Int.reduceBEq,Int.reduceBNe,Int.reduceEq,Int.reduceLT,Int.reduceLE,Int.reduceNeg,List.nil_append,List.cons_append,List.append_nil,List.toList_toArray,Option.map_none, c97_14]
          exact no _ _ hxx (by simp only [stp2,go_sem,Nat.reduceEqDiff,Nat.reduceAdd,reduceIte,reduceCtorEq,Nat.reduceLeDiff,Int.reduceBEq,Int.reduceBNe,Int.reduceEq,Int.reduceLT,Int.reduceLE,Int.reduceNeg,List.nil_append,List.cons_append,List.append_nil,List.toList_toArray,Option.map_none]) (hfalse (by rw [e2, hbb]; rfl))
    · have : i = c.lats.length := by omega
      subst this
      rw [List.take_length] at ha
      simp only [stp2,go_sem,Nat.reduceEqDiff,Nat.reduceAdd,reduceIte,reduceCtorEq,Nat.reduceLeDiff,Int.reduceBEq,Int.reduceBNe,Int.reduceEq,Int.reduceLT,Int.reduceLE,Int.reduceNeg,List.nil_append,List.cons_append,List.append_nil,List.toList_toArray,Option.map_none, hlt]
      exact yes _ _ hx (by simp only [stp2,go_sem,Nat.reduceEqDiff,Nat.reduceAdd,reduceIte,reduceCtorEq,Nat.reduceLeDiff,Int.reduceBEq,Int.reduceBNe,Int.reduceEq,Int.reduceLT,Int.reduceLE,Int.reduceNeg,List.nil_append,List.cons_append,List.append_nil,List.toList_toArray,Option.map_none, g1]) ha
  · exact .mk 0 (Nat.zero_le _) (Ext.refl _ _) g1 g3 g47 g48 g49 rfl

inductive M3 (c : Cir) (hA : H) : Nat → Tm → H → Prop
  | mk {T : Tm} {h : H} (i : Nat) (hi : i ≤ c.gats.length) (hx : Ext hA.next hA h) (g71 : g T 71 = c.gv) (g72 : g T 72 = int c.gats.length) (g73 : g T 73 = int i) (g8 : g T 8 = .int .u32 (c.inputs + c.lats.length + i))
      (ha : gatsOk c i = true) : M3 c hA (c.gats.length - i) T h

abbrev cM3 : C := .loop (.seq c97_18 (.seq (.cond (.tmp 74) .skip (.exit 4)) (.seq (.block 5 (.seq c97_19 (.seq c97_20 (.seq c97_21 (.cond (.tmp 90) (.seq c97_22 .ret) .skip))))) c97_23)))

set_option maxHeartbeats 4000000 in
theorem may_gats {c : Cir} {n : Nat} {hA : H} {T : Tm} {fs : List Fm} {Q : Ex → Tm → H → Prop} (k : CirOk n hA c) (s : Small c) (h0 : 0 ≤ c.inputs) (h1 : c.inputs ≤ 16384) (hv : c.inputs + c.lats.length + c.gats.length ≤ 16384) (hn : n ≤ hA.next)
    (g71 : g T 71 = c.gv) (g72 : g T 72 = int c.gats.length) (g73 : g T 73 = int (0 : Nat)) (g8 : g T 8 = .int .u32 (c.inputs + c.lats.length))
    (no : ∀ T' h', Ext hA.next hA h' → g T' 2 = .bool false → gatsOk c c.gats.length = false → On E .ret T' h' fs Q)
    (yes : ∀ T' h', Ext hA.next hA h' → gatsOk c c.gats.length = true → On E (.exit 4) T' h' fs Q) :
    At E cM3 T hA fs Q := by
  have sl := s.l
  have sg := s.g
  refine At.loop (M3 c hA) ?_ c.gats.length ?_
  · rintro w T h ⟨i, hi, hx, g71, g72, g73, g8, ha⟩
    have hkx := k.ext (hx.le hn)
    obtain ⟨la, lm, hls⟩ := hkx.rg.len
    have gs := g71.trans hls
    simp only [stp2,go_sem,Nat.reduceEqDiff,Nat.reduceAdd,reduceIte,reduceCtorEq,Nat.reduceLeDiff,Int.reduceBEq,Int.reduceBNe,Int.reduceEq,Int.reduceLT,Int.reduceLE,Int.reduceNeg,List.nil_append,List.cons_append,List.append_nil,List.toList_toArray,Option.map_none, c97_18, g72, g73, Int.ofNat_lt]
    by_cases hlt : i < c.gats.length
    · obtain ⟨b, o, sp, cap', hb, hld⟩ := hkx.rg.at hlt
      rw [hls] at hb; cases hb
      have hw := k.wg _ (List.getElem_mem hlt)
      have wi : IntKind.i64.wrap ((i : Int) + 1) = ((i + 1 : Nat) : Int) := by rw [wrap_id (by omega) (by omega)]; omega
      have wo : IntKind.u32.wrap (c.inputs + c.lats.length + i + 1) = c.inputs + c.lats.length + ((i + 1 : Nat) : Int) := by rw [IntWalk.u32_in _ (by omega)]; omega
      have hgd : c.gats.getD i (0, 0) = c.gats[i] := by rw [List.getD_eq_getElem?_getD, List.getElem?_eq_getElem hlt, Option.getD_some]
      have hall : gatsOk c (i + 1) = gatOk c i c.gats[i] := by
        have e : gatsOk c (i + 1) = (gatsOk c i && gatOk c i (c.gats.getD i (0, 0))) := by simp [gatsOk, List.range_succ]
        rw [e, ha, hgd]; rfl
      have hfalse : gatOk c i c.gats[i] = false → gatsOk c c.gats.length = false := fun hf => by
        unfold gatsOk
        rw [List.all_eq_false]
        exact ⟨i, List.mem_range.2 hlt, by rw [hgd, hf]; decide⟩
      have hbx := ext_box (h := h) ⟨[.int .u32 0, .int .u32 0], false⟩ ⟨[.int .u32 c.gats[i].1, .int .u32 c.gats[i].2], false⟩
      have hst := box_sts (h := h) (zs := [.int .u32 0, .int .u32 0]) (vs := [.int .u32 c.gats[i].1, .int .u32 c.gats[i].2]) rfl (two_one .u32 .u32 c.gats[i].1 c.gats[i].2)
      simp only [stp2,go_sem,Nat.reduceEqDiff,Nat.reduceAdd,reduceIte,reduceCtorEq,Nat.reduceLeDiff,Int.reduceBEq,Int.reduceBNe,Int.reduceEq,Int.reduceLT,Int.reduceLE,Int.reduceNeg,List.nil_append,List.cons_append,List.append_nil,List.toList_toArray,Option.map_none, hlt, c97_19, gs, g73, natOf_int (Int.natCast_nonneg i), Int.toNat_natCast, hld, hst, c97_20, g8, wo, c97_21, ld_set, shf, show ¬ ((1 : Int) < 0) by decide, shr_one]
      have hc : ((h.new ⟨[.int .u32 0, .int .u32 0], false⟩).set h.next (some ⟨[.int .u32 c.gats[i].1, .int .u32 c.gats[i].2], false⟩)).get h.next = some ⟨[.int .u32 c.gats[i].1, .int .u32 c.gats[i].2], false⟩ := by rw [H.get_set, if_pos rfl]
      generalize (h.new ⟨[.int .u32 0, .int .u32 0], false⟩).set h.next (some ⟨[.int .u32 c.gats[i].1, .int .u32 c.gats[i].2], false⟩) = h2 at hbx hc
      have hx2 : Ext hA.next hA h2 := hx.trans (hbx.le hx.1)
      have e1 : gatOk c i c.gats[i] = (decide (c.gats[i].1 / 2 < c.inputs + c.lats.length + i + 1) && decide (c.gats[i].2 ≤ c.gats[i].1)) := rfl
      by_cases hr : c.inputs + c.lats.length + ((i + 1 : Nat) : Int) ≤ c.gats[i].1 / 2
      · simp only [stp2,go_sem,Nat.reduceEqDiff,Nat.reduceAdd,reduceIte,reduceCtorEq,Nat.reduceLeDiff,Int.reduceBEq,Int.reduceBNe,Int.reduceEq,Int.reduceLT,Int.reduceLE,Int.reduceNeg,List.nil_append,List.cons_append,List.append_nil,List.toList_toArray,Option.map_none, hr, c97_22]
        exact no _ _ hx2 (by simp only [stp2,go_sem,Nat.reduceEqDiff,Nat.reduceAdd,reduceIte,reduceCtorEq,Nat.reduceLeDiff,Int.reduceBEq,Int.reduceBNe,Int.reduceEq,Int.reduceLT,Int.reduceLE,Int.reduceNeg,List.nil_append,List.cons_append,List.append_nil,List.toList_toArray,Option.map_none]) (hfalse (by rw [e1, decide_eq_false (by omega)]; rfl))
      · by_cases hab : c.gats[i].1 < c.gats[i].2
        · simp only [stp2,go_sem,Nat.reduceEqDiff,Nat.reduceAdd,reduceIte,reduceCtorEq,Nat.reduceLeDiff,Int.reduceBEq,Int.reduceBNe,Int.reduceEq,Int.reduceLT,Int.reduceLE,Int.reduceNeg,List.nil_append,List.cons_append,List.append_nil,List.toList_toArray,Option.map_none, hr, ld_blk hc, hab, c97_22]
          exact no _ _ hx2 (by simp only [stp2,go_sem,Nat.reduceEqDiff,Nat.reduceAdd,reduceIte,reduceCtorEq,Nat.reduceLeDiff,Int.reduceBEq,Int.reduceBNe,Int.reduceEq,Int.reduceLT,Int.reduceLE,Int.reduceNeg,List.nil_append,List.cons_append,List.append_nil,List.toList_toArray,Option.map_none]) (hfalse (by rw [e1, decide_eq_false (by omega : ¬ c.gats[i].2 ≤ c.gats[i].1), Bool.and_false]))
        · simp only [stp2,go_sem,Nat.reduceEqDiff,Nat.reduceAdd,reduceIte,reduceCtorEq,Nat.reduceLeDiff,Int.reduceBEq,Int.reduceBNe,Int.reduceEq,Int.reduceLT,Int.reduceLE,Int.reduceNeg,List.nil_append,List.cons_append,List.append_nil,List.toList_toArray,Option.map_none, hr, ld_blk hc, hab, c97_23, g73, wi]
          refine ⟨_, ?_, .mk (i + 1) hlt hx2 ?_ ?_ ?_ ?_ (by rw [hall, e1, decide_eq_true (by omega), decide_eq_true (by omega)]; rfl)⟩
          · omega
          · simp only [stp2,go_sem,Nat.reduceEqDiff,Nat.reduceAdd,reduceIte,reduceCtorEq,Nat.reduceLeDiff,Int.reduceBEq,Int.reduceBNe,Int.reduceEq,Int.reduceLT,Int.reduceLE,Int.reduceNeg,List.nil_append,List.cons_append,List.append_nil,List.toList_toArray,Option.map_none, g71]
          · simp only [stp2,go_sem,Nat.reduceEqDiff,Nat.reduceAdd,reduceIte,reduceCtorEq,Nat.reduceLeDiff,Int.reduceBEq,Int.reduceBNe,Int.reduceEq,Int.reduceLT,Int.reduceLE,Int.reduceNeg,List.nil_append,List.cons_append,List.append_nil,List.toList_toArray,Option.map_none, g72]
          · simp only [stp2,go_sem,Nat.reduceEqDiff,Nat.reduceAdd,reduceIte,reduceCtorEq,Nat.reduceLeDiff,Int.reduceBEq,Int.reduceBNe,Int.reduceEq,Int.reduceLT,Int.reduceLE,Int.reduceNeg,List.nil_append,List.cons_append,List.append_nil,List.toList_toArray,Option.map_none]
          · simp only [stp2,go_sem,Nat.reduceEqDiff,Nat.reduceAdd,reduceIte,reduceCtorEq,Nat.reduceLeDiff,Int.reduceBEq,Int.reduceBNe,Int.reduceEq,Int.reduceLT,Int.reduceLE,Int.reduceNeg,List.nil_append,List.cons_append,List.append_nil,List.toList_toArray,Option.map_none]
    · have : i = c.gats.length := by omega
      subst this
      simp only [stp2,go_sem,Nat.reduceEqDiff,Nat.reduceAdd,reduceIte,reduceCtorEq,Nat.reduceLeDiff,Int.reduceBEq,Int.reduceBNe,Int.reduceEq,Int.reduceLT,Int.reduceLE,Int.reduceNeg,List.nil_append,List.cons_append,List.append_nil,List.toList_toArray,Option.map_none, hlt]
      exact yes _ _ hx ha
  · exact .mk 0 (Nat.zero_le _) (Ext.refl _ _) g71 g72 g73 (by rw [g8]; simp) rfl

set_option maxHeartbeats 4000000 in
theorem may_ok {c : Cir} {h : H} (k : CirOk h.next h c) (s : Small c) : AF E 97 [.agg c.cells.toArray] h fun v h' => v = .bool (mayP c) ∧ Ext h.next h h' := by
  suffices key : ∀ Q : Value → H → Prop, (∀ h', Ext h.next h h' → Q (.bool (mayP c)) h') → AF E 97 [.agg c.cells.toArray] h Q from key _ fun h' hx => ⟨rfl, hx⟩
  intro Q hq
  refine AF.walk (E_fn comp97) (E_spec (by decide) _ _) ?_
  obtain ⟨⟨a1, m1, e1⟩, ⟨a2, m2, e2⟩, ⟨a3, m3, e3⟩, ⟨a4, m4, e4⟩, ⟨a5, m5, e5⟩⟩ := k.sl
  have hx : Ext h.next h (h.new ⟨c.cells, false⟩) := Ext.new _
  have hb : (h.new ⟨c.cells, false⟩).get h.next = some ⟨c.cells, false⟩ := by rw [H.get_new, if_pos rfl]
  have hn1 : (h.new ⟨c.cells, false⟩).next = h.next + 1 := rfl
  have hm : ∀ h', Ext h.next h h' → mayP c = false → Q (.bool false) h' := fun h' hx e => by have := hq h' hx; rwa [e] at this
  have hsz : sizeOk c = false → mayP c = false := fun e => by unfold mayP; rw [e]; rfl
  simp only [stp2,go_sem,Nat.reduceEqDiff,Nat.reduceAdd,reduceIte,reduceCtorEq,Nat.reduceLeDiff,Int.reduceBEq,Int.reduceBNe,Int.reduceEq,Int.reduceLT,Int.reduceLE,Int.reduceNeg,List.nil_append,List.cons_append,List.append_nil,List.toList_toArray,Option.map_none, c97, c97_0, cells_agg]
  generalize h.new ⟨c.cells, false⟩ = h1 at hx hb hn1
  by_cases i0 : c.inputs < 0
  · simp only [stp2,go_sem,Nat.reduceEqDiff,Nat.reduceAdd,reduceIte,reduceCtorEq,Nat.reduceLeDiff,Int.reduceBEq,Int.reduceBNe,Int.reduceEq,Int.reduceLT,Int.reduceLE,Int.reduceNeg,List.nil_append,List.cons_append,List.append_nil,List.toList_toArray,Option.map_none, c97_1, ld_blk hb, at0, i0, c97_2]
    exact hm _ hx (hsz (by unfold sizeOk; rw [decide_eq_false (by omega)]))
  by_cases i1 : 16384 < c.inputs
  · simp only [stp2,go_sem,Nat.reduceEqDiff,Nat.reduceAdd,reduceIte,reduceCtorEq,Nat.reduceLeDiff,Int.reduceBEq,Int.reduceBNe,Int.reduceEq,Int.reduceLT,Int.reduceLE,Int.reduceNeg,List.nil_append,List.cons_append,List.append_nil,List.toList_toArray,Option.map_none, c97_1, ld_blk hb, at0, i0, i1, c97_2]
    exact hm _ hx (hsz (by unfold sizeOk; rw [decide_eq_false (by omega)]))
  have hvi := varsI_eq s (by omega) (by omega)
  simp only [stp2,go_sem,Nat.reduceEqDiff,Nat.reduceAdd,reduceIte,reduceCtorEq,Nat.reduceLeDiff,Int.reduceBEq,Int.reduceBNe,Int.reduceEq,Int.reduceLT,Int.reduceLE,Int.reduceNeg,List.nil_append,List.cons_append,List.append_nil,List.toList_toArray,Option.map_none, c97_1, ld_blk hb, at0, i0, i1, ld6 hb]
  refine callV.of (vars_ok (k.ext hx)) fun v h2 hv => ?_
  obtain ⟨rfl, hx2⟩ := hv
  rw [hvi]
  have hx02 : Ext h.next h h2 := hx.trans (hx2.le hx.1)
  have hb2 : h2.get h.next = some ⟨c.cells, false⟩ := (hx2.2 _ (by omega)).trans hb
  by_cases i2 : 16384 < varsP c
  · simp only [stp2,go_sem,Nat.reduceEqDiff,Nat.reduceAdd,reduceIte,reduceCtorEq,Nat.reduceLeDiff,Int.reduceBEq,Int.reduceBNe,Int.reduceEq,Int.reduceLT,Int.reduceLE,Int.reduceNeg,List.nil_append,List.cons_append,List.append_nil,List.toList_toArray,Option.map_none, i2, c97_2]
    exact hm _ hx02 (hsz (by unfold sizeOk; rw [decide_eq_false (by omega)]))
  have hsT : sizeOk c = true := by unfold sizeOk; rw [decide_eq_true_eq]; omega
  have hmy : mayP c = (([c.outs, c.bads, c.cons].all (listOk c)) && (c.lats.all (latOk c) && gatsOk c c.gats.length)) := by unfold mayP; rw [hsT, Bool.true_and]
  simp only [stp2,go_sem,Nat.reduceEqDiff,Nat.reduceAdd,reduceIte,reduceCtorEq,Nat.reduceLeDiff,Int.reduceBEq,Int.reduceBNe,Int.reduceEq,Int.reduceLT,Int.reduceLE,Int.reduceNeg,List.nil_append,List.cons_append,List.append_nil,List.toList_toArray,Option.map_none, i2, c97_3, c97_4, ld_blk hb2, at3, at4, at5, e3, e4, e5]
  rw [← e3, ← e4, ← e5]
  have hx3 : Ext h2.next h2 (h2.new ⟨row3 c, false⟩) := Ext.new _
  have hb3 : (h2.new ⟨row3 c, false⟩).get h2.next = some ⟨row3 c, false⟩ := by rw [H.get_new, if_pos rfl]
  have hn3 : (h2.new ⟨row3 c, false⟩).next = h2.next + 1 := rfl
  generalize h2.new ⟨row3 c, false⟩ = h3 at hx3 hb3 hn3
  have hx03 : Ext h.next h h3 := hx02.trans (hx3.le hx02.1)
  have hlt2 : h.next < h2.next := by have := hx2.1; omega
  have hb33 : h3.get h.next = some ⟨c.cells, false⟩ := (hx3.2 _ hlt2).trans hb2
  have k3 : CirOk h.next h3 c := k.ext hx03
  have hle3 := hx03.1
  refine may_lists k3 hle3 hb33 (by omega) hb3 (by omega) ?_ ?_ ?_ ?_ ?_ (fun T' h4 hx4 g2 hno => ?_) fun T' h4 hx4 g1 g3 hyes => ?_
  all_goals first | (simp only [stp2,go_sem,Nat.reduceEqDiff,Nat.reduceAdd,reduceIte,reduceCtorEq,Nat.reduceLeDiff,Int.reduceBEq,Int.reduceBNe,Int.reduceEq,Int.reduceLT,Int.reduceLE,Int.reduceNeg,List.nil_append,List.cons_append,List.append_nil,List.toList_toArray,Option.map_none]; done) | (simp only [stp2,go_sem,Nat.reduceEqDiff,Nat.reduceAdd,reduceIte,reduceCtorEq,Nat.reduceLeDiff,Int.reduceBEq,Int.reduceBNe,Int.reduceEq,Int.reduceLT,Int.reduceLE,Int.reduceNeg,List.nil_append,List.cons_append,List.append_nil,List.toList_toArray,Option.map_none]; rfl) | skip
  · simp only [stp2,go_sem,Nat.reduceEqDiff,Nat.reduceAdd,reduceIte,reduceCtorEq,Nat.reduceLeDiff,Int.reduceBEq,Int.reduceBNe,Int.reduceEq,Int.reduceLT,Int.reduceLE,Int.reduceNeg,List.nil_append,List.cons_append,List.append_nil,List.toList_toArray,Option.map_none, g2]
    exact hm _ (hx03.trans (hx4.le hle3)) (by rw [hmy, hno]; rfl)
  have hx04 : Ext h.next h h4 := hx03.trans (hx4.le hle3)
  have hb4 : h4.get h.next = some ⟨c.cells, false⟩ := (hx4.2 _ (by omega)).trans hb33
  have hle4 := hx04.1
  have hn4 := hx4.1
  simp only [stp2,go_sem,Nat.reduceEqDiff,Nat.reduceAdd,reduceIte,reduceCtorEq,Nat.reduceLeDiff,Int.reduceBEq,Int.reduceBNe,Int.reduceEq,Int.reduceLT,Int.reduceLE,Int.reduceNeg,List.nil_append,List.cons_append,List.append_nil,List.toList_toArray,Option.map_none, c97_10, g1, ld_blk hb4, at1, e1]
  rw [← e1]
  refine may_lats (k.ext hx04) s hle4 hb4 (by omega) ?_ ?_ ?_ ?_ ?_ (fun T' h5 hx5 g2 hno => ?_) fun T' h5 hx5 g1 hyes2 => ?_
  all_goals first | (simp only [stp2,go_sem,Nat.reduceEqDiff,Nat.reduceAdd,reduceIte,reduceCtorEq,Nat.reduceLeDiff,Int.reduceBEq,Int.reduceBNe,Int.reduceEq,Int.reduceLT,Int.reduceLE,Int.reduceNeg,List.nil_append,List.cons_append,List.append_nil,List.toList_toArray,Option.map_none, g1, g3, e1]; done) | skip
  · simp only [stp2,go_sem,Nat.reduceEqDiff,Nat.reduceAdd,reduceIte,reduceCtorEq,Nat.reduceLeDiff,Int.reduceBEq,Int.reduceBNe,Int.reduceEq,Int.reduceLT,Int.reduceLE,Int.reduceNeg,List.nil_append,List.cons_append,List.append_nil,List.toList_toArray,Option.map_none, g2]
    exact hm _ (hx04.trans (hx5.le hle4)) (by rw [hmy, hyes, hno]; rfl)
  have hx05 : Ext h.next h h5 := hx04.trans (hx5.le hle4)
  have hb5 : h5.get h.next = some ⟨c.cells, false⟩ := (hx5.2 _ (by omega)).trans hb4
  have hle5 := hx05.1
  have sl := s.l
  have hvv : c.inputs + c.lats.length + c.gats.length ≤ 16384 := by
    have hv : varsP c ≤ 16384 := by omega
    unfold varsP at hv
    omega
  have w1 : IntKind.i64.wrap (c.inputs + c.lats.length) = c.inputs + c.lats.length := wrap_id (by omega) (by omega)
  have w2 : IntKind.u32.wrap (c.inputs + c.lats.length) = c.inputs + c.lats.length := IntWalk.u32_in _ (by omega)
  simp only [stp2,go_sem,Nat.reduceEqDiff,Nat.reduceAdd,reduceIte,reduceCtorEq,Nat.reduceLeDiff,Int.reduceBEq,Int.reduceBNe,Int.reduceEq,Int.reduceLT,Int.reduceLE,Int.reduceNeg,List.nil_append,List.cons_append,List.append_nil,List.toList_toArray,Option.map_none, c97_16, c97_17, g1, ld_blk hb5, at0, at1, at2, e1, e2, w1, w2]
  rw [← e2]
  refine may_gats (k.ext hx05) s (by omega) (by omega) hvv hle5 ?_ ?_ ?_ ?_ (fun T' h6 hx6 g2 hno => ?_) fun T' h6 hx6 hyes3 => ?_
  all_goals first | (simp only [stp2,go_sem,Nat.reduceEqDiff,Nat.reduceAdd,reduceIte,reduceCtorEq,Nat.reduceLeDiff,Int.reduceBEq,Int.reduceBNe,Int.reduceEq,Int.reduceLT,Int.reduceLE,Int.reduceNeg,List.nil_append,List.cons_append,List.append_nil,List.toList_toArray,Option.map_none, e2]; done) | skip
  · simp only [stp2,go_sem,Nat.reduceEqDiff,Nat.reduceAdd,reduceIte,reduceCtorEq,Nat.reduceLeDiff,Int.reduceBEq,Int.reduceBNe,Int.reduceEq,Int.reduceLT,Int.reduceLE,Int.reduceNeg,List.nil_append,List.cons_append,List.append_nil,List.toList_toArray,Option.map_none, g2]
    exact hm _ (hx05.trans (hx6.le hle5)) (by rw [hmy, hyes, hyes2, hno]; rfl)
  · simp only [stp2,go_sem,Nat.reduceEqDiff,Nat.reduceAdd,reduceIte,reduceCtorEq,Nat.reduceLeDiff,Int.reduceBEq,Int.reduceBNe,Int.reduceEq,Int.reduceLT,Int.reduceLE,Int.reduceNeg,List.nil_append,List.cons_append,List.append_nil,List.toList_toArray,Option.map_none, c97_24]
    have := hq h6 (hx05.trans (hx6.le hle5))
    rwa [hmy, hyes, hyes2, hyes3] at this

/-- How many variables are there (norm.Vars)? -/
def nvars (c : Cir) : Int := if mayP c = true then varsP c else 0
theorem mayP_size {c : Cir} (h : mayP c = true) : 0 ≤ c.inputs ∧ c.inputs ≤ 16384 ∧ varsP c ≤ 16384 := by
  unfold mayP sizeOk at h
  rw [Bool.and_eq_true, decide_eq_true_eq] at h
  exact h.1

theorem nvars_ok {c : Cir} {h : H} (k : CirOk h.next h c) (s : Small c) : AF E 175 [.agg c.cells.toArray] h fun v h' => v = int (nvars c) ∧ Ext h.next h h' := by
  refine AF.walk (E_fn comp175) (E_spec (by decide) _ _) ?_
  have hx : Ext h.next h (h.new ⟨c.cells, false⟩) := Ext.new _
  have hb : (h.new ⟨c.cells, false⟩).get h.next = some ⟨c.cells, false⟩ := by rw [H.get_new, if_pos rfl]
  have hn1 : (h.new ⟨c.cells, false⟩).next = h.next + 1 := rfl
  simp only [stp2,go_sem,Nat.reduceEqDiff,Nat.reduceAdd,reduceIte,reduceCtorEq,Nat.reduceLeDiff,Int.reduceBEq,Int.reduceBNe,Int.reduceEq,Int.reduceLT,Int.reduceLE,Int.reduceNeg,List.nil_append,List.cons_append,List.append_nil,List.toList_toArray,Option.map_none, c175, c175_0, cells_agg]
  generalize h.new ⟨c.cells, false⟩ = h1 at hx hb hn1
  simp only [stp2,go_sem,Nat.reduceEqDiff,Nat.reduceAdd,reduceIte,reduceCtorEq,Nat.reduceLeDiff,Int.reduceBEq,Int.reduceBNe,Int.reduceEq,Int.reduceLT,Int.reduceLE,Int.reduceNeg,List.nil_append,List.cons_append,List.append_nil,List.toList_toArray,Option.map_none, c175_1, ld6 hb]
  refine callV.of (may_ok (k.to (Nat.le_refl _) hx) s) fun v h2 hv => ?_
  obtain ⟨rfl, hx2⟩ := hv
  have hx02 : Ext h.next h h2 := hx.trans (hx2.le hx.1)
  have hb2 : h2.get h.next = some ⟨c.cells, false⟩ := (hx2.2 _ (by omega)).trans hb
  unfold nvars
  cases hm : mayP c
  · simp only [stp2,go_sem,Nat.reduceEqDiff,Nat.reduceAdd,reduceIte,reduceCtorEq,Nat.reduceLeDiff,Int.reduceBEq,Int.reduceBNe,Int.reduceEq,Int.reduceLT,Int.reduceLE,Int.reduceNeg,List.nil_append,List.cons_append,List.append_nil,List.toList_toArray,Option.map_none, c175_2]
    first | exact hx02 | exact ⟨by simp, hx02⟩
  · simp only [stp2,go_sem,Nat.reduceEqDiff,Nat.reduceAdd,reduceIte,reduceCtorEq,Nat.reduceLeDiff,Int.reduceBEq,Int.reduceBNe,Int.reduceEq,Int.reduceLT,Int.reduceLE,Int.reduceNeg,List.nil_append,List.cons_append,List.append_nil,List.toList_toArray,Option.map_none, c175_3, ld6 hb2]
    refine callV.of (vars_ok (k.ext hx02)) fun v h3 hv => ?_
    obtain ⟨rfl, hx3⟩ := hv
    simp only [stp2,go_sem,Nat.reduceEqDiff,Nat.reduceAdd,reduceIte,reduceCtorEq,Nat.reduceLeDiff,Int.reduceBEq,Int.reduceBNe,Int.reduceEq,Int.reduceLT,Int.reduceLE,Int.reduceNeg,List.nil_append,List.cons_append,List.append_nil,List.toList_toArray,Option.map_none]
    have := mayP_size hm
    exact ⟨by rw [varsI_eq s this.1 this.2.1], hx02.trans (hx3.le hx02.1)⟩

/-- Are there so many frames (enc.some)? -/
def someP (c : Cir) (f : Int) : Bool := mayP c && (decide (0 < f) && decide (f ≤ 256))
theorem some_ok {c : Cir} {h : H} {f : Int} (k : CirOk h.next h c) (s : Small c) : AF E 174 [.agg c.cells.toArray, int f] h fun v h' => v = .bool (someP c f) ∧ Ext h.next h h' := by
  refine AF.walk (E_fn comp174) (E_spec (by decide) _ _) ?_
  have hx : Ext h.next h (h.new ⟨c.cells, false⟩) := Ext.new _
  have hb : (h.new ⟨c.cells, false⟩).get h.next = some ⟨c.cells, false⟩ := by rw [H.get_new, if_pos rfl]
  simp only [stp2,go_sem,Nat.reduceEqDiff,Nat.reduceAdd,reduceIte,reduceCtorEq,Nat.reduceLeDiff,Int.reduceBEq,Int.reduceBNe,Int.reduceEq,Int.reduceLT,Int.reduceLE,Int.reduceNeg,List.nil_append,List.cons_append,List.append_nil,List.toList_toArray,Option.map_none, c174, c174_0, cells_agg]
  generalize h.new ⟨c.cells, false⟩ = h1 at hx hb
  simp only [stp2,go_sem,Nat.reduceEqDiff,Nat.reduceAdd,reduceIte,reduceCtorEq,Nat.reduceLeDiff,Int.reduceBEq,Int.reduceBNe,Int.reduceEq,Int.reduceLT,Int.reduceLE,Int.reduceNeg,List.nil_append,List.cons_append,List.append_nil,List.toList_toArray,Option.map_none, c174_1, ld6 hb]
  refine callV.of (may_ok (k.to (Nat.le_refl _) hx) s) fun v h2 hv => ?_
  obtain ⟨rfl, hx2⟩ := hv
  have hx02 : Ext h.next h h2 := hx.trans (hx2.le hx.1)
  unfold someP
  cases hm : mayP c
  · simp only [stp2,go_sem,Nat.reduceEqDiff,Nat.reduceAdd,reduceIte,reduceCtorEq,Nat.reduceLeDiff,Int.reduceBEq,Int.reduceBNe,Int.reduceEq,Int.reduceLT,Int.reduceLE,Int.reduceNeg,List.nil_append,List.cons_append,List.append_nil,List.toList_toArray,Option.map_none]
    first | exact hx02 | exact ⟨by simp, hx02⟩
  · by_cases h1 : 0 < f
    · simp only [stp2,go_sem,Nat.reduceEqDiff,Nat.reduceAdd,reduceIte,reduceCtorEq,Nat.reduceLeDiff,Int.reduceBEq,Int.reduceBNe,Int.reduceEq,Int.reduceLT,Int.reduceLE,Int.reduceNeg,List.nil_append,List.cons_append,List.append_nil,List.toList_toArray,Option.map_none, h1]
      first | exact hx02 | exact ⟨by simp, hx02⟩
    · simp only [stp2,go_sem,Nat.reduceEqDiff,Nat.reduceAdd,reduceIte,reduceCtorEq,Nat.reduceLeDiff,Int.reduceBEq,Int.reduceBNe,Int.reduceEq,Int.reduceLT,Int.reduceLE,Int.reduceNeg,List.nil_append,List.cons_append,List.append_nil,List.toList_toArray,Option.map_none, h1]
      first | exact hx02 | exact ⟨by simp, hx02⟩

/-- enc.Vars. -/
theorem evars_ok {c : Cir} {h : H} {f : Int} (k : CirOk h.next h c) (s : Small c) : AF E 137 [.agg c.cells.toArray, int f] h fun v h' => v = .tuple #[int (if someP c f = true then 1 + f * nvars c else 0), int (if someP c f = true then 0 else 2)] ∧ Ext h.next h h' := by
  refine AF.walk (E_fn comp137) (E_spec (by decide) _ _) ?_
  have hx : Ext h.next h (h.new ⟨c.cells, false⟩) := Ext.new _
  have hb : (h.new ⟨c.cells, false⟩).get h.next = some ⟨c.cells, false⟩ := by rw [H.get_new, if_pos rfl]
  have hn1 : (h.new ⟨c.cells, false⟩).next = h.next + 1 := rfl
  simp only [stp2,go_sem,Nat.reduceEqDiff,Nat.reduceAdd,reduceIte,reduceCtorEq,Nat.reduceLeDiff,Int.reduceBEq,Int.reduceBNe,Int.reduceEq,Int.reduceLT,Int.reduceLE,Int.reduceNeg,List.nil_append,List.cons_append,List.append_nil,List.toList_toArray,Option.map_none, c137, c137_0, cells_agg]
  generalize h.new ⟨c.cells, false⟩ = h1 at hx hb hn1
  simp only [stp2,go_sem,Nat.reduceEqDiff,Nat.reduceAdd,reduceIte,reduceCtorEq,Nat.reduceLeDiff,Int.reduceBEq,Int.reduceBNe,Int.reduceEq,Int.reduceLT,Int.reduceLE,Int.reduceNeg,List.nil_append,List.cons_append,List.append_nil,List.toList_toArray,Option.map_none, c137_1, ld6 hb]
  refine callV.of (some_ok (k.to (Nat.le_refl _) hx) s) fun v h2 hv => ?_
  obtain ⟨rfl, hx2⟩ := hv
  have hx02 : Ext h.next h h2 := hx.trans (hx2.le hx.1)
  have hb2 : h2.get h.next = some ⟨c.cells, false⟩ := (hx2.2 _ (by omega)).trans hb
  cases hs : someP c f
  · simp only [stp2,go_sem,Nat.reduceEqDiff,Nat.reduceAdd,reduceIte,reduceCtorEq,Nat.reduceLeDiff,Int.reduceBEq,Int.reduceBNe,Int.reduceEq,Int.reduceLT,Int.reduceLE,Int.reduceNeg,List.nil_append,List.cons_append,List.append_nil,List.toList_toArray,Option.map_none, c137_2]
    first | exact hx02 | exact ⟨by simp, hx02⟩
  · simp only [stp2,go_sem,Nat.reduceEqDiff,Nat.reduceAdd,reduceIte,reduceCtorEq,Nat.reduceLeDiff,Int.reduceBEq,Int.reduceBNe,Int.reduceEq,Int.reduceLT,Int.reduceLE,Int.reduceNeg,List.nil_append,List.cons_append,List.append_nil,List.toList_toArray,Option.map_none, c137_3, ld6 hb2]
    refine callV.of (nvars_ok (k.to (Nat.le_refl _) hx02) s) fun v h3 hv => ?_
    obtain ⟨rfl, hx3⟩ := hv
    have hs' := hs
    unfold someP at hs'
    rw [Bool.and_eq_true, Bool.and_eq_true, decide_eq_true_eq, decide_eq_true_eq] at hs'
    have hsz := mayP_size hs'.1
    have hnv : nvars c = varsP c := by unfold nvars; rw [if_pos hs'.1]
    have hv0 : 0 ≤ varsP c := by unfold varsP; omega
    have hmul : 0 ≤ f * varsP c ∧ f * varsP c ≤ 256 * 16384 := ⟨Int.mul_nonneg (by omega) hv0, Int.mul_le_mul hs'.2.2 hsz.2.2 hv0 (by omega)⟩
    rw [hnv]
    have w1 : IntKind.i64.wrap (f * varsP c) = f * varsP c := wrap_id (by omega) (by omega)
    have w2 : IntKind.i64.wrap (1 + f * varsP c) = 1 + f * varsP c := wrap_id (by omega) (by omega)
    simp only [stp2,go_sem,Nat.reduceEqDiff,Nat.reduceAdd,reduceIte,reduceCtorEq,Nat.reduceLeDiff,Int.reduceBEq,Int.reduceBNe,Int.reduceEq,Int.reduceLT,Int.reduceLE,Int.reduceNeg,List.nil_append,List.cons_append,List.append_nil,List.toList_toArray,Option.map_none, w1, w2]
    first | exact hx02.trans (hx3.le hx02.1) | exact ⟨by simp, hx02.trans (hx3.le hx02.1)⟩
end Go.Proofs.YtmmpnmekiplhfaaGreat
