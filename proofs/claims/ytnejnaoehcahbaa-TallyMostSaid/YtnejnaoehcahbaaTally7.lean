/-
  count: the tally of a row of literals.
-/
import Derived.Test.YtnejnaoehcahbaaAeMore
import Derived.Test.YtnejnaoehcahbaaTally6
namespace Go.Proofs.Ytnejnaoehcahbaa
open Go Go.Ae
set_option linter.unusedSimpArgs false

/-- A tally of literals: its outs, its clauses, the next variable. -/
inductive Cnt (o : Nat) : List Int → Int → List Int → List (List Int) → Int → Prop
  | one (x next : Int) : Cnt o [x] next [x] [] next
  | two {l1 l2 : List Int} {n0 n1 n2 : Int} {a b : List Int} {C1 C2 : List (List Int)} (h1 : l1 ≠ []) (h2 : l2 ≠ []) (c1 : Cnt o l1 n0 a C1 n1) (c2 : Cnt o l2 n1 b C2 n2) :
      Cnt o (l1 ++ l2) n0 (outL n2 (min (a.length + b.length) o)) (C1 ++ C2 ++ joinC a b (outL n2 (min (a.length + b.length) o))) (n2 + (min (a.length + b.length) o : Nat))

theorem Cnt.outs {o : Nat} {ls out : List Int} {n n' : Int} {C : List (List Int)} (c : Cnt o ls n out C n') : out.length ≤ ls.length := by
  induction c with
  | one => exact Nat.le_refl _
  | two h1 h2 c1 c2 i1 i2 => rw [outL_length, List.length_append]; omega

theorem sq_add (x y : Nat) (hx : 1 ≤ x) (hy : 1 ≤ y) : x * x + y * y + (x + y) ≤ (x + y) * (x + y) := by
  have h1 : (x + y) * (x + y) = x * x + y * y + 2 * (x * y) := by rw [Nat.add_mul, Nat.mul_add, Nat.mul_add, Nat.mul_comm y x]; omega
  have h2 : x ≤ x * y := Nat.le_mul_of_pos_right x hy
  have h3 : y ≤ x * y := Nat.le_mul_of_pos_left y hx
  omega

theorem flat_le {α : Type} {f : Nat → List α} {k : Nat} (h : ∀ i, (f i).length ≤ k) : ∀ n, ((List.range n).flatMap f).length ≤ n * k
  | 0 => by simp
  | n + 1 => by
    have := flat_le h n
    have := h n
    rw [List.range_succ, List.flatMap_append, List.length_append]
    simp only [List.flatMap_cons, List.flatMap_nil, List.append_nil]
    rw [Nat.add_mul]; omega
theorem cl_le (a b out : List Int) (i k : Nat) : (cl1 a b out i k ++ cl2 a b out i k).length ≤ 2 := by
  rw [List.length_append]; unfold cl1 cl2; split <;> split <;> simp
theorem joinC_le (a b out : List Int) : (joinC a b out).length ≤ (a.length + 1) * ((b.length + 1) * 2) := flat_le (fun i => flat_le (fun k => cl_le a b out i k) _) _

/-- Too many variables, or clauses, for so many literals. -/
def Big (ls : Nat) (next : Int) (L : Nat) : Prop := 4194305 < next + (ls * ls : Nat) ∨ 1048576 < L + 4 * (ls * ls)

structure CntSays (n p : Nat) (h : H) (outs : Int) (ls : List Int) (next : Int) (L : List (List Int)) (full : Bool) (v : Value) (h' : H) (L' : List (List Int)) (next' : Int) (full' : Bool) : Prop where
  kx : Kx none p h h'
  wk : Wk n h' p outs L' next' full'
  len : L'.length ≤ 1048576
  le : L.length ≤ L'.length
  lenk : L'.length ≤ L.length + 4 * (ls.length * ls.length)
  nle : next ≤ next'
  nlt : next' ≤ next + (ls.length * ls.length : Nat)
  no : full' = false → full = false ∧ ∃ out C, Cnt outs.toNat ls next out C next' ∧ L' = L ++ C ∧ Rd h' v (ints out) ∧ Ap h' p v
  big : full' = true → full = true ∨ Big ls.length next L.length

theorem addAll_lens : ∀ (cs : List (List Int)) (s : List (List Int) × Bool), s.1.length ≤ (addAll s cs).1.length ∧ (addAll s cs).1.length ≤ s.1.length + cs.length
  | [], s => ⟨Nat.le_refl _, Nat.le_refl _⟩
  | c :: cs, s => by
    have h1 := addAll_lens cs (addC s c)
    have h2 : s.1.length ≤ (addC s c).1.length ∧ (addC s c).1.length ≤ s.1.length + 1 := by
      unfold addC; simp only; split <;> simp
    have h3 : addAll s (c :: cs) = addAll (addC s c) cs := rfl
    rw [h3, List.length_cons]
    omega

theorem join_room (x y a b : Nat) (hx : 1 ≤ x) (hy : 1 ≤ y) (ha : a ≤ x) (hb : b ≤ y) : 4 * (x * x) + 4 * (y * y) + (a + 1) * ((b + 1) * 2) ≤ 4 * ((x + y) * (x + y)) := by
  have h0 : (a + 1) * ((b + 1) * 2) ≤ (x + 1) * ((y + 1) * 2) := Nat.mul_le_mul (by omega) (by omega)
  have h1 : (x + y) * (x + y) = x * x + y * y + 2 * (x * y) := by rw [Nat.add_mul, Nat.mul_add, Nat.mul_add, Nat.mul_comm y x]; omega
  have h2 : x ≤ x * y := Nat.le_mul_of_pos_right x hy
  have h3 : y ≤ x * y := Nat.le_mul_of_pos_left y hx
  have h4 : (x + 1) * ((y + 1) * 2) = 2 * (x * y) + 2 * x + 2 * y + 2 := by rw [← Nat.mul_assoc, Nat.add_mul x 1 (y + 1), Nat.mul_add]; omega
  omega

theorem big_mono {x y : Nat} {next next' : Int} {L L' : Nat} (hb : Big x next' L') (h1 : next' + (x * x : Nat) ≤ next + (y * y : Nat)) (h2 : L' + 4 * (x * x) ≤ L + 4 * (y * y)) : Big y next L := by
  unfold Big at *; omega

set_option maxHeartbeats 4000000 in
theorem count_ok {n p : Nat} {outs : Int} (ho : 0 ≤ outs) : ∀ (k : Nat) (ls : List Int) (v : Value) (h : H) (next : Int) (L : List (List Int)) (full : Bool), ls.length ≤ k → 1 ≤ ls.length → ls.length ≤ 4096 → Wk n h p outs L next full → Rd h v (ints ls) → Ap h p v →
    (∀ a n c, v = .slice (some a) n c → a.spot = none ∨ a.spot = some 1) → 0 ≤ next → next + (ls.length * ls.length : Nat) ≤ 100000000000 → L.length ≤ 1048576 →
    AF E 32 [.pointer (some ⟨p, 0, none⟩), v] h fun r h' => ∃ L' next' full', CntSays n p h outs ls next L full r h' L' next' full'
  | 0, ls, _, _, _, _, _, h1, h2, _, _, _, _, _, _, _, _ => absurd h1 (by omega)
  | k + 1, ls, v, h, next, L, full, hk, h1, h2, w, r, ap, sp, hn, hn2, hL => by
    refine AF.walk (E_fn comp32) (E_spec (by decide) _ _) ?_
    obtain ⟨lv, hp, _, hlp, hopen⟩ := w.open
    have hplt := w.lt
    obtain ⟨base, cap, hv⟩ := r.len
    rw [List.length_map] at hv
    have gv := hv
    by_cases hl : ls.length = 1
    · obtain ⟨x, rfl⟩ : ∃ x, ls = [x] := List.length_eq_one_iff.1 hl
      have hl1 : (((1 : Nat) : Int) == 1) = true := rfl
      rw [show [x].length = 1 from rfl] at hv
      simp only [At.skip,At.reg,At.regDu,At.seq,At.cond,At.block,At.exit,At.ret,On.nil,On.seq,On.seqE,On.seqR,On.out,On.outR,On.outE,condV.t,condV.f,Ops.nil,Ops.op,Ops.call,opV.mk,Ops.gate,gateV.tt,gateV.ff,gateV.tf,gateV.ft,gateV.un,Dps.nil,Dps.newSl,Dps.op,Dps.call,Dps.gate,dopV.mk,dopV.new,dgateV.tt,dgateV.ff,dgateV.tf,dgateV.ft,dgateV.un,I.isLoad,resQ.r,resQ.n,stepQ.n,stepQ.e,stepQ.r,set_some,set_none,of_nil,of_cons,rho_tmp,rho_const,rho_func,g_put,g_nil,evI,Ae.bin,binI,Ae.un,nilEq,lenOf,if_true,if_false,Nat.reduceEqDiff,Nat.reduceAdd,Nat.zero_add,reduceIte,List.map_cons,List.map_nil,Option.map_some,Option.bind_some,evRs,evR,one,Option.some.injEq,exists_eq_left',exists_eq_left,List.all_nil,reduceCtorEq,true_and,and_true,parts',fill_int,fill_bool,fill_slice,fill_ptr,fill_nil,reps_one,List.replicate,List.length_cons,List.length_nil,Nat.reduceLeDiff,List.set_cons_zero,List.set_cons_succ,List.length_set,List.length_replicate,adr,Nat.mul_one,decide_true,decide_false,Int.reduceBEq,Int.reduceBNe,Int.reduceLT,Int.reduceLE,Int.reduceNeg,beq_self_eq_true,bne_self_eq_false,Bool.not_true,Bool.not_false,cast_zero,cast_one,List.size_toArray,List.getElem?_toArray,List.getElem?_cons_zero,List.getElem?_cons_succ,H_eta,isTuple,cells_int,cells_bool,cells_slice,cells_ptr,cells_agg,put_one,dopX.f,dopX.t,kept_zero,Nat.add_zero,ge_iff_le,gt_iff_lt,Ops.callvV,callvV.mk,List.nil_append,List.cons_append,List.append_nil,List.toList_toArray,Option.map_none,optNat_n,optNat_s,H.up_zero,gateV.und,dgateV.und, c32, c32_0, c32_1, hv, hl1, c32_2]
      rw [← hv]
      refine callV.of (clone_ok r ap.old (by simp) (by simp)) fun u h' hu => ?_
      obtain ⟨ac, hx⟩ := hu
      simp only [At.skip,At.reg,At.regDu,At.seq,At.cond,At.block,At.exit,At.ret,On.nil,On.seq,On.seqE,On.seqR,On.out,On.outR,On.outE,condV.t,condV.f,Ops.nil,Ops.op,Ops.call,opV.mk,Ops.gate,gateV.tt,gateV.ff,gateV.tf,gateV.ft,gateV.un,Dps.nil,Dps.newSl,Dps.op,Dps.call,Dps.gate,dopV.mk,dopV.new,dgateV.tt,dgateV.ff,dgateV.tf,dgateV.ft,dgateV.un,I.isLoad,resQ.r,resQ.n,stepQ.n,stepQ.e,stepQ.r,set_some,set_none,of_nil,of_cons,rho_tmp,rho_const,rho_func,g_put,g_nil,evI,Ae.bin,binI,Ae.un,nilEq,lenOf,if_true,if_false,Nat.reduceEqDiff,Nat.reduceAdd,Nat.zero_add,reduceIte,List.map_cons,List.map_nil,Option.map_some,Option.bind_some,evRs,evR,one,Option.some.injEq,exists_eq_left',exists_eq_left,List.all_nil,reduceCtorEq,true_and,and_true,parts',fill_int,fill_bool,fill_slice,fill_ptr,fill_nil,reps_one,List.replicate,List.length_cons,List.length_nil,Nat.reduceLeDiff,List.set_cons_zero,List.set_cons_succ,List.length_set,List.length_replicate,adr,Nat.mul_one,decide_true,decide_false,Int.reduceBEq,Int.reduceBNe,Int.reduceLT,Int.reduceLE,Int.reduceNeg,beq_self_eq_true,bne_self_eq_false,Bool.not_true,Bool.not_false,cast_zero,cast_one,List.size_toArray,List.getElem?_toArray,List.getElem?_cons_zero,List.getElem?_cons_succ,H_eta,isTuple,cells_int,cells_bool,cells_slice,cells_ptr,cells_agg,put_one,dopX.f,dopX.t,kept_zero,Nat.add_zero,ge_iff_le,gt_iff_lt,Ops.callvV,callvV.mk,List.nil_append,List.cons_append,List.append_nil,List.toList_toArray,Option.map_none,optNat_n,optNat_s,H.up_zero,gateV.und,dgateV.und]
      obtain ⟨w2, k2⟩ := hopen h' next full hx.1 (by rw [hx.2 p hplt]; exact hp) (fun j hj _ => hx.2 j hj)
      refine ⟨L, next, full, k2, w2, hL, Nat.le_refl _, by omega, by omega, by omega, fun hf => ⟨hf, [x], [], .one x next, by simp, ac.rd, fun b hb => ?_⟩, fun hf => .inl hf⟩
      refine ⟨ac.old b hb, fun e => ac.ne hplt (by rw [← e]; exact hb), fun e => ?_⟩
      by_cases hbn : b < h.next
      · exact ac.ne hbn hb
      · have : lvB h p ≠ some b := fun e => by have := w.lv_lt e; omega
        have e2 : lvB h' p = lvB h p := by simp [lvB, hx.2 p hplt]
        rw [e2] at e
        exact this e
    · have hl1 : ((ls.length : Int) == 1) = false := by rw [beq_eq_false_iff_ne]; omega
      have hq : IntKind.i64.wrap ((ls.length : Int).tdiv 2) = ((ls.length / 2 : Nat) : Int) := by
        rw [Int.tdiv_eq_ediv_of_nonneg (Int.natCast_nonneg _), wrap_id (by omega) (by omega)]; omega
      obtain ⟨u1, e1, r1, b1, s1⟩ := r.slc3 sp (k := ls.length / 2) (by simp; omega) (by simp; omega)
      obtain ⟨u2, e2, r2, b2, s2⟩ := r.slcFrom sp (k := ls.length / 2) (by simp; omega)
      rw [← List.map_take] at r1
      rw [← List.map_drop] at r2
      rw [hv] at e1 e2
      have ap1 : Ap h p u1 := fun b hb => ap b (by rw [← b1]; exact hb)
      have ap2 : Ap h p u2 := fun b hb => ap b (by rw [← b2]; exact hb)
      simp only [At.skip,At.reg,At.regDu,At.seq,At.cond,At.block,At.exit,At.ret,On.nil,On.seq,On.seqE,On.seqR,On.out,On.outR,On.outE,condV.t,condV.f,Ops.nil,Ops.op,Ops.call,opV.mk,Ops.gate,gateV.tt,gateV.ff,gateV.tf,gateV.ft,gateV.un,Dps.nil,Dps.newSl,Dps.op,Dps.call,Dps.gate,dopV.mk,dopV.new,dgateV.tt,dgateV.ff,dgateV.tf,dgateV.ft,dgateV.un,I.isLoad,resQ.r,resQ.n,stepQ.n,stepQ.e,stepQ.r,set_some,set_none,of_nil,of_cons,rho_tmp,rho_const,rho_func,g_put,g_nil,evI,Ae.bin,binI,Ae.un,nilEq,lenOf,if_true,if_false,Nat.reduceEqDiff,Nat.reduceAdd,Nat.zero_add,reduceIte,List.map_cons,List.map_nil,Option.map_some,Option.bind_some,evRs,evR,one,Option.some.injEq,exists_eq_left',exists_eq_left,List.all_nil,reduceCtorEq,true_and,and_true,parts',fill_int,fill_bool,fill_slice,fill_ptr,fill_nil,reps_one,List.replicate,List.length_cons,List.length_nil,Nat.reduceLeDiff,List.set_cons_zero,List.set_cons_succ,List.length_set,List.length_replicate,adr,Nat.mul_one,decide_true,decide_false,Int.reduceBEq,Int.reduceBNe,Int.reduceLT,Int.reduceLE,Int.reduceNeg,beq_self_eq_true,bne_self_eq_false,Bool.not_true,Bool.not_false,cast_zero,cast_one,List.size_toArray,List.getElem?_toArray,List.getElem?_cons_zero,List.getElem?_cons_succ,H_eta,isTuple,cells_int,cells_bool,cells_slice,cells_ptr,cells_agg,put_one,dopX.f,dopX.t,kept_zero,Nat.add_zero,ge_iff_le,gt_iff_lt,Ops.callvV,callvV.mk,List.nil_append,List.cons_append,List.append_nil,List.toList_toArray,Option.map_none,optNat_n,optNat_s,H.up_zero,gateV.und,dgateV.und, c32, c32_0, c32_1, hv, hl1, c32_3, hq, show ¬ ((2 : Int) = 0) by decide, c32_4, natOf_int (Int.natCast_nonneg (ls.length / 2)), Int.toNat_natCast, e1, e2]
      obtain ⟨l1, hl1⟩ : ∃ l1, l1 = ls.take (ls.length / 2) := ⟨_, rfl⟩
      obtain ⟨l2, hl2⟩ : ∃ l2, l2 = ls.drop (ls.length / 2) := ⟨_, rfl⟩
      have hls : ls = l1 ++ l2 := by rw [hl1, hl2, List.take_append_drop]
      have n1 : l1.length = ls.length / 2 := by rw [hl1, List.length_take]; omega
      have n2 : l2.length = ls.length - ls.length / 2 := by rw [hl2, List.length_drop]
      have n12 : ls.length = l1.length + l2.length := by omega
      have p1 : 1 ≤ l1.length := by omega
      have p2 : 1 ≤ l2.length := by omega
      have sq := sq_add l1.length l2.length p1 p2
      rw [← n12] at sq
      rw [← hl1] at r1
      rw [← hl2] at r2
      have hcast : ∀ a b c : Nat, a + b + c ≤ ls.length * ls.length → ((a : Int) + b + c ≤ ((ls.length * ls.length : Nat) : Int)) := fun a b c h => by exact_mod_cast h
      refine dcallV.of (count_ok ho k l1 u1 h next L full (by omega) p1 (by omega) w r1 ap1 s1 hn (by omega) hL) fun a h1 hv1 => ?_
      obtain ⟨L1, next1, full1, q1⟩ := hv1
      have ht1 := q1.nle
      have ht2 := q1.nlt
      simp only [At.skip,At.reg,At.regDu,At.seq,At.cond,At.block,At.exit,At.ret,On.nil,On.seq,On.seqE,On.seqR,On.out,On.outR,On.outE,condV.t,condV.f,Ops.nil,Ops.op,Ops.call,opV.mk,Ops.gate,gateV.tt,gateV.ff,gateV.tf,gateV.ft,gateV.un,Dps.nil,Dps.newSl,Dps.op,Dps.call,Dps.gate,dopV.mk,dopV.new,dgateV.tt,dgateV.ff,dgateV.tf,dgateV.ft,dgateV.un,I.isLoad,resQ.r,resQ.n,stepQ.n,stepQ.e,stepQ.r,set_some,set_none,of_nil,of_cons,rho_tmp,rho_const,rho_func,g_put,g_nil,evI,Ae.bin,binI,Ae.un,nilEq,lenOf,if_true,if_false,Nat.reduceEqDiff,Nat.reduceAdd,Nat.zero_add,reduceIte,List.map_cons,List.map_nil,Option.map_some,Option.bind_some,evRs,evR,one,Option.some.injEq,exists_eq_left',exists_eq_left,List.all_nil,reduceCtorEq,true_and,and_true,parts',fill_int,fill_bool,fill_slice,fill_ptr,fill_nil,reps_one,List.replicate,List.length_cons,List.length_nil,Nat.reduceLeDiff,List.set_cons_zero,List.set_cons_succ,List.length_set,List.length_replicate,adr,Nat.mul_one,decide_true,decide_false,Int.reduceBEq,Int.reduceBNe,Int.reduceLT,Int.reduceLE,Int.reduceNeg,beq_self_eq_true,bne_self_eq_false,Bool.not_true,Bool.not_false,cast_zero,cast_one,List.size_toArray,List.getElem?_toArray,List.getElem?_cons_zero,List.getElem?_cons_succ,H_eta,isTuple,cells_int,cells_bool,cells_slice,cells_ptr,cells_agg,put_one,dopX.f,dopX.t,kept_zero,Nat.add_zero,ge_iff_le,gt_iff_lt,Ops.callvV,callvV.mk,List.nil_append,List.cons_append,List.append_nil,List.toList_toArray,Option.map_none,optNat_n,optNat_s,H.up_zero,gateV.und,dgateV.und]
      refine dcallV.of (count_ok ho k l2 u2 h1 next1 L1 full1 (by omega) p2 (by omega) q1.wk (Rd.kx r2 ap2 q1.kx) (ap2.kx q1.kx) s2 (by omega) (by omega) q1.len) fun b h2 hv2 => ?_
      obtain ⟨L2, next2, full2, q2⟩ := hv2
      have ht3 := q2.nle
      have ht4 := q2.nlt
      have hl3 := q1.le
      have hl4 := q1.lenk
      have hl5 := q2.le
      have hl6 := q2.lenk
      obtain ⟨lv2, hp2, _, _, _⟩ := q2.wk.open
      have hbig : full2 = true → full = true ∨ Big ls.length next L.length := fun e => by
        rcases q2.big e with e | hb
        · rcases q1.big e with e | hb
          · exact .inl e
          · exact .inr (big_mono hb (by omega) (by omega))
        · exact .inr (big_mono hb (by omega) (by omega))
      cases full2
      · obtain ⟨hf1, b', C2, cn2, rfl, rb, pb⟩ := q2.no rfl
        obtain ⟨hf0, a', C1, cn1, rfl, ra, pa⟩ := q1.no hf1
        have o1 := cn1.outs
        have o2 := cn2.outs
        simp only [At.skip,At.reg,At.regDu,At.seq,At.cond,At.block,At.exit,At.ret,On.nil,On.seq,On.seqE,On.seqR,On.out,On.outR,On.outE,condV.t,condV.f,Ops.nil,Ops.op,Ops.call,opV.mk,Ops.gate,gateV.tt,gateV.ff,gateV.tf,gateV.ft,gateV.un,Dps.nil,Dps.newSl,Dps.op,Dps.call,Dps.gate,dopV.mk,dopV.new,dgateV.tt,dgateV.ff,dgateV.tf,dgateV.ft,dgateV.un,I.isLoad,resQ.r,resQ.n,stepQ.n,stepQ.e,stepQ.r,set_some,set_none,of_nil,of_cons,rho_tmp,rho_const,rho_func,g_put,g_nil,evI,Ae.bin,binI,Ae.un,nilEq,lenOf,if_true,if_false,Nat.reduceEqDiff,Nat.reduceAdd,Nat.zero_add,reduceIte,List.map_cons,List.map_nil,Option.map_some,Option.bind_some,evRs,evR,one,Option.some.injEq,exists_eq_left',exists_eq_left,List.all_nil,reduceCtorEq,true_and,and_true,parts',fill_int,fill_bool,fill_slice,fill_ptr,fill_nil,reps_one,List.replicate,List.length_cons,List.length_nil,Nat.reduceLeDiff,List.set_cons_zero,List.set_cons_succ,List.length_set,List.length_replicate,adr,Nat.mul_one,decide_true,decide_false,Int.reduceBEq,Int.reduceBNe,Int.reduceLT,Int.reduceLE,Int.reduceNeg,beq_self_eq_true,bne_self_eq_false,Bool.not_true,Bool.not_false,cast_zero,cast_one,List.size_toArray,List.getElem?_toArray,List.getElem?_cons_zero,List.getElem?_cons_succ,H_eta,isTuple,cells_int,cells_bool,cells_slice,cells_ptr,cells_agg,put_one,dopX.f,dopX.t,kept_zero,Nat.add_zero,ge_iff_le,gt_iff_lt,Ops.callvV,callvV.mk,List.nil_append,List.cons_append,List.append_nil,List.toList_toArray,Option.map_none,optNat_n,optNat_s,H.up_zero,gateV.und,dgateV.und, c32_5, ld_blk hp2, c32_7]
        refine callV.of (join_ok q2.wk (Rd.kx ra pa q2.kx) rb (pa.kx q2.kx) pb (by omega) (by omega) ho (by omega) (by omega) q2.len) fun v h3 hv3 => ?_
        obtain ⟨k3, w3, r3⟩ := hv3 _ _ rfl rfl
        have jr := join_room l1.length l2.length a'.length b'.length p1 p2 o1 o2
        rw [← n12] at jr
        generalize hm : min (a'.length + b'.length) outs.toNat = m at k3 w3 r3
        have jl := joinC_le a' b' (outL next2 m)
        have al := addAll_lens (joinC a' b' (outL next2 m)) (L ++ C1 ++ C2, decide (4194305 < next2 + m))
        simp only at al
        generalize hS : addAll (L ++ C1 ++ C2, decide (4194305 < next2 + m)) (joinC a' b' (outL next2 m)) = S at w3 r3 al
        simp only [At.skip,At.reg,At.regDu,At.seq,At.cond,At.block,At.exit,At.ret,On.nil,On.seq,On.seqE,On.seqR,On.out,On.outR,On.outE,condV.t,condV.f,Ops.nil,Ops.op,Ops.call,opV.mk,Ops.gate,gateV.tt,gateV.ff,gateV.tf,gateV.ft,gateV.un,Dps.nil,Dps.newSl,Dps.op,Dps.call,Dps.gate,dopV.mk,dopV.new,dgateV.tt,dgateV.ff,dgateV.tf,dgateV.ft,dgateV.un,I.isLoad,resQ.r,resQ.n,stepQ.n,stepQ.e,stepQ.r,set_some,set_none,of_nil,of_cons,rho_tmp,rho_const,rho_func,g_put,g_nil,evI,Ae.bin,binI,Ae.un,nilEq,lenOf,if_true,if_false,Nat.reduceEqDiff,Nat.reduceAdd,Nat.zero_add,reduceIte,List.map_cons,List.map_nil,Option.map_some,Option.bind_some,evRs,evR,one,Option.some.injEq,exists_eq_left',exists_eq_left,List.all_nil,reduceCtorEq,true_and,and_true,parts',fill_int,fill_bool,fill_slice,fill_ptr,fill_nil,reps_one,List.replicate,List.length_cons,List.length_nil,Nat.reduceLeDiff,List.set_cons_zero,List.set_cons_succ,List.length_set,List.length_replicate,adr,Nat.mul_one,decide_true,decide_false,Int.reduceBEq,Int.reduceBNe,Int.reduceLT,Int.reduceLE,Int.reduceNeg,beq_self_eq_true,bne_self_eq_false,Bool.not_true,Bool.not_false,cast_zero,cast_one,List.size_toArray,List.getElem?_toArray,List.getElem?_cons_zero,List.getElem?_cons_succ,H_eta,isTuple,cells_int,cells_bool,cells_slice,cells_ptr,cells_agg,put_one,dopX.f,dopX.t,kept_zero,Nat.add_zero,ge_iff_le,gt_iff_lt,Ops.callvV,callvV.mk,List.nil_append,List.cons_append,List.append_nil,List.toList_toArray,Option.map_none,optNat_n,optNat_s,H.up_zero,gateV.und,dgateV.und]
        refine ⟨S.1, next2 + m, S.2, (q1.kx.trans q2.kx).trans k3, w3, by rw [← hS]; exact addAll_le q2.len, by omega, by omega, by omega, by omega, fun e => ⟨hf0, ?_⟩, fun e => .inr ?_⟩
        · obtain ⟨r4, p4⟩ := r3 e
          have hd : decide (4194305 < next2 + (m : Int)) = false := by
            cases hd : decide (4194305 < next2 + (m : Int))
            · rfl
            · rw [hd, addAll_full _ rfl] at hS; rw [← hS] at e; cases e
          rw [hd] at hS
          have := addAll_some (joinC a' b' (outL next2 m)) (L ++ C1 ++ C2) q2.len (by rw [hS]; exact e)
          rw [hS] at this
          refine ⟨outL next2 m, C1 ++ C2 ++ joinC a' b' (outL next2 m), ?_, by rw [this]; simp only [List.append_assoc], r4, p4⟩
          rw [hls, ← hm]
          exact .two (fun e => by rw [e] at p1; simp at p1) (fun e => by rw [e] at p2; simp at p2) cn1 cn2
        · by_cases hd : 4194305 < next2 + (m : Int)
          · left; omega
          · right
            rw [decide_eq_false hd] at hS
            have : ¬ (L ++ C1 ++ C2).length + (joinC a' b' (outL next2 m)).length ≤ 1048576 := fun hle => by
              rw [addAll_room _ _ hle] at hS
              rw [← hS] at e; cases e
            omega
      · simp only [At.skip,At.reg,At.regDu,At.seq,At.cond,At.block,At.exit,At.ret,On.nil,On.seq,On.seqE,On.seqR,On.out,On.outR,On.outE,condV.t,condV.f,Ops.nil,Ops.op,Ops.call,opV.mk,Ops.gate,gateV.tt,gateV.ff,gateV.tf,gateV.ft,gateV.un,Dps.nil,Dps.newSl,Dps.op,Dps.call,Dps.gate,dopV.mk,dopV.new,dgateV.tt,dgateV.ff,dgateV.tf,dgateV.ft,dgateV.un,I.isLoad,resQ.r,resQ.n,stepQ.n,stepQ.e,stepQ.r,set_some,set_none,of_nil,of_cons,rho_tmp,rho_const,rho_func,g_put,g_nil,evI,Ae.bin,binI,Ae.un,nilEq,lenOf,if_true,if_false,Nat.reduceEqDiff,Nat.reduceAdd,Nat.zero_add,reduceIte,List.map_cons,List.map_nil,Option.map_some,Option.bind_some,evRs,evR,one,Option.some.injEq,exists_eq_left',exists_eq_left,List.all_nil,reduceCtorEq,true_and,and_true,parts',fill_int,fill_bool,fill_slice,fill_ptr,fill_nil,reps_one,List.replicate,List.length_cons,List.length_nil,Nat.reduceLeDiff,List.set_cons_zero,List.set_cons_succ,List.length_set,List.length_replicate,adr,Nat.mul_one,decide_true,decide_false,Int.reduceBEq,Int.reduceBNe,Int.reduceLT,Int.reduceLE,Int.reduceNeg,beq_self_eq_true,bne_self_eq_false,Bool.not_true,Bool.not_false,cast_zero,cast_one,List.size_toArray,List.getElem?_toArray,List.getElem?_cons_zero,List.getElem?_cons_succ,H_eta,isTuple,cells_int,cells_bool,cells_slice,cells_ptr,cells_agg,put_one,dopX.f,dopX.t,kept_zero,Nat.add_zero,ge_iff_le,gt_iff_lt,Ops.callvV,callvV.mk,List.nil_append,List.cons_append,List.append_nil,List.toList_toArray,Option.map_none,optNat_n,optNat_s,H.up_zero,gateV.und,dgateV.und, c32_5, ld_blk hp2, c32_6]
        exact ⟨L2, next2, true, q1.kx.trans q2.kx, q2.wk, q2.len, by omega, by omega, by omega, by omega, fun e => (by cases e), fun _ => hbig rfl⟩
end Go.Proofs.Ytnejnaoehcahbaa
