/-
  Bump and Fade.
-/
import Derived.Test.YtnejnaoehcahbaaAeInv
import Derived.Test.YtnejnaoehcahbaaQ4
namespace Go.Proofs.Ytnejnaoehcahbaa.q
open Go Go.Ae
set_option linter.unusedSimpArgs false

/-- A queue as it is between two acts. -/
structure Qi (b : Blks) (h : H) (q : QS) : Prop where
  o : Ok b h q
  hp : Hp q.sc q.l q.L.length 0
  sb : ∀ x ∈ q.S, 0 ≤ x ∧ x ≤ 281474976710656
  st : 1 ≤ q.step ∧ q.step ≤ 281474976710656

/-- What an act on scores leaves: the scores, the step, and who waits. -/
structure Upd (q : QS) (S : List Int) (step : Int) (q' : QS) : Prop where
  ll : q'.L.length = q.L.length
  j : q'.J = q.J
  pl : q'.P.length = q.P.length
  s : q'.S = S
  st : q'.step = step
  wt : ∀ v : Int, 1 ≤ v → v < q.P.length → (0 ≤ q'.pi v ↔ 0 ≤ q.pi v)

theorem dv_le {x : Int} (h : 0 ≤ x ∧ x ≤ 600000000000000) : 0 ≤ dv x ∧ dv x ≤ 281474976710656 := by unfold dv; omega

theorem divided {b : Blks} {h' : H} {q0 q q' : QS} (u : Upd q0 q.S q.step q) (o' : Ok b h' q') (s' : Same q.div q') (hp' : Hp q.div.sc q'.l q.L.length 0) (hb : ∀ x ∈ q.S, 0 ≤ x ∧ x ≤ 600000000000000) (hst : 0 ≤ q.step ∧ q.step ≤ 600000000000000) :
    Qi b h' q' ∧ Upd q0 (q.S.map dv) (max (dv q.step) 1) q' := by
  have e1 : q'.S = q.S.map dv := s'.s
  have e2 : q'.step = max (dv q.step) 1 := s'.st
  have e3 : q'.L.length = q.L.length := s'.ll
  refine ⟨⟨o', ?_, fun x hx => ?_, ?_⟩, ⟨e3.trans u.ll, s'.j.trans u.j, s'.pl.trans u.pl, e1, e2, fun v h1 h2 => ?_⟩⟩
  · rw [s'.sc, e3]; exact hp'
  · rw [e1] at hx
    obtain ⟨y, hy, rfl⟩ := List.mem_map.1 hx
    exact dv_le (hb y hy)
  · rw [e2]
    have := dv_le hst
    omega
  · exact (s'.wt v h1 (by show v < q.P.length; rw [u.pl]; exact h2)).trans (u.wt v h1 h2)

theorem sc_set {q : QS} {v a x : Int} (hv : 0 ≤ v) (hv2 : v < q.S.length) (ha : 0 ≤ a) : QS.sc { q with S := q.S.set v.toNat x } a = if a = v then x else q.sc a := by
  unfold QS.sc
  simp only
  by_cases hal : a.toNat < q.S.length
  · rw [getD_at (by simpa using hal), List.getElem_set]
    by_cases e : a = v
    · rw [if_pos (by rw [e]), if_pos e]
    · rw [if_neg (by omega), if_neg e, getD_at hal]
  · rw [if_neg (by omega)]
    simp [List.getD_eq_getElem?_getD, show q.S.length ≤ a.toNat by omega]

theorem sc_mem {q : QS} {v : Int} (h : v.toNat < q.S.length) : q.sc v ∈ q.S := by
  unfold QS.sc; rw [getD_at h]; exact List.getElem_mem h

set_option maxHeartbeats 8000000 in
theorem bump_ok {b : Blks} {h : H} {q : QS} {v : Int} (k : Qi b h q) (h1 : 1 ≤ v) (h2 : v < q.S.length) :
    AF E 23 [wv b, int v] h fun e h' => e = int 0 ∧ ∃ q', Qi b h' q' ∧ Fq b h h' ∧ h'.next = h.next ∧
      Upd q (if 281474976710656 < q.sc v + q.step then (q.S.set v.toNat (q.sc v + q.step)).map dv else q.S.set v.toNat (q.sc v + q.step)) (if 281474976710656 < q.sc v + q.step then max (dv q.step) 1 else q.step) q' := by
  suffices key : ∀ Q : Value → H → Prop, (∀ h' q', Qi b h' q' → Fq b h h' → h'.next = h.next →
      Upd q (if 281474976710656 < q.sc v + q.step then (q.S.set v.toNat (q.sc v + q.step)).map dv else q.S.set v.toNat (q.sc v + q.step)) (if 281474976710656 < q.sc v + q.step then max (dv q.step) 1 else q.step) q' → Q (int 0) h') → AF E 23 [wv b, int v] h Q from
    key _ fun h' q' a1 a2 a3 a4 => ⟨rfl, q', a1, a2, a3, a4⟩
  intro Q hq
  refine AF.walk (E_fn comp23) (E_spec (by decide) _ _) ?_
  have o := k.o
  have hst := k.st
  have hsz := o.i.sz
  have hps := o.i.ps
  have nv := natOf_int (k := .i64) (show 0 ≤ v by omega)
  have pv : v.toNat < q.P.length := by omega
  have sv : v.toNat < q.S.length := by omega
  have hm := k.sb _ (sc_mem (q := q) sv)
  have e1 : q.S.getD v.toNat 0 = q.sc v := rfl
  have w1 : IntKind.u64.wrap (q.sc v + q.step) = q.sc v + q.step := IntWalk.u64_in _ (by omega)
  obtain ⟨q1, hq1⟩ : ∃ q1 : QS, q1 = { q with S := q.S.set v.toNat (q.sc v + q.step) } := ⟨_, rfl⟩
  obtain ⟨s1, s2, s3⟩ := o.r.setS sv (q.sc v + q.step)
  rw [← hq1] at s2
  generalize hh1 : h.set b.bs (some ⟨u64s (q.S.set v.toNat (q.sc v + q.step)), false⟩) = h1' at s1 s2 s3
  have n1 : h1'.next = h.next := by rw [← hh1]; rfl
  have o1 : Ok b h1' q1 := ⟨s2, by rw [hq1]; exact o.i.setS (by simp) _, by rw [hq1]; exact o.p.setS _ _⟩
  have hsc : ∀ a, 0 ≤ a → q1.sc a = if a = v then q.sc v + q.step else q.sc a := fun a ha => by rw [hq1]; exact sc_set (by omega) h2 ha
  have hL : q1.L = q.L := by rw [hq1]
  have hl1 : q1.l = q.l := by funext m; unfold QS.l; rw [hL]
  have hpi1 : q1.pi = q.pi := by funext m; unfold QS.pi; rw [hq1]
  have hS1 : q1.S = q.S.set v.toNat (q.sc v + q.step) := by rw [hq1]
  have hst1 : q1.step = q.step := by rw [hq1]
  have hP1 : q1.P = q.P := by rw [hq1]
  have hsl1 : v.toNat < q1.S.length := by rw [hS1]; simpa using sv
  have hb1 : ∀ x ∈ q1.S, 0 ≤ x ∧ x ≤ 600000000000000 := fun x hx => by
    rw [hS1] at hx
    rcases List.mem_or_eq_of_mem_set hx with hx | rfl
    · have := k.sb x hx; omega
    · omega
  have hpp1 : v.toNat < q1.P.length := by rw [hP1]; exact pv
  have epi : q1.P.getD v.toNat 0 = q.pi v := by rw [hP1]; rfl
  simp only [At.skip,At.reg,At.regDu,At.seq,At.cond,At.block,At.exit,At.ret,On.nil,On.seq,On.seqE,On.seqR,On.out,On.outR,On.outE,condV.t,condV.f,Ops.nil,Ops.op,Ops.call,opV.mk,Ops.gate,gateV.tt,gateV.ff,gateV.tf,gateV.ft,gateV.un,Dps.nil,Dps.newSl,Dps.op,Dps.call,Dps.gate,dopV.mk,dopV.new,dgateV.tt,dgateV.ff,dgateV.tf,dgateV.ft,dgateV.un,Go.Ae.I.isLoad,resQ.r,resQ.n,stepQ.n,stepQ.e,stepQ.r,set_some,set_none,of_nil,of_cons,rho_tmp,rho_const,rho_func,g_put,g_nil,evI,Ae.bin,binI,Ae.un,nilEq,lenOf,if_true,if_false,Nat.reduceEqDiff,Nat.reduceAdd,Nat.zero_add,reduceIte,List.map_cons,List.map_nil,Option.map_some,Option.bind_some,evRs,evR,one,Option.some.injEq,exists_eq_left',exists_eq_left,List.all_nil,reduceCtorEq,true_and,and_true,parts',fill_int,fill_bool,fill_slice,fill_ptr,fill_nil,reps_one,List.replicate,List.length_cons,List.length_nil,Nat.reduceLeDiff,List.set_cons_zero,List.set_cons_succ,List.length_set,List.length_replicate,adr,Nat.mul_one,decide_true,decide_false,Int.reduceBEq,Int.reduceBNe,Int.reduceLT,Int.reduceLE,Int.reduceNeg,beq_self_eq_true,bne_self_eq_false,Bool.not_true,Bool.not_false,cast_zero,cast_one,List.size_toArray,List.getElem?_toArray,List.getElem?_cons_zero,List.getElem?_cons_succ,H_eta,isTuple,cells_int,cells_bool,cells_slice,cells_ptr,cells_agg,put_one,dopX.f,dopX.t,kept_zero,Nat.add_zero,ge_iff_le,gt_iff_lt,Ops.callvV,callvV.mk,List.nil_append,List.cons_append,List.append_nil,List.toList_toArray,Option.map_none,optNat_n,optNat_s,H.up_zero,gateV.und,dgateV.und,Dps.callvV,dcallvV.mk,Ops.invV,invV.mk,findV.mk, c23, c23_0, c23_1]
  refine callV.of (asked_ok o.r (by omega)) fun e h' hv => ?_
  obtain ⟨rfl, eh⟩ := hv
  replace eh := eh.symm
  subst eh
  rw [if_pos ⟨h1, h2⟩]
  simp only [At.skip,At.reg,At.regDu,At.seq,At.cond,At.block,At.exit,At.ret,On.nil,On.seq,On.seqE,On.seqR,On.out,On.outR,On.outE,condV.t,condV.f,Ops.nil,Ops.op,Ops.call,opV.mk,Ops.gate,gateV.tt,gateV.ff,gateV.tf,gateV.ft,gateV.un,Dps.nil,Dps.newSl,Dps.op,Dps.call,Dps.gate,dopV.mk,dopV.new,dgateV.tt,dgateV.ff,dgateV.tf,dgateV.ft,dgateV.un,Go.Ae.I.isLoad,resQ.r,resQ.n,stepQ.n,stepQ.e,stepQ.r,set_some,set_none,of_nil,of_cons,rho_tmp,rho_const,rho_func,g_put,g_nil,evI,Ae.bin,binI,Ae.un,nilEq,lenOf,if_true,if_false,Nat.reduceEqDiff,Nat.reduceAdd,Nat.zero_add,reduceIte,List.map_cons,List.map_nil,Option.map_some,Option.bind_some,evRs,evR,one,Option.some.injEq,exists_eq_left',exists_eq_left,List.all_nil,reduceCtorEq,true_and,and_true,parts',fill_int,fill_bool,fill_slice,fill_ptr,fill_nil,reps_one,List.replicate,List.length_cons,List.length_nil,Nat.reduceLeDiff,List.set_cons_zero,List.set_cons_succ,List.length_set,List.length_replicate,adr,Nat.mul_one,decide_true,decide_false,Int.reduceBEq,Int.reduceBNe,Int.reduceLT,Int.reduceLE,Int.reduceNeg,beq_self_eq_true,bne_self_eq_false,Bool.not_true,Bool.not_false,cast_zero,cast_one,List.size_toArray,List.getElem?_toArray,List.getElem?_cons_zero,List.getElem?_cons_succ,H_eta,isTuple,cells_int,cells_bool,cells_slice,cells_ptr,cells_agg,put_one,dopX.f,dopX.t,kept_zero,Nat.add_zero,ge_iff_le,gt_iff_lt,Ops.callvV,callvV.mk,List.nil_append,List.cons_append,List.append_nil,List.toList_toArray,Option.map_none,optNat_n,optNat_s,H.up_zero,gateV.und,dgateV.und,Dps.callvV,dcallvV.mk,Ops.invV,invV.mk,findV.mk, c23_2, c23_4, ld_blk o.r.gp, nv, sv, o.r.lds sv, e1, w1, s1, c23_5, ld_blk o1.r.gp, hpp1, o1.r.ldp hpp1, epi]
  -- the end, whether Fix was called or not
  have rest : ∀ (T : Tm) (h2' : H) (q2 : QS), Ok b h2' q2 → Fq b h h2' → h2'.next = h.next → Same q1 q2 → Hp q1.sc q2.l q.L.length 0 → g T 0 = wv b → g T 1 = int v → g T 4 = int 0 →
      At E c23_7 T h2' [.seq (.cond (.tmp 56) c23_8 .skip), .seq (.seq c23_9 .ret)] (resQ [.tmp 4] Q) := by
    intro T h2' q2 o2 f2 n2 ss hp g0 g1 g4
    have hsl2 : v.toNat < q2.S.length := by rw [ss.s]; exact hsl1
    have e2 : q2.S.getD v.toNat 0 = q.sc v + q.step := by
      have := hsc v (by omega)
      rw [if_pos rfl] at this
      rw [ss.s]; exact this
    have ll2 : q2.L.length = q.L.length := by rw [ss.ll, hL]
    have up : Upd q q2.S q2.step q2 := ⟨ll2, by rw [ss.j, hq1], by rw [ss.pl, hP1], rfl, rfl, fun a a1 a2 => by rw [← hpi1]; exact ss.wt a a1 (by rw [hP1]; exact a2)⟩
    have sS : q2.S = q.S.set v.toNat (q.sc v + q.step) := ss.s.trans hS1
    have sT : q2.step = q.step := ss.st.trans hst1
    simp only [At.skip,At.reg,At.regDu,At.seq,At.cond,At.block,At.exit,At.ret,On.nil,On.seq,On.seqE,On.seqR,On.out,On.outR,On.outE,condV.t,condV.f,Ops.nil,Ops.op,Ops.call,opV.mk,Ops.gate,gateV.tt,gateV.ff,gateV.tf,gateV.ft,gateV.un,Dps.nil,Dps.newSl,Dps.op,Dps.call,Dps.gate,dopV.mk,dopV.new,dgateV.tt,dgateV.ff,dgateV.tf,dgateV.ft,dgateV.un,Go.Ae.I.isLoad,resQ.r,resQ.n,stepQ.n,stepQ.e,stepQ.r,set_some,set_none,of_nil,of_cons,rho_tmp,rho_const,rho_func,g_put,g_nil,evI,Ae.bin,binI,Ae.un,nilEq,lenOf,if_true,if_false,Nat.reduceEqDiff,Nat.reduceAdd,Nat.zero_add,reduceIte,List.map_cons,List.map_nil,Option.map_some,Option.bind_some,evRs,evR,one,Option.some.injEq,exists_eq_left',exists_eq_left,List.all_nil,reduceCtorEq,true_and,and_true,parts',fill_int,fill_bool,fill_slice,fill_ptr,fill_nil,reps_one,List.replicate,List.length_cons,List.length_nil,Nat.reduceLeDiff,List.set_cons_zero,List.set_cons_succ,List.length_set,List.length_replicate,adr,Nat.mul_one,decide_true,decide_false,Int.reduceBEq,Int.reduceBNe,Int.reduceLT,Int.reduceLE,Int.reduceNeg,beq_self_eq_true,bne_self_eq_false,Bool.not_true,Bool.not_false,cast_zero,cast_one,List.size_toArray,List.getElem?_toArray,List.getElem?_cons_zero,List.getElem?_cons_succ,H_eta,isTuple,cells_int,cells_bool,cells_slice,cells_ptr,cells_agg,put_one,dopX.f,dopX.t,kept_zero,Nat.add_zero,ge_iff_le,gt_iff_lt,Ops.callvV,callvV.mk,List.nil_append,List.cons_append,List.append_nil,List.toList_toArray,Option.map_none,optNat_n,optNat_s,H.up_zero,gateV.und,dgateV.und,Dps.callvV,dcallvV.mk,Ops.invV,invV.mk,findV.mk, c23_7, g0, g1, ld_blk o2.r.gp, nv, hsl2, o2.r.lds hsl2, e2]
    by_cases hbig : 281474976710656 < q.sc v + q.step
    · simp only [At.skip,At.reg,At.regDu,At.seq,At.cond,At.block,At.exit,At.ret,On.nil,On.seq,On.seqE,On.seqR,On.out,On.outR,On.outE,condV.t,condV.f,Ops.nil,Ops.op,Ops.call,opV.mk,Ops.gate,gateV.tt,gateV.ff,gateV.tf,gateV.ft,gateV.un,Dps.nil,Dps.newSl,Dps.op,Dps.call,Dps.gate,dopV.mk,dopV.new,dgateV.tt,dgateV.ff,dgateV.tf,dgateV.ft,dgateV.un,Go.Ae.I.isLoad,resQ.r,resQ.n,stepQ.n,stepQ.e,stepQ.r,set_some,set_none,of_nil,of_cons,rho_tmp,rho_const,rho_func,g_put,g_nil,evI,Ae.bin,binI,Ae.un,nilEq,lenOf,if_true,if_false,Nat.reduceEqDiff,Nat.reduceAdd,Nat.zero_add,reduceIte,List.map_cons,List.map_nil,Option.map_some,Option.bind_some,evRs,evR,one,Option.some.injEq,exists_eq_left',exists_eq_left,List.all_nil,reduceCtorEq,true_and,and_true,parts',fill_int,fill_bool,fill_slice,fill_ptr,fill_nil,reps_one,List.replicate,List.length_cons,List.length_nil,Nat.reduceLeDiff,List.set_cons_zero,List.set_cons_succ,List.length_set,List.length_replicate,adr,Nat.mul_one,decide_true,decide_false,Int.reduceBEq,Int.reduceBNe,Int.reduceLT,Int.reduceLE,Int.reduceNeg,beq_self_eq_true,bne_self_eq_false,Bool.not_true,Bool.not_false,cast_zero,cast_one,List.size_toArray,List.getElem?_toArray,List.getElem?_cons_zero,List.getElem?_cons_succ,H_eta,isTuple,cells_int,cells_bool,cells_slice,cells_ptr,cells_agg,put_one,dopX.f,dopX.t,kept_zero,Nat.add_zero,ge_iff_le,gt_iff_lt,Ops.callvV,callvV.mk,List.nil_append,List.cons_append,List.append_nil,List.toList_toArray,Option.map_none,optNat_n,optNat_s,H.up_zero,gateV.und,dgateV.und,Dps.callvV,dcallvV.mk,Ops.invV,invV.mk,findV.mk, hbig, c23_8, g0]
      refine callV.of (divide_ok o2) fun e h3' hv => ?_
      obtain ⟨q3, o3, f3, n3, s3', hp3⟩ := hv
      obtain ⟨a1, a2⟩ := divided up o3 s3' hp3 (by rw [ss.s]; exact hb1) (by omega)
      simp only [At.skip,At.reg,At.regDu,At.seq,At.cond,At.block,At.exit,At.ret,On.nil,On.seq,On.seqE,On.seqR,On.out,On.outR,On.outE,condV.t,condV.f,Ops.nil,Ops.op,Ops.call,opV.mk,Ops.gate,gateV.tt,gateV.ff,gateV.tf,gateV.ft,gateV.un,Dps.nil,Dps.newSl,Dps.op,Dps.call,Dps.gate,dopV.mk,dopV.new,dgateV.tt,dgateV.ff,dgateV.tf,dgateV.ft,dgateV.un,Go.Ae.I.isLoad,resQ.r,resQ.n,stepQ.n,stepQ.e,stepQ.r,set_some,set_none,of_nil,of_cons,rho_tmp,rho_const,rho_func,g_put,g_nil,evI,Ae.bin,binI,Ae.un,nilEq,lenOf,if_true,if_false,Nat.reduceEqDiff,Nat.reduceAdd,Nat.zero_add,reduceIte,List.map_cons,List.map_nil,Option.map_some,Option.bind_some,evRs,evR,one,Option.some.injEq,exists_eq_left',exists_eq_left,List.all_nil,reduceCtorEq,true_and,and_true,parts',fill_int,fill_bool,fill_slice,fill_ptr,fill_nil,reps_one,List.replicate,List.length_cons,List.length_nil,Nat.reduceLeDiff,List.set_cons_zero,List.set_cons_succ,List.length_set,List.length_replicate,adr,Nat.mul_one,decide_true,decide_false,Int.reduceBEq,Int.reduceBNe,Int.reduceLT,Int.reduceLE,Int.reduceNeg,beq_self_eq_true,bne_self_eq_false,Bool.not_true,Bool.not_false,cast_zero,cast_one,List.size_toArray,List.getElem?_toArray,List.getElem?_cons_zero,List.getElem?_cons_succ,H_eta,isTuple,cells_int,cells_bool,cells_slice,cells_ptr,cells_agg,put_one,dopX.f,dopX.t,kept_zero,Nat.add_zero,ge_iff_le,gt_iff_lt,Ops.callvV,callvV.mk,List.nil_append,List.cons_append,List.append_nil,List.toList_toArray,Option.map_none,optNat_n,optNat_s,H.up_zero,gateV.und,dgateV.und,Dps.callvV,dcallvV.mk,Ops.invV,invV.mk,findV.mk, c23_9]
      refine hq h3' q3 a1 (f2.trans f3) (n3.trans n2) ?_
      rw [if_pos hbig, if_pos hbig, ← sS, ← sT]
      exact a2
    · simp only [At.skip,At.reg,At.regDu,At.seq,At.cond,At.block,At.exit,At.ret,On.nil,On.seq,On.seqE,On.seqR,On.out,On.outR,On.outE,condV.t,condV.f,Ops.nil,Ops.op,Ops.call,opV.mk,Ops.gate,gateV.tt,gateV.ff,gateV.tf,gateV.ft,gateV.un,Dps.nil,Dps.newSl,Dps.op,Dps.call,Dps.gate,dopV.mk,dopV.new,dgateV.tt,dgateV.ff,dgateV.tf,dgateV.ft,dgateV.un,Go.Ae.I.isLoad,resQ.r,resQ.n,stepQ.n,stepQ.e,stepQ.r,set_some,set_none,of_nil,of_cons,rho_tmp,rho_const,rho_func,g_put,g_nil,evI,Ae.bin,binI,Ae.un,nilEq,lenOf,if_true,if_false,Nat.reduceEqDiff,Nat.reduceAdd,Nat.zero_add,reduceIte,List.map_cons,List.map_nil,Option.map_some,Option.bind_some,evRs,evR,one,Option.some.injEq,exists_eq_left',exists_eq_left,List.all_nil,reduceCtorEq,true_and,and_true,parts',fill_int,fill_bool,fill_slice,fill_ptr,fill_nil,reps_one,List.replicate,List.length_cons,List.length_nil,Nat.reduceLeDiff,List.set_cons_zero,List.set_cons_succ,List.length_set,List.length_replicate,adr,Nat.mul_one,decide_true,decide_false,Int.reduceBEq,Int.reduceBNe,Int.reduceLT,Int.reduceLE,Int.reduceNeg,beq_self_eq_true,bne_self_eq_false,Bool.not_true,Bool.not_false,cast_zero,cast_one,List.size_toArray,List.getElem?_toArray,List.getElem?_cons_zero,List.getElem?_cons_succ,H_eta,isTuple,cells_int,cells_bool,cells_slice,cells_ptr,cells_agg,put_one,dopX.f,dopX.t,kept_zero,Nat.add_zero,ge_iff_le,gt_iff_lt,Ops.callvV,callvV.mk,List.nil_append,List.cons_append,List.append_nil,List.toList_toArray,Option.map_none,optNat_n,optNat_s,H.up_zero,gateV.und,dgateV.und,Dps.callvV,dcallvV.mk,Ops.invV,invV.mk,findV.mk, hbig, c23_9]
      refine hq h2' q2 ⟨o2, by rw [ss.sc, ll2]; exact hp, fun x hx => ?_, by omega⟩ f2 n2 ?_
      · rw [sS] at hx
        rcases List.mem_or_eq_of_mem_set hx with hx | rfl
        · exact k.sb x hx
        · omega
      · rw [if_neg hbig, if_neg hbig, ← sS, ← sT]
        exact up
  by_cases hw : 0 ≤ q.pi v
  · -- it waits: it may go up
    obtain ⟨hp1, hp2, hp3⟩ := (o.p.of v h1 (by omega)).resolve_left (by omega)
    obtain ⟨i, hi⟩ : ∃ i : Nat, q.pi v = i := ⟨(q.pi v).toNat, by omega⟩
    have hil : i < q.L.length := by omega
    have hli : q.l i = v := by rw [hi, Int.toNat_natCast] at hp3; exact hp3
    have hne : ∀ m, m < q.L.length → m ≠ i → q.l m ≠ v := fun m hm hmi e => by have := o.p.at_ m hm; rw [e, hi] at this; omega
    have hlp : ∀ m, m < q.L.length → 0 ≤ q.l m := fun m hm => by have := (o.i.l hm).1; omega
    have better : ∀ m, m < q.L.length → m ≠ i → le q.sc v (q.l m) → le q1.sc v (q.l m) := fun m hm hmi hle => by
      have a1 := hsc v (by omega)
      have a2 := hsc (q.l m) (hlp m hm)
      rw [if_pos rfl] at a1
      rw [if_neg (hne m hm hmi)] at a2
      unfold le lt at *
      omega
    have same : ∀ m n, m < q.L.length → n < q.L.length → m ≠ i → n ≠ i → le q.sc (q.l m) (q.l n) → le q1.sc (q.l m) (q.l n) := fun m n hm hn hmi hni hle => by
      have a1 := hsc (q.l m) (hlp m hm)
      have a2 := hsc (q.l n) (hlp n hn)
      rw [if_neg (hne m hm hmi)] at a1
      rw [if_neg (hne n hn hni)] at a2
      unfold le lt at *
      omega
    have kids : Kids q1 q1.L.length i := fun m hm hmn => by
      rw [hl1, hli]
      rw [hL] at hmn
      refine better m hmn (by omega) ?_
      have := k.hp m (by omega) hmn (Nat.zero_le _)
      rwa [show par m = i by unfold par; omega, hli] at this
    have gu : Gu q1.sc q1.l q1.L.length i := by
      rw [hl1, hL]
      refine ⟨fun m a1 a2 a3 => ?_, fun a0 m a1 a2 a3 => ?_⟩
      · by_cases e : par m = i
        · rw [e, hli]
          refine better m a2 a3 ?_
          have := k.hp m a1 a2 (Nat.zero_le _)
          rwa [e, hli] at this
        · exact same (par m) m (by unfold par; omega) a2 e a3 (k.hp m a1 a2 (Nat.zero_le _))
      · have b1 := k.hp i a0 hil (Nat.zero_le _)
        have b2 := k.hp m a1 a2 (Nat.zero_le _)
        rw [a3] at b2
        exact same (par i) m (by unfold par; omega) a2 (by unfold par; omega) (by unfold par at a3; omega) (le_trans b1 b2)
    have hw' : (0 : Int) ≤ (i : Int) := by omega
    simp only [At.skip,At.reg,At.regDu,At.seq,At.cond,At.block,At.exit,At.ret,On.nil,On.seq,On.seqE,On.seqR,On.out,On.outR,On.outE,condV.t,condV.f,Ops.nil,Ops.op,Ops.call,opV.mk,Ops.gate,gateV.tt,gateV.ff,gateV.tf,gateV.ft,gateV.un,Dps.nil,Dps.newSl,Dps.op,Dps.call,Dps.gate,dopV.mk,dopV.new,dgateV.tt,dgateV.ff,dgateV.tf,dgateV.ft,dgateV.un,Go.Ae.I.isLoad,resQ.r,resQ.n,stepQ.n,stepQ.e,stepQ.r,set_some,set_none,of_nil,of_cons,rho_tmp,rho_const,rho_func,g_put,g_nil,evI,Ae.bin,binI,Ae.un,nilEq,lenOf,if_true,if_false,Nat.reduceEqDiff,Nat.reduceAdd,Nat.zero_add,reduceIte,List.map_cons,List.map_nil,Option.map_some,Option.bind_some,evRs,evR,one,Option.some.injEq,exists_eq_left',exists_eq_left,List.all_nil,reduceCtorEq,true_and,and_true,parts',fill_int,fill_bool,fill_slice,fill_ptr,fill_nil,reps_one,List.replicate,List.length_cons,List.length_nil,Nat.reduceLeDiff,List.set_cons_zero,List.set_cons_succ,List.length_set,List.length_replicate,adr,Nat.mul_one,decide_true,decide_false,Int.reduceBEq,Int.reduceBNe,Int.reduceLT,Int.reduceLE,Int.reduceNeg,beq_self_eq_true,bne_self_eq_false,Bool.not_true,Bool.not_false,cast_zero,cast_one,List.size_toArray,List.getElem?_toArray,List.getElem?_cons_zero,List.getElem?_cons_succ,H_eta,isTuple,cells_int,cells_bool,cells_slice,cells_ptr,cells_agg,put_one,dopX.f,dopX.t,kept_zero,Nat.add_zero,ge_iff_le,gt_iff_lt,Ops.callvV,callvV.mk,List.nil_append,List.cons_append,List.append_nil,List.toList_toArray,Option.map_none,optNat_n,optNat_s,H.up_zero,gateV.und,dgateV.und,Dps.callvV,dcallvV.mk,Ops.invV,invV.mk,findV.mk, hi, hw', c23_6, ld_blk o1.r.gp, nv, hpp1, o1.r.ldp hpp1, epi]
    refine dcallV.of (fix_ok o1 (by rw [hL]; exact hil) kids gu) fun e h3 hv => ?_
    obtain ⟨q2, o2, f2, n2, ss, hp⟩ := hv
    simp only [At.skip,At.reg,At.regDu,At.seq,At.cond,At.block,At.exit,At.ret,On.nil,On.seq,On.seqE,On.seqR,On.out,On.outR,On.outE,condV.t,condV.f,Ops.nil,Ops.op,Ops.call,opV.mk,Ops.gate,gateV.tt,gateV.ff,gateV.tf,gateV.ft,gateV.un,Dps.nil,Dps.newSl,Dps.op,Dps.call,Dps.gate,dopV.mk,dopV.new,dgateV.tt,dgateV.ff,dgateV.tf,dgateV.ft,dgateV.un,Go.Ae.I.isLoad,resQ.r,resQ.n,stepQ.n,stepQ.e,stepQ.r,set_some,set_none,of_nil,of_cons,rho_tmp,rho_const,rho_func,g_put,g_nil,evI,Ae.bin,binI,Ae.un,nilEq,lenOf,if_true,if_false,Nat.reduceEqDiff,Nat.reduceAdd,Nat.zero_add,reduceIte,List.map_cons,List.map_nil,Option.map_some,Option.bind_some,evRs,evR,one,Option.some.injEq,exists_eq_left',exists_eq_left,List.all_nil,reduceCtorEq,true_and,and_true,parts',fill_int,fill_bool,fill_slice,fill_ptr,fill_nil,reps_one,List.replicate,List.length_cons,List.length_nil,Nat.reduceLeDiff,List.set_cons_zero,List.set_cons_succ,List.length_set,List.length_replicate,adr,Nat.mul_one,decide_true,decide_false,Int.reduceBEq,Int.reduceBNe,Int.reduceLT,Int.reduceLE,Int.reduceNeg,beq_self_eq_true,bne_self_eq_false,Bool.not_true,Bool.not_false,cast_zero,cast_one,List.size_toArray,List.getElem?_toArray,List.getElem?_cons_zero,List.getElem?_cons_succ,H_eta,isTuple,cells_int,cells_bool,cells_slice,cells_ptr,cells_agg,put_one,dopX.f,dopX.t,kept_zero,Nat.add_zero,ge_iff_le,gt_iff_lt,Ops.callvV,callvV.mk,List.nil_append,List.cons_append,List.append_nil,List.toList_toArray,Option.map_none,optNat_n,optNat_s,H.up_zero,gateV.und,dgateV.und,Dps.callvV,dcallvV.mk,Ops.invV,invV.mk,findV.mk]
    refine rest _ h3 q2 o2 (s3.trans f2) (n2.trans n1) ss (by rw [hL] at hp; exact hp) ?_ ?_ ?_
    all_goals simp only [At.skip,At.reg,At.regDu,At.seq,At.cond,At.block,At.exit,At.ret,On.nil,On.seq,On.seqE,On.seqR,On.out,On.outR,On.outE,condV.t,condV.f,Ops.nil,Ops.op,Ops.call,opV.mk,Ops.gate,gateV.tt,gateV.ff,gateV.tf,gateV.ft,gateV.un,Dps.nil,Dps.newSl,Dps.op,Dps.call,Dps.gate,dopV.mk,dopV.new,dgateV.tt,dgateV.ff,dgateV.tf,dgateV.ft,dgateV.un,Go.Ae.I.isLoad,resQ.r,resQ.n,stepQ.n,stepQ.e,stepQ.r,set_some,set_none,of_nil,of_cons,rho_tmp,rho_const,rho_func,g_put,g_nil,evI,Ae.bin,binI,Ae.un,nilEq,lenOf,if_true,if_false,Nat.reduceEqDiff,Nat.reduceAdd,Nat.zero_add,reduceIte,List.map_cons,List.map_nil,Option.map_some,Option.bind_some,evRs,evR,one,Option.some.injEq,exists_eq_left',exists_eq_left,List.all_nil,reduceCtorEq,true_and,and_true,parts',fill_int,fill_bool,fill_slice,fill_ptr,fill_nil,reps_one,List.replicate,List.length_cons,List.length_nil,Nat.reduceLeDiff,List.set_cons_zero,List.set_cons_succ,List.length_set,List.length_replicate,adr,Nat.mul_one,decide_true,decide_false,Int.reduceBEq,Int.reduceBNe,Int.reduceLT,Int.reduceLE,Int.reduceNeg,beq_self_eq_true,bne_self_eq_false,Bool.not_true,Bool.not_false,cast_zero,cast_one,List.size_toArray,List.getElem?_toArray,List.getElem?_cons_zero,List.getElem?_cons_succ,H_eta,isTuple,cells_int,cells_bool,cells_slice,cells_ptr,cells_agg,put_one,dopX.f,dopX.t,kept_zero,Nat.add_zero,ge_iff_le,gt_iff_lt,Ops.callvV,callvV.mk,List.nil_append,List.cons_append,List.append_nil,List.toList_toArray,Option.map_none,optNat_n,optNat_s,H.up_zero,gateV.und,dgateV.und,Dps.callvV,dcallvV.mk,Ops.invV,invV.mk,findV.mk]
  · simp only [At.skip,At.reg,At.regDu,At.seq,At.cond,At.block,At.exit,At.ret,On.nil,On.seq,On.seqE,On.seqR,On.out,On.outR,On.outE,condV.t,condV.f,Ops.nil,Ops.op,Ops.call,opV.mk,Ops.gate,gateV.tt,gateV.ff,gateV.tf,gateV.ft,gateV.un,Dps.nil,Dps.newSl,Dps.op,Dps.call,Dps.gate,dopV.mk,dopV.new,dgateV.tt,dgateV.ff,dgateV.tf,dgateV.ft,dgateV.un,Go.Ae.I.isLoad,resQ.r,resQ.n,stepQ.n,stepQ.e,stepQ.r,set_some,set_none,of_nil,of_cons,rho_tmp,rho_const,rho_func,g_put,g_nil,evI,Ae.bin,binI,Ae.un,nilEq,lenOf,if_true,if_false,Nat.reduceEqDiff,Nat.reduceAdd,Nat.zero_add,reduceIte,List.map_cons,List.map_nil,Option.map_some,Option.bind_some,evRs,evR,one,Option.some.injEq,exists_eq_left',exists_eq_left,List.all_nil,reduceCtorEq,true_and,and_true,parts',fill_int,fill_bool,fill_slice,fill_ptr,fill_nil,reps_one,List.replicate,List.length_cons,List.length_nil,Nat.reduceLeDiff,List.set_cons_zero,List.set_cons_succ,List.length_set,List.length_replicate,adr,Nat.mul_one,decide_true,decide_false,Int.reduceBEq,Int.reduceBNe,Int.reduceLT,Int.reduceLE,Int.reduceNeg,beq_self_eq_true,bne_self_eq_false,Bool.not_true,Bool.not_false,cast_zero,cast_one,List.size_toArray,List.getElem?_toArray,List.getElem?_cons_zero,List.getElem?_cons_succ,H_eta,isTuple,cells_int,cells_bool,cells_slice,cells_ptr,cells_agg,put_one,dopX.f,dopX.t,kept_zero,Nat.add_zero,ge_iff_le,gt_iff_lt,Ops.callvV,callvV.mk,List.nil_append,List.cons_append,List.append_nil,List.toList_toArray,Option.map_none,optNat_n,optNat_s,H.up_zero,gateV.und,dgateV.und,Dps.callvV,dcallvV.mk,Ops.invV,invV.mk,findV.mk, hw]
    refine rest _ h1' q1 o1 s3 n1 (Same.refl _) (fun m a1 a2 _ => ?_) ?_ ?_ ?_
    · have hne : ∀ m, m < q.L.length → q.l m ≠ v := fun m hm e => by have := o.p.at_ m hm; rw [e] at this; omega
      have hlp : ∀ m, m < q.L.length → 0 ≤ q.l m := fun m hm => by have := (o.i.l hm).1; omega
      have hle := k.hp m a1 a2 (Nat.zero_le _)
      have hpm : par m < q.L.length := by unfold par; omega
      have b1 := hsc (q.l (par m)) (hlp _ hpm)
      have b2 := hsc (q.l m) (hlp _ a2)
      rw [if_neg (hne _ hpm)] at b1
      rw [if_neg (hne _ a2)] at b2
      rw [hl1]
      unfold le lt at *
      omega
    all_goals simp only [At.skip,At.reg,At.regDu,At.seq,At.cond,At.block,At.exit,At.ret,On.nil,On.seq,On.seqE,On.seqR,On.out,On.outR,On.outE,condV.t,condV.f,Ops.nil,Ops.op,Ops.call,opV.mk,Ops.gate,gateV.tt,gateV.ff,gateV.tf,gateV.ft,gateV.un,Dps.nil,Dps.newSl,Dps.op,Dps.call,Dps.gate,dopV.mk,dopV.new,dgateV.tt,dgateV.ff,dgateV.tf,dgateV.ft,dgateV.un,Go.Ae.I.isLoad,resQ.r,resQ.n,stepQ.n,stepQ.e,stepQ.r,set_some,set_none,of_nil,of_cons,rho_tmp,rho_const,rho_func,g_put,g_nil,evI,Ae.bin,binI,Ae.un,nilEq,lenOf,if_true,if_false,Nat.reduceEqDiff,Nat.reduceAdd,Nat.zero_add,reduceIte,List.map_cons,List.map_nil,Option.map_some,Option.bind_some,evRs,evR,one,Option.some.injEq,exists_eq_left',exists_eq_left,List.all_nil,reduceCtorEq,true_and,and_true,parts',fill_int,fill_bool,fill_slice,fill_ptr,fill_nil,reps_one,List.replicate,List.length_cons,List.length_nil,Nat.reduceLeDiff,List.set_cons_zero,List.set_cons_succ,List.length_set,List.length_replicate,adr,Nat.mul_one,decide_true,decide_false,Int.reduceBEq,Int.reduceBNe,Int.reduceLT,Int.reduceLE,Int.reduceNeg,beq_self_eq_true,bne_self_eq_false,Bool.not_true,Bool.not_false,cast_zero,cast_one,List.size_toArray,List.getElem?_toArray,List.getElem?_cons_zero,List.getElem?_cons_succ,H_eta,isTuple,cells_int,cells_bool,cells_slice,cells_ptr,cells_agg,put_one,dopX.f,dopX.t,kept_zero,Nat.add_zero,ge_iff_le,gt_iff_lt,Ops.callvV,callvV.mk,List.nil_append,List.cons_append,List.append_nil,List.toList_toArray,Option.map_none,optNat_n,optNat_s,H.up_zero,gateV.und,dgateV.und,Dps.callvV,dcallvV.mk,Ops.invV,invV.mk,findV.mk]

set_option maxHeartbeats 4000000 in
theorem fade_ok {b : Blks} {h : H} {q : QS} (k : Qi b h q) : AF E 24 [wv b] h fun _ h' => ∃ q', Qi b h' q' ∧ Fq b h h' ∧ h'.next = h.next ∧
      Upd q (if 281474976710656 < q.step + (q.step / 8 + 1) then q.S.map dv else q.S) (if 281474976710656 < q.step + (q.step / 8 + 1) then max (dv (q.step + (q.step / 8 + 1))) 1 else q.step + (q.step / 8 + 1)) q' := by
  suffices key : ∀ Q : H → Prop, (∀ h' q', Qi b h' q' → Fq b h h' → h'.next = h.next →
      Upd q (if 281474976710656 < q.step + (q.step / 8 + 1) then q.S.map dv else q.S) (if 281474976710656 < q.step + (q.step / 8 + 1) then max (dv (q.step + (q.step / 8 + 1))) 1 else q.step + (q.step / 8 + 1)) q' → Q h') → AF E 24 [wv b] h fun _ h' => Q h' from
    key _ fun h' q' a1 a2 a3 a4 => ⟨q', a1, a2, a3, a4⟩
  intro Q hq
  refine AF.walk (E_fn comp24) (E_spec (by decide) _ _) ?_
  have o := k.o
  have hst := k.st
  have w0 : IntKind.u64.wrap (q.step.tdiv 8) = q.step / 8 := by rw [Int.tdiv_eq_ediv_of_nonneg (by omega), IntWalk.u64_in _ (by omega)]
  have w1 : IntKind.u64.wrap (q.step / 8 + 1) = q.step / 8 + 1 := IntWalk.u64_in _ (by omega)
  have w2 : IntKind.u64.wrap (q.step + (q.step / 8 + 1)) = q.step + (q.step / 8 + 1) := IntWalk.u64_in _ (by omega)
  obtain ⟨x, hx⟩ : ∃ x, x = q.step + (q.step / 8 + 1) := ⟨_, rfl⟩
  rw [← hx] at w2 hq
  obtain ⟨s1, s2, s3⟩ := o.r.setStep x
  simp only [At.skip,At.reg,At.regDu,At.seq,At.cond,At.block,At.exit,At.ret,On.nil,On.seq,On.seqE,On.seqR,On.out,On.outR,On.outE,condV.t,condV.f,Ops.nil,Ops.op,Ops.call,opV.mk,Ops.gate,gateV.tt,gateV.ff,gateV.tf,gateV.ft,gateV.un,Dps.nil,Dps.newSl,Dps.op,Dps.call,Dps.gate,dopV.mk,dopV.new,dgateV.tt,dgateV.ff,dgateV.tf,dgateV.ft,dgateV.un,Go.Ae.I.isLoad,resQ.r,resQ.n,stepQ.n,stepQ.e,stepQ.r,set_some,set_none,of_nil,of_cons,rho_tmp,rho_const,rho_func,g_put,g_nil,evI,Ae.bin,binI,Ae.un,nilEq,lenOf,if_true,if_false,Nat.reduceEqDiff,Nat.reduceAdd,Nat.zero_add,reduceIte,List.map_cons,List.map_nil,Option.map_some,Option.bind_some,evRs,evR,one,Option.some.injEq,exists_eq_left',exists_eq_left,List.all_nil,reduceCtorEq,true_and,and_true,parts',fill_int,fill_bool,fill_slice,fill_ptr,fill_nil,reps_one,List.replicate,List.length_cons,List.length_nil,Nat.reduceLeDiff,List.set_cons_zero,List.set_cons_succ,List.length_set,List.length_replicate,adr,Nat.mul_one,decide_true,decide_false,Int.reduceBEq,Int.reduceBNe,Int.reduceLT,Int.reduceLE,Int.reduceNeg,beq_self_eq_true,bne_self_eq_false,Bool.not_true,Bool.not_false,cast_zero,cast_one,List.size_toArray,List.getElem?_toArray,List.getElem?_cons_zero,List.getElem?_cons_succ,H_eta,isTuple,cells_int,cells_bool,cells_slice,cells_ptr,cells_agg,put_one,dopX.f,dopX.t,kept_zero,Nat.add_zero,ge_iff_le,gt_iff_lt,Ops.callvV,callvV.mk,List.nil_append,List.cons_append,List.append_nil,List.toList_toArray,Option.map_none,optNat_n,optNat_s,H.up_zero,gateV.und,dgateV.und,Dps.callvV,dcallvV.mk,Ops.invV,invV.mk,findV.mk, c24, c24_0]
  refine callV.of (none_ok o.r (by omega)) fun e h' hv => ?_
  obtain ⟨rfl, rfl⟩ := hv
  have n1 : (h'.set b.p (some ⟨QS.cells { q with step := x } b, false⟩)).next = h'.next := rfl
  have o1 : Ok b (h'.set b.p (some ⟨QS.cells { q with step := x } b, false⟩)) { q with step := x } := ⟨s2, o.i.setS (S := q.S) rfl x, o.p.setS q.S x⟩
  simp only [At.skip,At.reg,At.regDu,At.seq,At.cond,At.block,At.exit,At.ret,On.nil,On.seq,On.seqE,On.seqR,On.out,On.outR,On.outE,condV.t,condV.f,Ops.nil,Ops.op,Ops.call,opV.mk,Ops.gate,gateV.tt,gateV.ff,gateV.tf,gateV.ft,gateV.un,Dps.nil,Dps.newSl,Dps.op,Dps.call,Dps.gate,dopV.mk,dopV.new,dgateV.tt,dgateV.ff,dgateV.tf,dgateV.ft,dgateV.un,Go.Ae.I.isLoad,resQ.r,resQ.n,stepQ.n,stepQ.e,stepQ.r,set_some,set_none,of_nil,of_cons,rho_tmp,rho_const,rho_func,g_put,g_nil,evI,Ae.bin,binI,Ae.un,nilEq,lenOf,if_true,if_false,Nat.reduceEqDiff,Nat.reduceAdd,Nat.zero_add,reduceIte,List.map_cons,List.map_nil,Option.map_some,Option.bind_some,evRs,evR,one,Option.some.injEq,exists_eq_left',exists_eq_left,List.all_nil,reduceCtorEq,true_and,and_true,parts',fill_int,fill_bool,fill_slice,fill_ptr,fill_nil,reps_one,List.replicate,List.length_cons,List.length_nil,Nat.reduceLeDiff,List.set_cons_zero,List.set_cons_succ,List.length_set,List.length_replicate,adr,Nat.mul_one,decide_true,decide_false,Int.reduceBEq,Int.reduceBNe,Int.reduceLT,Int.reduceLE,Int.reduceNeg,beq_self_eq_true,bne_self_eq_false,Bool.not_true,Bool.not_false,cast_zero,cast_one,List.size_toArray,List.getElem?_toArray,List.getElem?_cons_zero,List.getElem?_cons_succ,H_eta,isTuple,cells_int,cells_bool,cells_slice,cells_ptr,cells_agg,put_one,dopX.f,dopX.t,kept_zero,Nat.add_zero,ge_iff_le,gt_iff_lt,Ops.callvV,callvV.mk,List.nil_append,List.cons_append,List.append_nil,List.toList_toArray,Option.map_none,optNat_n,optNat_s,H.up_zero,gateV.und,dgateV.und,Dps.callvV,dcallvV.mk,Ops.invV,invV.mk,findV.mk, c24_1, ld_blk o.r.gp, w0, w1, show ¬ ((8 : Int) = 0) by decide, ← hx, w2, s1, c24_2]
  generalize h'.set b.p (some ⟨QS.cells { q with step := x } b, false⟩) = h1 at s2 s3 n1 o1
  have up : Upd q q.S x { q with step := x } := ⟨rfl, rfl, rfl, rfl, rfl, fun _ _ _ => Iff.rfl⟩
  have e1 : QS.cells { q with step := x } b = [q.lv b, q.pv b, q.sv b, .int .u64 x] := rfl
  have hg := s2.gp
  rw [e1] at hg
  simp only [At.skip,At.reg,At.regDu,At.seq,At.cond,At.block,At.exit,At.ret,On.nil,On.seq,On.seqE,On.seqR,On.out,On.outR,On.outE,condV.t,condV.f,Ops.nil,Ops.op,Ops.call,opV.mk,Ops.gate,gateV.tt,gateV.ff,gateV.tf,gateV.ft,gateV.un,Dps.nil,Dps.newSl,Dps.op,Dps.call,Dps.gate,dopV.mk,dopV.new,dgateV.tt,dgateV.ff,dgateV.tf,dgateV.ft,dgateV.un,Go.Ae.I.isLoad,resQ.r,resQ.n,stepQ.n,stepQ.e,stepQ.r,set_some,set_none,of_nil,of_cons,rho_tmp,rho_const,rho_func,g_put,g_nil,evI,Ae.bin,binI,Ae.un,nilEq,lenOf,if_true,if_false,Nat.reduceEqDiff,Nat.reduceAdd,Nat.zero_add,reduceIte,List.map_cons,List.map_nil,Option.map_some,Option.bind_some,evRs,evR,one,Option.some.injEq,exists_eq_left',exists_eq_left,List.all_nil,reduceCtorEq,true_and,and_true,parts',fill_int,fill_bool,fill_slice,fill_ptr,fill_nil,reps_one,List.replicate,List.length_cons,List.length_nil,Nat.reduceLeDiff,List.set_cons_zero,List.set_cons_succ,List.length_set,List.length_replicate,adr,Nat.mul_one,decide_true,decide_false,Int.reduceBEq,Int.reduceBNe,Int.reduceLT,Int.reduceLE,Int.reduceNeg,beq_self_eq_true,bne_self_eq_false,Bool.not_true,Bool.not_false,cast_zero,cast_one,List.size_toArray,List.getElem?_toArray,List.getElem?_cons_zero,List.getElem?_cons_succ,H_eta,isTuple,cells_int,cells_bool,cells_slice,cells_ptr,cells_agg,put_one,dopX.f,dopX.t,kept_zero,Nat.add_zero,ge_iff_le,gt_iff_lt,Ops.callvV,callvV.mk,List.nil_append,List.cons_append,List.append_nil,List.toList_toArray,Option.map_none,optNat_n,optNat_s,H.up_zero,gateV.und,dgateV.und,Dps.callvV,dcallvV.mk,Ops.invV,invV.mk,findV.mk, ld_blk hg]
  by_cases hbig : 281474976710656 < x
  · simp only [At.skip,At.reg,At.regDu,At.seq,At.cond,At.block,At.exit,At.ret,On.nil,On.seq,On.seqE,On.seqR,On.out,On.outR,On.outE,condV.t,condV.f,Ops.nil,Ops.op,Ops.call,opV.mk,Ops.gate,gateV.tt,gateV.ff,gateV.tf,gateV.ft,gateV.un,Dps.nil,Dps.newSl,Dps.op,Dps.call,Dps.gate,dopV.mk,dopV.new,dgateV.tt,dgateV.ff,dgateV.tf,dgateV.ft,dgateV.un,Go.Ae.I.isLoad,resQ.r,resQ.n,stepQ.n,stepQ.e,stepQ.r,set_some,set_none,of_nil,of_cons,rho_tmp,rho_const,rho_func,g_put,g_nil,evI,Ae.bin,binI,Ae.un,nilEq,lenOf,if_true,if_false,Nat.reduceEqDiff,Nat.reduceAdd,Nat.zero_add,reduceIte,List.map_cons,List.map_nil,Option.map_some,Option.bind_some,evRs,evR,one,Option.some.injEq,exists_eq_left',exists_eq_left,List.all_nil,reduceCtorEq,true_and,and_true,parts',fill_int,fill_bool,fill_slice,fill_ptr,fill_nil,reps_one,List.replicate,List.length_cons,List.length_nil,Nat.reduceLeDiff,List.set_cons_zero,List.set_cons_succ,List.length_set,List.length_replicate,adr,Nat.mul_one,decide_true,decide_false,Int.reduceBEq,Int.reduceBNe,Int.reduceLT,Int.reduceLE,Int.reduceNeg,beq_self_eq_true,bne_self_eq_false,Bool.not_true,Bool.not_false,cast_zero,cast_one,List.size_toArray,List.getElem?_toArray,List.getElem?_cons_zero,List.getElem?_cons_succ,H_eta,isTuple,cells_int,cells_bool,cells_slice,cells_ptr,cells_agg,put_one,dopX.f,dopX.t,kept_zero,Nat.add_zero,ge_iff_le,gt_iff_lt,Ops.callvV,callvV.mk,List.nil_append,List.cons_append,List.append_nil,List.toList_toArray,Option.map_none,optNat_n,optNat_s,H.up_zero,gateV.und,dgateV.und,Dps.callvV,dcallvV.mk,Ops.invV,invV.mk,findV.mk, hbig, c24_3]
    refine callV.of (divide_ok o1) fun e h3' hv => ?_
    obtain ⟨q3, o3, f3, n3, s3', hp3⟩ := hv
    obtain ⟨a1, a2⟩ := divided (q := { q with step := x }) up o3 s3' hp3 (fun y hy => by have := k.sb y hy; omega) (by show 0 ≤ x ∧ x ≤ _; omega)
    simp only [At.skip,At.reg,At.regDu,At.seq,At.cond,At.block,At.exit,At.ret,On.nil,On.seq,On.seqE,On.seqR,On.out,On.outR,On.outE,condV.t,condV.f,Ops.nil,Ops.op,Ops.call,opV.mk,Ops.gate,gateV.tt,gateV.ff,gateV.tf,gateV.ft,gateV.un,Dps.nil,Dps.newSl,Dps.op,Dps.call,Dps.gate,dopV.mk,dopV.new,dgateV.tt,dgateV.ff,dgateV.tf,dgateV.ft,dgateV.un,Go.Ae.I.isLoad,resQ.r,resQ.n,stepQ.n,stepQ.e,stepQ.r,set_some,set_none,of_nil,of_cons,rho_tmp,rho_const,rho_func,g_put,g_nil,evI,Ae.bin,binI,Ae.un,nilEq,lenOf,if_true,if_false,Nat.reduceEqDiff,Nat.reduceAdd,Nat.zero_add,reduceIte,List.map_cons,List.map_nil,Option.map_some,Option.bind_some,evRs,evR,one,Option.some.injEq,exists_eq_left',exists_eq_left,List.all_nil,reduceCtorEq,true_and,and_true,parts',fill_int,fill_bool,fill_slice,fill_ptr,fill_nil,reps_one,List.replicate,List.length_cons,List.length_nil,Nat.reduceLeDiff,List.set_cons_zero,List.set_cons_succ,List.length_set,List.length_replicate,adr,Nat.mul_one,decide_true,decide_false,Int.reduceBEq,Int.reduceBNe,Int.reduceLT,Int.reduceLE,Int.reduceNeg,beq_self_eq_true,bne_self_eq_false,Bool.not_true,Bool.not_false,cast_zero,cast_one,List.size_toArray,List.getElem?_toArray,List.getElem?_cons_zero,List.getElem?_cons_succ,H_eta,isTuple,cells_int,cells_bool,cells_slice,cells_ptr,cells_agg,put_one,dopX.f,dopX.t,kept_zero,Nat.add_zero,ge_iff_le,gt_iff_lt,Ops.callvV,callvV.mk,List.nil_append,List.cons_append,List.append_nil,List.toList_toArray,Option.map_none,optNat_n,optNat_s,H.up_zero,gateV.und,dgateV.und,Dps.callvV,dcallvV.mk,Ops.invV,invV.mk,findV.mk]
    refine hq h3' q3 a1 (s3.trans f3) (n3.trans n1) ?_
    rw [if_pos hbig, if_pos hbig]
    exact a2
  · simp only [At.skip,At.reg,At.regDu,At.seq,At.cond,At.block,At.exit,At.ret,On.nil,On.seq,On.seqE,On.seqR,On.out,On.outR,On.outE,condV.t,condV.f,Ops.nil,Ops.op,Ops.call,opV.mk,Ops.gate,gateV.tt,gateV.ff,gateV.tf,gateV.ft,gateV.un,Dps.nil,Dps.newSl,Dps.op,Dps.call,Dps.gate,dopV.mk,dopV.new,dgateV.tt,dgateV.ff,dgateV.tf,dgateV.ft,dgateV.un,Go.Ae.I.isLoad,resQ.r,resQ.n,stepQ.n,stepQ.e,stepQ.r,set_some,set_none,of_nil,of_cons,rho_tmp,rho_const,rho_func,g_put,g_nil,evI,Ae.bin,binI,Ae.un,nilEq,lenOf,if_true,if_false,Nat.reduceEqDiff,Nat.reduceAdd,Nat.zero_add,reduceIte,List.map_cons,List.map_nil,Option.map_some,Option.bind_some,evRs,evR,one,Option.some.injEq,exists_eq_left',exists_eq_left,List.all_nil,reduceCtorEq,true_and,and_true,parts',fill_int,fill_bool,fill_slice,fill_ptr,fill_nil,reps_one,List.replicate,List.length_cons,List.length_nil,Nat.reduceLeDiff,List.set_cons_zero,List.set_cons_succ,List.length_set,List.length_replicate,adr,Nat.mul_one,decide_true,decide_false,Int.reduceBEq,Int.reduceBNe,Int.reduceLT,Int.reduceLE,Int.reduceNeg,beq_self_eq_true,bne_self_eq_false,Bool.not_true,Bool.not_false,cast_zero,cast_one,List.size_toArray,List.getElem?_toArray,List.getElem?_cons_zero,List.getElem?_cons_succ,H_eta,isTuple,cells_int,cells_bool,cells_slice,cells_ptr,cells_agg,put_one,dopX.f,dopX.t,kept_zero,Nat.add_zero,ge_iff_le,gt_iff_lt,Ops.callvV,callvV.mk,List.nil_append,List.cons_append,List.append_nil,List.toList_toArray,Option.map_none,optNat_n,optNat_s,H.up_zero,gateV.und,dgateV.und,Dps.callvV,dcallvV.mk,Ops.invV,invV.mk,findV.mk, hbig]
    refine hq h1 { q with step := x } ⟨o1, k.hp, k.sb, by show 1 ≤ x ∧ x ≤ _; omega⟩ s3 n1 ?_
    rw [if_neg hbig, if_neg hbig]
    exact up
end Go.Proofs.Ytnejnaoehcahbaa.q
