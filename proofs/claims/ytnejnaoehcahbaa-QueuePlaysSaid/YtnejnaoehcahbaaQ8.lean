/-
  Back: a variable waits again.
-/
import Derived.Test.YtnejnaoehcahbaaAeInv
import Derived.Test.YtnejnaoehcahbaaQ7
import Derived.Test.YtnejnaoehcahbaaPlain13
namespace Go.Proofs.Ytnejnaoehcahbaa.q
open Go Go.Ae
set_option linter.unusedSimpArgs false

def QS.push (q : QS) (v : Int) : QS := { q with L := q.L ++ [v], J := q.J.tail, P := q.P.set v.toNat q.L.length }

theorem push_l {q : QS} {v : Int} {k : Nat} (hk : k ≤ q.L.length) : (q.push v).l k = if k = q.L.length then v else q.l k := by
  unfold QS.l QS.push
  simp only
  by_cases e : k = q.L.length
  · subst e
    rw [if_pos rfl, getD_at (by simp)]; simp
  · rw [if_neg e, getD_at (by simp; omega), getD_at (by omega), List.getElem_append_left (by omega)]
theorem push_pi {q : QS} {v a : Int} (h1 : 1 ≤ v) (h2 : v < q.P.length) (a1 : 1 ≤ a) (a2 : a < q.P.length) : (q.push v).pi a = if a = v then (q.L.length : Int) else q.pi a := by
  unfold QS.pi QS.push
  simp only
  rw [getD_at (by simp; omega), List.getElem_set]
  by_cases e : a = v
  · rw [if_pos (by rw [e]), if_pos e]
  · rw [if_neg (by omega), if_neg e, getD_at (by omega)]
theorem push_in {q : QS} {v : Int} (I : In q) (h1 : 1 ≤ v) (h2 : v < q.P.length) (hc : q.L.length + 1 ≤ 100000000) : In (q.push v) := by
  refine ⟨by simp [QS.push, I.ps], fun x hx => ?_, by simp only [QS.push, List.length_set]; exact I.sz, by simp [QS.push]; omega⟩
  simp only [QS.push, List.length_set, List.mem_append, List.mem_singleton] at hx ⊢
  rcases hx with hx | rfl
  · exact I.v x hx
  · exact ⟨h1, h2⟩
theorem push_pos {q : QS} {v : Int} (I : In q) (p : Pos q) (h1 : 1 ≤ v) (h2 : v < q.P.length) (hv : q.pi v = -1) : Pos (q.push v) := by
  have hlen : (q.push v).L.length = q.L.length + 1 := by simp [QS.push]
  have hpl : (q.push v).P.length = q.P.length := by simp [QS.push]
  refine ⟨fun k hk => ?_, fun a a1 a2 => ?_⟩
  · rw [hlen] at hk
    rw [push_l (by omega)]
    by_cases e : k = q.L.length
    · rw [if_pos e, push_pi h1 h2 h1 h2, if_pos rfl, e]
    · have hl := I.l (show k < q.L.length by omega)
      have hp := p.at_ k (by omega)
      rw [if_neg e, push_pi h1 h2 hl.1 hl.2, if_neg (fun e2 => by rw [e2, hv] at hp; omega)]
      exact hp
  · rw [hpl] at a2
    rw [push_pi h1 h2 a1 a2, hlen]
    by_cases e : a = v
    · rw [if_pos e]
      refine .inr ⟨by omega, by omega, ?_⟩
      rw [push_l (by omega), if_pos (by omega), e]
    · rw [if_neg e]
      rcases p.of a a1 a2 with h | ⟨h3, h4, h5⟩
      · exact .inl h
      · refine .inr ⟨h3, by omega, ?_⟩
        rw [push_l (by omega), if_neg (by omega)]; exact h5

set_option maxHeartbeats 8000000 in
theorem wpush2_ok {b : Blks} {h : H} {q : QS} {v : Int} (o : Ok b h q) (h1 : 1 ≤ v) (h2 : v < q.P.length) (hv : q.pi v = -1) (hJ : q.J ≠ []) (hc : q.L.length + 1 ≤ 100000000) :
    AF E 38 [wv b, .iface 3 (int v)] h fun _ h' => Ok b h' (q.push v) ∧ Fq b h h' := by
  suffices key : ∀ Q : H → Prop, (∀ h', Ok b h' (q.push v) → Fq b h h' → Q h') → AF E 38 [wv b, .iface 3 (int v)] h fun _ h' => Q h' from key _ fun h' a1 a2 => ⟨a1, a2⟩
  intro Q hq
  refine AF.walk (E_fn comp38) (E_spec (by decide) _ _) ?_
  have r := o.r
  have d := r.d
  have hnil : ¬ b.nil = true := fun e => hJ (r.nn e).2
  have hbase : b.base = some ⟨b.bl, 0, b.s⟩ := by unfold Blks.base; rw [if_neg hnil]
  have rgl := r.gl.resolve_left hnil
  have rnl := r.nl.resolve_left hnil
  have rnp := r.np
  have rnpl := r.npl
  have rns := r.ns
  have nv := natOf_int (k := .i64) (show 0 ≤ v by omega)
  have pv : v.toNat < q.P.length := by omega
  have hJl : 0 < q.J.length := List.length_pos_iff.2 hJ
  have st1 : h.sts b.bp v.toNat [int q.L.length] = some (h.set b.bp (some ⟨ints (q.P.set v.toNat q.L.length), false⟩)) := by
    rw [sts_of r.gpl rfl (by simp; omega) rfl, put_one]; simp only [ints, List.map_set]
  generalize hh1 : h.set b.bp (some ⟨ints (q.P.set v.toNat q.L.length), false⟩) = h1' at st1
  have o1 : ∀ j, j ≠ b.bp → h1'.get j = h.get j := fun j hj => by rw [← hh1, H.get_set, if_neg hj]
  have n1 : h1'.next = h.next := by rw [← hh1]; rfl
  have gp1 := (o1 _ d.d2).trans r.gp
  -- the value, told by itself
  generalize hh2 : h1'.new ⟨[int v], false⟩ = h2'
  have n2 : h2'.next = h.next + 1 := by rw [← hh2]; show h1'.next + 1 = _; omega
  have o2 : ∀ j, j ≠ h.next → h2'.get j = h1'.get j := fun j hj => by rw [← hh2, H.get_new, if_neg (by rw [n1]; exact hj)]
  have gv2 : h2'.get h.next = some ⟨[int v], false⟩ := by rw [← hh2, H.get_new, if_pos n1.symm]
  have gl2 : h2'.get b.bl = some ⟨ints (q.L ++ q.J), false⟩ := by rw [o2 _ (by omega), o1 _ d.d4]; exact rgl
  have st3 : h2'.sts b.bl q.L.length [int v] = some (h2'.set b.bl (some ⟨ints ((q.push v).L ++ (q.push v).J), false⟩)) := by
    rw [sts_of gl2 rfl (by simp; omega) rfl, put_one]
    congr 4
    obtain ⟨j, J, hJe⟩ := List.exists_cons_of_ne_nil hJ
    simp only [ints, QS.push, hJe, List.map_append, List.map_cons, List.tail_cons, List.append_assoc, List.map_nil]
    rw [List.set_append_right _ _ (by simp)]
    simp
  have happ : Ae.app h2' 1 8 (.slice (some ⟨b.bl, 0, b.s⟩) q.L.length (q.L.length + q.J.length)) (.slice (some ⟨h.next, 0, none⟩) 1 1) = some (.slice (some ⟨b.bl, 0, b.s⟩) (q.L.length + 1) (q.L.length + q.J.length), h2'.set b.bl (some ⟨ints ((q.push v).L ++ (q.push v).J), false⟩)) := by
    have hcl : cellsOf h2' 1 1 (.slice (some ⟨h.next, 0, none⟩) 1 1) = some [int v] := by simp only [cellsOf]; exact lds_all gv2
    simp only [Ae.app, lenOf, hcl, Option.bind_some, if_pos (show q.L.length + 1 ≤ q.L.length + q.J.length by omega), Nat.mul_one, Nat.zero_add, st3]
    rfl
  generalize hh3 : h2'.set b.bl (some ⟨ints ((q.push v).L ++ (q.push v).J), false⟩) = h3' at happ
  have o3 : ∀ j, j ≠ b.bl → h3'.get j = h2'.get j := fun j hj => by rw [← hh3, H.get_set, if_neg hj]
  have n3 : h3'.next = h.next + 1 := by rw [← hh3]; exact n2
  have gp3 : h3'.get b.p = some ⟨q.cells b, false⟩ := by rw [o3 _ d.d1, o2 _ (by omega)]; exact gp1
  have hcap : (q.push v).L.length + (q.push v).J.length = q.L.length + q.J.length := by simp [QS.push]; omega
  have st4 : h3'.sts b.p 0 [.slice (some ⟨b.bl, 0, b.s⟩) (q.L.length + 1) (q.L.length + q.J.length)] = some (h3'.set b.p (some ⟨(q.push v).cells b, false⟩)) := by
    rw [sts_of gp3 rfl (by simp) rfl, put_one]
    have e1 : (q.push v).lv b = .slice (some ⟨b.bl, 0, b.s⟩) (q.L.length + 1) (q.L.length + q.J.length) := by
      rw [lv_of hbase, hcap]; simp [QS.push]
    congr 4
    show [_, q.pv b, q.sv b, .int .u64 q.step] = [(q.push v).lv b, _, _, _]
    rw [e1]
    simp [QS.push]
  simp only [At.skip,At.reg,At.regDu,At.seq,At.cond,At.block,At.exit,At.ret,On.nil,On.seq,On.seqE,On.seqR,On.out,On.outR,On.outE,condV.t,condV.f,Ops.nil,Ops.op,Ops.call,opV.mk,Ops.gate,gateV.tt,gateV.ff,gateV.tf,gateV.ft,gateV.un,Dps.nil,Dps.newSl,Dps.op,Dps.call,Dps.gate,dopV.mk,dopV.new,dgateV.tt,dgateV.ff,dgateV.tf,dgateV.ft,dgateV.un,Go.Ae.I.isLoad,resQ.r,resQ.n,stepQ.n,stepQ.e,stepQ.r,set_some,set_none,of_nil,of_cons,rho_tmp,rho_const,rho_func,g_put,g_nil,evI,Ae.bin,binI,Ae.un,nilEq,lenOf,if_true,if_false,Nat.reduceEqDiff,Nat.reduceAdd,Nat.zero_add,reduceIte,List.map_cons,List.map_nil,Option.map_some,Option.bind_some,evRs,evR,one,Option.some.injEq,exists_eq_left',exists_eq_left,List.all_nil,reduceCtorEq,true_and,and_true,parts',fill_int,fill_bool,fill_slice,fill_ptr,fill_nil,reps_one,List.replicate,List.length_cons,List.length_nil,Nat.reduceLeDiff,List.set_cons_zero,List.set_cons_succ,List.length_set,List.length_replicate,adr,Nat.mul_one,decide_true,decide_false,Int.reduceBEq,Int.reduceBNe,Int.reduceLT,Int.reduceLE,Int.reduceNeg,beq_self_eq_true,bne_self_eq_false,Bool.not_true,Bool.not_false,cast_zero,cast_one,List.size_toArray,List.getElem?_toArray,List.getElem?_cons_zero,List.getElem?_cons_succ,H_eta,isTuple,cells_int,cells_bool,cells_slice,cells_ptr,cells_agg,put_one,dopX.f,dopX.t,kept_zero,Nat.add_zero,ge_iff_le,gt_iff_lt,Ops.callvV,callvV.mk,List.nil_append,List.cons_append,List.append_nil,List.toList_toArray,Option.map_none,optNat_n,optNat_s,H.up_zero,gateV.und,dgateV.und,Dps.callvV,dcallvV.mk,Ops.invV,invV.mk,findV.mk, c38, c38_0, c38_1, ld_blk r.gp, lv_of (q := q) hbase, nv, pv, st1, c38_2, ld_blk gp1, hh2, n1, happ, st4]
  have o4 : ∀ j, j ≠ b.p → (h3'.set b.p (some ⟨(q.push v).cells b, false⟩)).get j = h3'.get j := fun j hj => by rw [H.get_set, if_neg hj]
  refine hq _ ⟨⟨d, by rw [H.get_set, if_pos rfl], .inr ?_, fun e => absurd e hnil, ?_, ?_, ?_, .inr ?_, ?_, ?_⟩, push_in o.i h1 h2 hc, push_pos o.i o.p h1 h2 hv⟩ ⟨?_, fun j hj a1 a2 a3 a4 => ?_⟩
  · rw [o4 _ (Ne.symm d.d1), ← hh3, H.get_set, if_pos rfl]
  · rw [o4 _ (Ne.symm d.d2), o3 _ (Ne.symm d.d4), o2 _ (by omega), ← hh1, H.get_set, if_pos rfl]; rfl
  · rw [o4 _ (Ne.symm d.d3), o3 _ (Ne.symm d.d5), o2 _ (by omega), o1 _ (Ne.symm d.d6), r.gs]; rfl
  · show b.p < h3'.next; omega
  · show b.bl < h3'.next; omega
  · show b.bp < h3'.next; omega
  · show b.bs < h3'.next; omega
  · show h.next ≤ h3'.next; omega
  · rw [o4 _ a1, o3 _ a2, o2 _ (by omega), o1 _ a3]

theorem hpush_ok {b : Blks} {h : H} {q : QS} {v : Int} (o : Ok b h q) (hp : Hp q.sc q.l q.L.length 0) (h1 : 1 ≤ v) (h2 : v < q.P.length) (hv : q.pi v = -1) (hJ : q.J ≠ []) (hc : q.L.length + 1 ≤ 100000000) :
    AF E 52 [iv b, .iface 3 (int v)] h fun _ h' => ∃ q', Ok b h' q' ∧ Fq b h h' ∧ Same (q.push v) q' ∧ Hp q.sc q'.l (q.L.length + 1) 0 := by
  suffices key : ∀ Q : H → Prop, (∀ h' q', Ok b h' q' → Fq b h h' → Same (q.push v) q' → Hp q.sc q'.l (q.L.length + 1) 0 → Q h') → AF E 52 [iv b, .iface 3 (int v)] h fun _ h' => Q h' from key _ fun h' q' a1 a2 a3 a4 => ⟨q', a1, a2, a3, a4⟩
  intro Q hq
  refine AF.walk (E_fn comp52) (E_spec (by decide) _ _) ?_
  simp only [At.skip,At.reg,At.regDu,At.seq,At.cond,At.block,At.exit,At.ret,On.nil,On.seq,On.seqE,On.seqR,On.out,On.outR,On.outE,condV.t,condV.f,Ops.nil,Ops.op,Ops.call,opV.mk,Ops.gate,gateV.tt,gateV.ff,gateV.tf,gateV.ft,gateV.un,Dps.nil,Dps.newSl,Dps.op,Dps.call,Dps.gate,dopV.mk,dopV.new,dgateV.tt,dgateV.ff,dgateV.tf,dgateV.ft,dgateV.un,Go.Ae.I.isLoad,resQ.r,resQ.n,stepQ.n,stepQ.e,stepQ.r,set_some,set_none,of_nil,of_cons,rho_tmp,rho_const,rho_func,g_put,g_nil,evI,Ae.bin,binI,Ae.un,nilEq,lenOf,if_true,if_false,Nat.reduceEqDiff,Nat.reduceAdd,Nat.zero_add,reduceIte,List.map_cons,List.map_nil,Option.map_some,Option.bind_some,evRs,evR,one,Option.some.injEq,exists_eq_left',exists_eq_left,List.all_nil,reduceCtorEq,true_and,and_true,parts',fill_int,fill_bool,fill_slice,fill_ptr,fill_nil,reps_one,List.replicate,List.length_cons,List.length_nil,Nat.reduceLeDiff,List.set_cons_zero,List.set_cons_succ,List.length_set,List.length_replicate,adr,Nat.mul_one,decide_true,decide_false,Int.reduceBEq,Int.reduceBNe,Int.reduceLT,Int.reduceLE,Int.reduceNeg,beq_self_eq_true,bne_self_eq_false,Bool.not_true,Bool.not_false,cast_zero,cast_one,List.size_toArray,List.getElem?_toArray,List.getElem?_cons_zero,List.getElem?_cons_succ,H_eta,isTuple,cells_int,cells_bool,cells_slice,cells_ptr,cells_agg,put_one,dopX.f,dopX.t,kept_zero,Nat.add_zero,ge_iff_le,gt_iff_lt,Ops.callvV,callvV.mk,List.nil_append,List.cons_append,List.append_nil,List.toList_toArray,Option.map_none,optNat_n,optNat_s,H.up_zero,gateV.und,dgateV.und,Dps.callvV,dcallvV.mk,Ops.invV,invV.mk,findV.mk, c52, c52_0, t38]
  refine callV.of (wpush2_ok o h1 h2 hv hJ hc) fun e h3 hw => ?_
  obtain ⟨o3, f3⟩ := hw
  have hl : (q.push v).L.length = q.L.length + 1 := by simp [QS.push]
  have hsc : (q.push v).sc = q.sc := rfl
  simp only [At.skip,At.reg,At.regDu,At.seq,At.cond,At.block,At.exit,At.ret,On.nil,On.seq,On.seqE,On.seqR,On.out,On.outR,On.outE,condV.t,condV.f,Ops.nil,Ops.op,Ops.call,opV.mk,Ops.gate,gateV.tt,gateV.ff,gateV.tf,gateV.ft,gateV.un,Dps.nil,Dps.newSl,Dps.op,Dps.call,Dps.gate,dopV.mk,dopV.new,dgateV.tt,dgateV.ff,dgateV.tf,dgateV.ft,dgateV.un,Go.Ae.I.isLoad,resQ.r,resQ.n,stepQ.n,stepQ.e,stepQ.r,set_some,set_none,of_nil,of_cons,rho_tmp,rho_const,rho_func,g_put,g_nil,evI,Ae.bin,binI,Ae.un,nilEq,lenOf,if_true,if_false,Nat.reduceEqDiff,Nat.reduceAdd,Nat.zero_add,reduceIte,List.map_cons,List.map_nil,Option.map_some,Option.bind_some,evRs,evR,one,Option.some.injEq,exists_eq_left',exists_eq_left,List.all_nil,reduceCtorEq,true_and,and_true,parts',fill_int,fill_bool,fill_slice,fill_ptr,fill_nil,reps_one,List.replicate,List.length_cons,List.length_nil,Nat.reduceLeDiff,List.set_cons_zero,List.set_cons_succ,List.length_set,List.length_replicate,adr,Nat.mul_one,decide_true,decide_false,Int.reduceBEq,Int.reduceBNe,Int.reduceLT,Int.reduceLE,Int.reduceNeg,beq_self_eq_true,bne_self_eq_false,Bool.not_true,Bool.not_false,cast_zero,cast_one,List.size_toArray,List.getElem?_toArray,List.getElem?_cons_zero,List.getElem?_cons_succ,H_eta,isTuple,cells_int,cells_bool,cells_slice,cells_ptr,cells_agg,put_one,dopX.f,dopX.t,kept_zero,Nat.add_zero,ge_iff_le,gt_iff_lt,Ops.callvV,callvV.mk,List.nil_append,List.cons_append,List.append_nil,List.toList_toArray,Option.map_none,optNat_n,optNat_s,H.up_zero,gateV.und,dgateV.und,Dps.callvV,dcallvV.mk,Ops.invV,invV.mk,findV.mk, c52_1, t50]
  refine callV.of (len_ok o3.r) fun e h4 hw => ?_
  obtain ⟨rfl, rfl⟩ := hw
  have w1 : IntKind.i64.wrap (((q.push v).L.length : Int) - 1) = (q.L.length : Int) := by rw [wrap_id (by omega) (by omega)]; omega
  simp only [At.skip,At.reg,At.regDu,At.seq,At.cond,At.block,At.exit,At.ret,On.nil,On.seq,On.seqE,On.seqR,On.out,On.outR,On.outE,condV.t,condV.f,Ops.nil,Ops.op,Ops.call,opV.mk,Ops.gate,gateV.tt,gateV.ff,gateV.tf,gateV.ft,gateV.un,Dps.nil,Dps.newSl,Dps.op,Dps.call,Dps.gate,dopV.mk,dopV.new,dgateV.tt,dgateV.ff,dgateV.tf,dgateV.ft,dgateV.un,Go.Ae.I.isLoad,resQ.r,resQ.n,stepQ.n,stepQ.e,stepQ.r,set_some,set_none,of_nil,of_cons,rho_tmp,rho_const,rho_func,g_put,g_nil,evI,Ae.bin,binI,Ae.un,nilEq,lenOf,if_true,if_false,Nat.reduceEqDiff,Nat.reduceAdd,Nat.zero_add,reduceIte,List.map_cons,List.map_nil,Option.map_some,Option.bind_some,evRs,evR,one,Option.some.injEq,exists_eq_left',exists_eq_left,List.all_nil,reduceCtorEq,true_and,and_true,parts',fill_int,fill_bool,fill_slice,fill_ptr,fill_nil,reps_one,List.replicate,List.length_cons,List.length_nil,Nat.reduceLeDiff,List.set_cons_zero,List.set_cons_succ,List.length_set,List.length_replicate,adr,Nat.mul_one,decide_true,decide_false,Int.reduceBEq,Int.reduceBNe,Int.reduceLT,Int.reduceLE,Int.reduceNeg,beq_self_eq_true,bne_self_eq_false,Bool.not_true,Bool.not_false,cast_zero,cast_one,List.size_toArray,List.getElem?_toArray,List.getElem?_cons_zero,List.getElem?_cons_succ,H_eta,isTuple,cells_int,cells_bool,cells_slice,cells_ptr,cells_agg,put_one,dopX.f,dopX.t,kept_zero,Nat.add_zero,ge_iff_le,gt_iff_lt,Ops.callvV,callvV.mk,List.nil_append,List.cons_append,List.append_nil,List.toList_toArray,Option.map_none,optNat_n,optNat_s,H.up_zero,gateV.und,dgateV.und,Dps.callvV,dcallvV.mk,Ops.invV,invV.mk,findV.mk, w1]
  refine callV.of (up_ok (j := q.L.length) o3 (by omega) ⟨fun m a1 a2 a3 => ?_, fun _ m a1 a2 a3 => ?_⟩) fun e h5 hw => ?_
  · rw [hl] at a2
    rw [hsc, push_l (by unfold par; omega), push_l (by omega), if_neg (by unfold par; omega), if_neg a3]
    exact hp m a1 (by omega) (Nat.zero_le _)
  · unfold par at a3; omega
  · obtain ⟨q', o', f', n', s', hp'⟩ := hw
    simp only [At.skip,At.reg,At.regDu,At.seq,At.cond,At.block,At.exit,At.ret,On.nil,On.seq,On.seqE,On.seqR,On.out,On.outR,On.outE,condV.t,condV.f,Ops.nil,Ops.op,Ops.call,opV.mk,Ops.gate,gateV.tt,gateV.ff,gateV.tf,gateV.ft,gateV.un,Dps.nil,Dps.newSl,Dps.op,Dps.call,Dps.gate,dopV.mk,dopV.new,dgateV.tt,dgateV.ff,dgateV.tf,dgateV.ft,dgateV.un,Go.Ae.I.isLoad,resQ.r,resQ.n,stepQ.n,stepQ.e,stepQ.r,set_some,set_none,of_nil,of_cons,rho_tmp,rho_const,rho_func,g_put,g_nil,evI,Ae.bin,binI,Ae.un,nilEq,lenOf,if_true,if_false,Nat.reduceEqDiff,Nat.reduceAdd,Nat.zero_add,reduceIte,List.map_cons,List.map_nil,Option.map_some,Option.bind_some,evRs,evR,one,Option.some.injEq,exists_eq_left',exists_eq_left,List.all_nil,reduceCtorEq,true_and,and_true,parts',fill_int,fill_bool,fill_slice,fill_ptr,fill_nil,reps_one,List.replicate,List.length_cons,List.length_nil,Nat.reduceLeDiff,List.set_cons_zero,List.set_cons_succ,List.length_set,List.length_replicate,adr,Nat.mul_one,decide_true,decide_false,Int.reduceBEq,Int.reduceBNe,Int.reduceLT,Int.reduceLE,Int.reduceNeg,beq_self_eq_true,bne_self_eq_false,Bool.not_true,Bool.not_false,cast_zero,cast_one,List.size_toArray,List.getElem?_toArray,List.getElem?_cons_zero,List.getElem?_cons_succ,H_eta,isTuple,cells_int,cells_bool,cells_slice,cells_ptr,cells_agg,put_one,dopX.f,dopX.t,kept_zero,Nat.add_zero,ge_iff_le,gt_iff_lt,Ops.callvV,callvV.mk,List.nil_append,List.cons_append,List.append_nil,List.toList_toArray,Option.map_none,optNat_n,optNat_s,H.up_zero,gateV.und,dgateV.und,Dps.callvV,dcallvV.mk,Ops.invV,invV.mk,findV.mk]
    rw [hl, hsc] at hp'
    exact hq _ q' o' (f3.trans f') s' hp'

/-- Not all wait: there is room. -/
theorem room {q : QS} (I : In q) (p : Pos q) {v : Int} (h1 : 1 ≤ v) (h2 : v < q.P.length) (hv : q.pi v = -1) : q.L.length + 1 ≤ q.P.length - 1 := by
  have hat : ∀ i (hi : i < q.L.length), q.l i = q.L[i] := fun i hi => getD_at hi
  have hnd : q.L.Nodup := by
    show q.L.Pairwise (· ≠ ·)
    rw [List.pairwise_iff_getElem]
    intro i j hi hj hij e
    have e1 := p.at_ i (by omega)
    have e2 := p.at_ j hj
    rw [hat i (by omega), e, ← hat j hj, e2] at e1
    omega
  have hno : v ∉ q.L := fun hm => by
    obtain ⟨i, hi, rfl⟩ := List.getElem_of_mem hm
    have := p.at_ i hi
    rw [hat i hi, hv] at this
    omega
  have h3 := Go.Ae.Sat13.nodup_sub (v :: q.L) (upto (q.P.length - 1)) (List.nodup_cons.2 ⟨hno, hnd⟩) fun x hx => by
    have hx' : 1 ≤ x ∧ x < q.P.length := by
      rcases List.mem_cons.1 hx with rfl | hx
      · exact ⟨h1, h2⟩
      · exact I.v x hx
    simp only [upto, List.mem_map, List.mem_range]
    exact ⟨(x - 1).toNat, by omega, by omega⟩
  rw [upto_len] at h3
  simpa using h3

/-- What Back leaves. -/
structure Backed (q : QS) (v : Int) (q' : QS) : Prop where
  pl : q'.P.length = q.P.length
  s : q'.S = q.S
  st : q'.step = q.step
  cap : q'.L.length + q'.J.length = q.L.length + q.J.length
  wt : ∀ a : Int, 1 ≤ a → a < q.P.length → (0 ≤ q'.pi a ↔ a = v ∨ 0 ≤ q.pi a)

set_option maxHeartbeats 4000000 in
theorem back_ok {b : Blks} {h : H} {q : QS} {v : Int} (k : Qi b h q) (hcap : q.L.length + q.J.length + 1 = q.P.length) :
    AF E 29 [wv b, int v] h fun e h' => (¬ (1 ≤ v ∧ v < q.S.length) ∧ e = int 2 ∧ h' = h) ∨ (1 ≤ v ∧ v < q.S.length ∧ e = int 0 ∧ ∃ q', Qi b h' q' ∧ Fq b h h' ∧ Backed q v q') := by
  suffices key : ∀ Q : Value → H → Prop, (¬ (1 ≤ v ∧ v < q.S.length) → Q (int 2) h) → (1 ≤ v → v < q.S.length → ∀ h' q', Qi b h' q' → Fq b h h' → Backed q v q' → Q (int 0) h') → AF E 29 [wv b, int v] h Q from
    key _ (fun a => .inl ⟨a, rfl, rfl⟩) fun a1 a2 h' q' a3 a4 a5 => .inr ⟨a1, a2, rfl, q', a3, a4, a5⟩
  intro Q q0 q1
  refine AF.walk (E_fn comp29) (E_spec (by decide) _ _) ?_
  have o := k.o
  have hst := k.st
  have ps := o.i.ps
  have hsz := o.i.sz
  simp only [At.skip,At.reg,At.regDu,At.seq,At.cond,At.block,At.exit,At.ret,On.nil,On.seq,On.seqE,On.seqR,On.out,On.outR,On.outE,condV.t,condV.f,Ops.nil,Ops.op,Ops.call,opV.mk,Ops.gate,gateV.tt,gateV.ff,gateV.tf,gateV.ft,gateV.un,Dps.nil,Dps.newSl,Dps.op,Dps.call,Dps.gate,dopV.mk,dopV.new,dgateV.tt,dgateV.ff,dgateV.tf,dgateV.ft,dgateV.un,Go.Ae.I.isLoad,resQ.r,resQ.n,stepQ.n,stepQ.e,stepQ.r,set_some,set_none,of_nil,of_cons,rho_tmp,rho_const,rho_func,g_put,g_nil,evI,Ae.bin,binI,Ae.un,nilEq,lenOf,if_true,if_false,Nat.reduceEqDiff,Nat.reduceAdd,Nat.zero_add,reduceIte,List.map_cons,List.map_nil,Option.map_some,Option.bind_some,evRs,evR,one,Option.some.injEq,exists_eq_left',exists_eq_left,List.all_nil,reduceCtorEq,true_and,and_true,parts',fill_int,fill_bool,fill_slice,fill_ptr,fill_nil,reps_one,List.replicate,List.length_cons,List.length_nil,Nat.reduceLeDiff,List.set_cons_zero,List.set_cons_succ,List.length_set,List.length_replicate,adr,Nat.mul_one,decide_true,decide_false,Int.reduceBEq,Int.reduceBNe,Int.reduceLT,Int.reduceLE,Int.reduceNeg,beq_self_eq_true,bne_self_eq_false,Bool.not_true,Bool.not_false,cast_zero,cast_one,List.size_toArray,List.getElem?_toArray,List.getElem?_cons_zero,List.getElem?_cons_succ,H_eta,isTuple,cells_int,cells_bool,cells_slice,cells_ptr,cells_agg,put_one,dopX.f,dopX.t,kept_zero,Nat.add_zero,ge_iff_le,gt_iff_lt,Ops.callvV,callvV.mk,List.nil_append,List.cons_append,List.append_nil,List.toList_toArray,Option.map_none,optNat_n,optNat_s,H.up_zero,gateV.und,dgateV.und,Dps.callvV,dcallvV.mk,Ops.invV,invV.mk,findV.mk, c29, c29_0, c29_1]
  refine callV.of (asked_ok o.r (by omega)) fun e h' hw => ?_
  obtain ⟨rfl, eh⟩ := hw
  replace eh := eh.symm
  subst eh
  by_cases hr : 1 ≤ v ∧ v < q.S.length
  · rw [if_pos hr]
    have nv := natOf_int (k := .i64) (show 0 ≤ v by omega)
    have pv : v.toNat < q.P.length := by omega
    have epi : q.P.getD v.toNat 0 = q.pi v := rfl
    simp only [At.skip,At.reg,At.regDu,At.seq,At.cond,At.block,At.exit,At.ret,On.nil,On.seq,On.seqE,On.seqR,On.out,On.outR,On.outE,condV.t,condV.f,Ops.nil,Ops.op,Ops.call,opV.mk,Ops.gate,gateV.tt,gateV.ff,gateV.tf,gateV.ft,gateV.un,Dps.nil,Dps.newSl,Dps.op,Dps.call,Dps.gate,dopV.mk,dopV.new,dgateV.tt,dgateV.ff,dgateV.tf,dgateV.ft,dgateV.un,Go.Ae.I.isLoad,resQ.r,resQ.n,stepQ.n,stepQ.e,stepQ.r,set_some,set_none,of_nil,of_cons,rho_tmp,rho_const,rho_func,g_put,g_nil,evI,Ae.bin,binI,Ae.un,nilEq,lenOf,if_true,if_false,Nat.reduceEqDiff,Nat.reduceAdd,Nat.zero_add,reduceIte,List.map_cons,List.map_nil,Option.map_some,Option.bind_some,evRs,evR,one,Option.some.injEq,exists_eq_left',exists_eq_left,List.all_nil,reduceCtorEq,true_and,and_true,parts',fill_int,fill_bool,fill_slice,fill_ptr,fill_nil,reps_one,List.replicate,List.length_cons,List.length_nil,Nat.reduceLeDiff,List.set_cons_zero,List.set_cons_succ,List.length_set,List.length_replicate,adr,Nat.mul_one,decide_true,decide_false,Int.reduceBEq,Int.reduceBNe,Int.reduceLT,Int.reduceLE,Int.reduceNeg,beq_self_eq_true,bne_self_eq_false,Bool.not_true,Bool.not_false,cast_zero,cast_one,List.size_toArray,List.getElem?_toArray,List.getElem?_cons_zero,List.getElem?_cons_succ,H_eta,isTuple,cells_int,cells_bool,cells_slice,cells_ptr,cells_agg,put_one,dopX.f,dopX.t,kept_zero,Nat.add_zero,ge_iff_le,gt_iff_lt,Ops.callvV,callvV.mk,List.nil_append,List.cons_append,List.append_nil,List.toList_toArray,Option.map_none,optNat_n,optNat_s,H.up_zero,gateV.und,dgateV.und,Dps.callvV,dcallvV.mk,Ops.invV,invV.mk,findV.mk, c29_2, ld_blk o.r.gp, nv, pv, o.r.ldp pv, epi]
    by_cases hw : q.pi v < 0
    · have hv1 : q.pi v = -1 := by rcases o.p.of v hr.1 (by omega) with h | h; exact h; omega
      have hroom := room o.i o.p hr.1 (by omega) hv1
      have hJ : q.J ≠ [] := fun e => by rw [e] at hcap; simp at hcap; omega
      have hJl : 0 < q.J.length := List.length_pos_iff.2 hJ
      simp only [At.skip,At.reg,At.regDu,At.seq,At.cond,At.block,At.exit,At.ret,On.nil,On.seq,On.seqE,On.seqR,On.out,On.outR,On.outE,condV.t,condV.f,Ops.nil,Ops.op,Ops.call,opV.mk,Ops.gate,gateV.tt,gateV.ff,gateV.tf,gateV.ft,gateV.un,Dps.nil,Dps.newSl,Dps.op,Dps.call,Dps.gate,dopV.mk,dopV.new,dgateV.tt,dgateV.ff,dgateV.tf,dgateV.ft,dgateV.un,Go.Ae.I.isLoad,resQ.r,resQ.n,stepQ.n,stepQ.e,stepQ.r,set_some,set_none,of_nil,of_cons,rho_tmp,rho_const,rho_func,g_put,g_nil,evI,Ae.bin,binI,Ae.un,nilEq,lenOf,if_true,if_false,Nat.reduceEqDiff,Nat.reduceAdd,Nat.zero_add,reduceIte,List.map_cons,List.map_nil,Option.map_some,Option.bind_some,evRs,evR,one,Option.some.injEq,exists_eq_left',exists_eq_left,List.all_nil,reduceCtorEq,true_and,and_true,parts',fill_int,fill_bool,fill_slice,fill_ptr,fill_nil,reps_one,List.replicate,List.length_cons,List.length_nil,Nat.reduceLeDiff,List.set_cons_zero,List.set_cons_succ,List.length_set,List.length_replicate,adr,Nat.mul_one,decide_true,decide_false,Int.reduceBEq,Int.reduceBNe,Int.reduceLT,Int.reduceLE,Int.reduceNeg,beq_self_eq_true,bne_self_eq_false,Bool.not_true,Bool.not_false,cast_zero,cast_one,List.size_toArray,List.getElem?_toArray,List.getElem?_cons_zero,List.getElem?_cons_succ,H_eta,isTuple,cells_int,cells_bool,cells_slice,cells_ptr,cells_agg,put_one,dopX.f,dopX.t,kept_zero,Nat.add_zero,ge_iff_le,gt_iff_lt,Ops.callvV,callvV.mk,List.nil_append,List.cons_append,List.append_nil,List.toList_toArray,Option.map_none,optNat_n,optNat_s,H.up_zero,gateV.und,dgateV.und,Dps.callvV,dcallvV.mk,Ops.invV,invV.mk,findV.mk, hw, c29_3]
      refine callV.of (hpush_ok o k.hp hr.1 (by omega) hv1 hJ (by omega)) fun e h3 hw => ?_
      obtain ⟨q', o', f', s', hp'⟩ := hw
      have hll : q'.L.length = q.L.length + 1 := by rw [s'.ll]; simp [QS.push]
      have hS : q'.S = q.S := s'.s
      have hT : q'.step = q.step := s'.st
      have hsc : q'.sc = q.sc := s'.sc
      have hpl : q'.P.length = q.P.length := by rw [s'.pl]; simp [QS.push]
      have hjj : q'.J.length = q.J.length - 1 := by rw [s'.j]; simp [QS.push]
      simp only [At.skip,At.reg,At.regDu,At.seq,At.cond,At.block,At.exit,At.ret,On.nil,On.seq,On.seqE,On.seqR,On.out,On.outR,On.outE,condV.t,condV.f,Ops.nil,Ops.op,Ops.call,opV.mk,Ops.gate,gateV.tt,gateV.ff,gateV.tf,gateV.ft,gateV.un,Dps.nil,Dps.newSl,Dps.op,Dps.call,Dps.gate,dopV.mk,dopV.new,dgateV.tt,dgateV.ff,dgateV.tf,dgateV.ft,dgateV.un,Go.Ae.I.isLoad,resQ.r,resQ.n,stepQ.n,stepQ.e,stepQ.r,set_some,set_none,of_nil,of_cons,rho_tmp,rho_const,rho_func,g_put,g_nil,evI,Ae.bin,binI,Ae.un,nilEq,lenOf,if_true,if_false,Nat.reduceEqDiff,Nat.reduceAdd,Nat.zero_add,reduceIte,List.map_cons,List.map_nil,Option.map_some,Option.bind_some,evRs,evR,one,Option.some.injEq,exists_eq_left',exists_eq_left,List.all_nil,reduceCtorEq,true_and,and_true,parts',fill_int,fill_bool,fill_slice,fill_ptr,fill_nil,reps_one,List.replicate,List.length_cons,List.length_nil,Nat.reduceLeDiff,List.set_cons_zero,List.set_cons_succ,List.length_set,List.length_replicate,adr,Nat.mul_one,decide_true,decide_false,Int.reduceBEq,Int.reduceBNe,Int.reduceLT,Int.reduceLE,Int.reduceNeg,beq_self_eq_true,bne_self_eq_false,Bool.not_true,Bool.not_false,cast_zero,cast_one,List.size_toArray,List.getElem?_toArray,List.getElem?_cons_zero,List.getElem?_cons_succ,H_eta,isTuple,cells_int,cells_bool,cells_slice,cells_ptr,cells_agg,put_one,dopX.f,dopX.t,kept_zero,Nat.add_zero,ge_iff_le,gt_iff_lt,Ops.callvV,callvV.mk,List.nil_append,List.cons_append,List.append_nil,List.toList_toArray,Option.map_none,optNat_n,optNat_s,H.up_zero,gateV.und,dgateV.und,Dps.callvV,dcallvV.mk,Ops.invV,invV.mk,findV.mk, c29_4]
      refine q1 hr.1 hr.2 _ q' ⟨o', by rw [hsc, hll]; exact hp', by rw [hS]; exact k.sb, by rw [hT]; exact hst⟩ f' ⟨hpl, hS, hT, by omega, fun a a1 a2 => ?_⟩
      rw [s'.wt a a1 (by simp [QS.push]; exact a2), push_pi hr.1 (by omega) a1 a2]
      split
      · rename_i e; simp [e]
      · rename_i e; simp [e]
    · simp only [At.skip,At.reg,At.regDu,At.seq,At.cond,At.block,At.exit,At.ret,On.nil,On.seq,On.seqE,On.seqR,On.out,On.outR,On.outE,condV.t,condV.f,Ops.nil,Ops.op,Ops.call,opV.mk,Ops.gate,gateV.tt,gateV.ff,gateV.tf,gateV.ft,gateV.un,Dps.nil,Dps.newSl,Dps.op,Dps.call,Dps.gate,dopV.mk,dopV.new,dgateV.tt,dgateV.ff,dgateV.tf,dgateV.ft,dgateV.un,Go.Ae.I.isLoad,resQ.r,resQ.n,stepQ.n,stepQ.e,stepQ.r,set_some,set_none,of_nil,of_cons,rho_tmp,rho_const,rho_func,g_put,g_nil,evI,Ae.bin,binI,Ae.un,nilEq,lenOf,if_true,if_false,Nat.reduceEqDiff,Nat.reduceAdd,Nat.zero_add,reduceIte,List.map_cons,List.map_nil,Option.map_some,Option.bind_some,evRs,evR,one,Option.some.injEq,exists_eq_left',exists_eq_left,List.all_nil,reduceCtorEq,true_and,and_true,parts',fill_int,fill_bool,fill_slice,fill_ptr,fill_nil,reps_one,List.replicate,List.length_cons,List.length_nil,Nat.reduceLeDiff,List.set_cons_zero,List.set_cons_succ,List.length_set,List.length_replicate,adr,Nat.mul_one,decide_true,decide_false,Int.reduceBEq,Int.reduceBNe,Int.reduceLT,Int.reduceLE,Int.reduceNeg,beq_self_eq_true,bne_self_eq_false,Bool.not_true,Bool.not_false,cast_zero,cast_one,List.size_toArray,List.getElem?_toArray,List.getElem?_cons_zero,List.getElem?_cons_succ,H_eta,isTuple,cells_int,cells_bool,cells_slice,cells_ptr,cells_agg,put_one,dopX.f,dopX.t,kept_zero,Nat.add_zero,ge_iff_le,gt_iff_lt,Ops.callvV,callvV.mk,List.nil_append,List.cons_append,List.append_nil,List.toList_toArray,Option.map_none,optNat_n,optNat_s,H.up_zero,gateV.und,dgateV.und,Dps.callvV,dcallvV.mk,Ops.invV,invV.mk,findV.mk, hw, c29_4]
      refine q1 hr.1 hr.2 _ q k (Fq.refl _ _) ⟨rfl, rfl, rfl, rfl, fun a _ _ => ⟨.inr, fun h => h.elim (fun e => by rw [e]; omega) id⟩⟩
  · rw [if_neg hr]
    simp only [At.skip,At.reg,At.regDu,At.seq,At.cond,At.block,At.exit,At.ret,On.nil,On.seq,On.seqE,On.seqR,On.out,On.outR,On.outE,condV.t,condV.f,Ops.nil,Ops.op,Ops.call,opV.mk,Ops.gate,gateV.tt,gateV.ff,gateV.tf,gateV.ft,gateV.un,Dps.nil,Dps.newSl,Dps.op,Dps.call,Dps.gate,dopV.mk,dopV.new,dgateV.tt,dgateV.ff,dgateV.tf,dgateV.ft,dgateV.un,Go.Ae.I.isLoad,resQ.r,resQ.n,stepQ.n,stepQ.e,stepQ.r,set_some,set_none,of_nil,of_cons,rho_tmp,rho_const,rho_func,g_put,g_nil,evI,Ae.bin,binI,Ae.un,nilEq,lenOf,if_true,if_false,Nat.reduceEqDiff,Nat.reduceAdd,Nat.zero_add,reduceIte,List.map_cons,List.map_nil,Option.map_some,Option.bind_some,evRs,evR,one,Option.some.injEq,exists_eq_left',exists_eq_left,List.all_nil,reduceCtorEq,true_and,and_true,parts',fill_int,fill_bool,fill_slice,fill_ptr,fill_nil,reps_one,List.replicate,List.length_cons,List.length_nil,Nat.reduceLeDiff,List.set_cons_zero,List.set_cons_succ,List.length_set,List.length_replicate,adr,Nat.mul_one,decide_true,decide_false,Int.reduceBEq,Int.reduceBNe,Int.reduceLT,Int.reduceLE,Int.reduceNeg,beq_self_eq_true,bne_self_eq_false,Bool.not_true,Bool.not_false,cast_zero,cast_one,List.size_toArray,List.getElem?_toArray,List.getElem?_cons_zero,List.getElem?_cons_succ,H_eta,isTuple,cells_int,cells_bool,cells_slice,cells_ptr,cells_agg,put_one,dopX.f,dopX.t,kept_zero,Nat.add_zero,ge_iff_le,gt_iff_lt,Ops.callvV,callvV.mk,List.nil_append,List.cons_append,List.append_nil,List.toList_toArray,Option.map_none,optNat_n,optNat_s,H.up_zero,gateV.und,dgateV.und,Dps.callvV,dcallvV.mk,Ops.invV,invV.mk,findV.mk, c29_2, c29_4]
    exact q0 hr
end Go.Proofs.Ytnejnaoehcahbaa.q
