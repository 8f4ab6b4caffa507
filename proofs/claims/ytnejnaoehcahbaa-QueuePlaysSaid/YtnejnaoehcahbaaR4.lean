/-
  The document's queue: new.
-/
import Derived.Test.YtnejnaoehcahbaaAeInv
import Derived.Test.YtnejnaoehcahbaaR3
namespace Go.Proofs.Ytnejnaoehcahbaa.q
open Go Go.Ae
set_option linter.unusedSimpArgs false

/-- Two rows that grow behind one address. -/
structure G2 (n p : Nat) (h0 h : H) (S : List Int) (W : List Bool) : Prop where
  ex : ∃ sv wv, h.get p = some ⟨[sv, wv, .int .u64 1], false⟩ ∧ Acc n h sv (u64s S) ∧ Acc n h wv (bools W) ∧ blkOf sv ≠ some p ∧ blkOf wv ≠ some p ∧ (∀ i, blkOf sv = some i → blkOf wv ≠ some i) ∧ (S ≠ [] → ∃ x, n ≤ x ∧ x < h.next ∧ x ≠ p ∧ blkOf sv ≠ some x ∧ blkOf wv ≠ some x)
  lp : p < h.next
  np : n ≤ p
  nx : n ≤ h.next
  old : ∀ i, i < n → h.get i = h0.get i

def RNewQ (V : Nat) (b : RB) (h0 h : H) (r : RS) : Prop :=
  RR b h r ∧ r.S = List.replicate (V + 1) 0 ∧ r.step = 1 ∧ r.W = false :: List.replicate V true ∧ h0.next ≤ b.p ∧ h0.next ≤ b.bs ∧ h0.next ≤ b.bw ∧ Ext h0.next h0 h ∧ ∃ x, h0.next ≤ x ∧ x < h.next ∧ x ≠ b.p ∧ x ≠ b.bs ∧ x ≠ b.bw

def rS (i : Nat) : List Int := List.replicate i 0
def rW (i : Nat) : List Bool := (List.range i).map fun j => decide (0 < j)
theorem rS_succ (i : Nat) : rS i ++ [0] = rS (i + 1) := by unfold rS; rw [List.replicate_succ', ]
theorem rW_succ (i : Nat) : rW i ++ [decide (0 < i)] = rW (i + 1) := by unfold rW; rw [List.range_succ, List.map_append]; rfl
theorem rW_len (i : Nat) : (rW i).length = i := by simp [rW]
theorem rS_len (i : Nat) : (rS i).length = i := by simp [rS]
theorem rW_all (V : Nat) : rW (V + 1) = false :: List.replicate V true := by
  refine List.ext_getElem (by simp [rW]) fun i h1 h2 => ?_
  cases i with
  | zero => simp [rW]
  | succ i => simp [rW]

theorem app_next {h h' : H} {sz bytes : Nat} {x y v' : Value} (e : Ae.app h sz bytes x y = some (v', h')) : h.next ≤ h'.next := by
  unfold Ae.app at e
  split at e
  · rename_i base len cap n _
    split at e
    · split at e
      · cases e; exact Nat.le_refl _
      · cases e
    · rw [Option.bind_eq_some_iff] at e
      obtain ⟨new, _, e⟩ := e
      split at e
      · split at e
        · rw [Option.map_eq_some_iff] at e
          obtain ⟨h2, e2, e⟩ := e
          cases e
          unfold H.sts at e2
          rw [Option.bind_eq_some_iff] at e2
          obtain ⟨k, _, e2⟩ := e2
          split at e2
          · cases e2; exact Nat.le_refl _
          · cases e2
        · cases e
      · split at e
        · rw [Option.bind_eq_some_iff] at e
          obtain ⟨old, _, e⟩ := e
          split at e
          · rw [Option.bind_eq_some_iff] at e
            obtain ⟨k, _, e⟩ := e
            split at e
            · cases e; exact Nat.le_succ _
            · cases e
          · cases e; exact Nat.le_succ _
        · cases e
  · cases e

inductive RNewInv (p V : Nat) (h0 : H) : Nat → Tm → H → Prop
  | mk {T : Tm} {h : H} (i : Nat) (hi : i ≤ V + 1) (w : G2 h0.next p h0 h (rS i) (rW i)) (g0 : g T 0 = int V) (g4 : g T 4 = .pointer (some ⟨p, 0, none⟩)) (g5 : g T 5 = int i) : RNewInv p V h0 (V + 1 - i) T h

set_option maxHeartbeats 8000000 in
theorem rnew_ok {vars : Int} {h : H} : AF E 19 [int vars] h fun v h' =>
    ((vars < 0 ∨ 4194304 < vars) ∧ v = .tuple #[.pointer none, int 2] ∧ h' = h) ∨ (0 ≤ vars ∧ vars ≤ 4194304 ∧ ∃ b r, v = .tuple #[rv b, int 0] ∧ RNewQ vars.toNat b h h' r) := by
  suffices key : ∀ Q : Value → H → Prop, (vars < 0 ∨ 4194304 < vars → Q (.tuple #[.pointer none, int 2]) h) → (0 ≤ vars → vars ≤ 4194304 → ∀ b r h', RNewQ vars.toNat b h h' r → Q (.tuple #[rv b, int 0]) h') → AF E 19 [int vars] h Q from
    key _ (fun a => .inl ⟨a, rfl, rfl⟩) fun a1 a2 b r h' a3 => .inr ⟨a1, a2, b, r, rfl, a3⟩
  intro Q q0 q1
  refine AF.walk (E_fn comp19) (E_spec (by decide) _ _) ?_
  simp only [At.skip,At.reg,At.regDu,At.seq,At.cond,At.block,At.exit,At.ret,On.nil,On.seq,On.seqE,On.seqR,On.out,On.outR,On.outE,condV.t,condV.f,Ops.nil,Ops.op,Ops.call,opV.mk,Ops.gate,gateV.tt,gateV.ff,gateV.tf,gateV.ft,gateV.un,Dps.nil,Dps.newSl,Dps.op,Dps.call,Dps.gate,dopV.mk,dopV.new,dgateV.tt,dgateV.ff,dgateV.tf,dgateV.ft,dgateV.un,Go.Ae.I.isLoad,resQ.r,resQ.n,stepQ.n,stepQ.e,stepQ.r,set_some,set_none,of_nil,of_cons,rho_tmp,rho_const,rho_func,g_put,g_nil,evI,Ae.bin,binI,Ae.un,nilEq,lenOf,if_true,if_false,Nat.reduceEqDiff,Nat.reduceAdd,Nat.zero_add,reduceIte,List.map_cons,List.map_nil,Option.map_some,Option.bind_some,evRs,evR,one,Option.some.injEq,exists_eq_left',exists_eq_left,List.all_nil,reduceCtorEq,true_and,and_true,parts',fill_int,fill_bool,fill_slice,fill_ptr,fill_nil,reps_one,List.replicate,List.length_cons,List.length_nil,Nat.reduceLeDiff,List.set_cons_zero,List.set_cons_succ,List.length_set,List.length_replicate,adr,Nat.mul_one,decide_true,decide_false,Int.reduceBEq,Int.reduceBNe,Int.reduceLT,Int.reduceLE,Int.reduceNeg,beq_self_eq_true,bne_self_eq_false,Bool.not_true,Bool.not_false,cast_zero,cast_one,List.size_toArray,List.getElem?_toArray,List.getElem?_cons_zero,List.getElem?_cons_succ,H_eta,isTuple,cells_int,cells_bool,cells_slice,cells_ptr,cells_agg,put_one,dopX.f,dopX.t,kept_zero,Nat.add_zero,ge_iff_le,gt_iff_lt,Ops.callvV,callvV.mk,List.nil_append,List.cons_append,List.append_nil,List.toList_toArray,Option.map_none,optNat_n,optNat_s,H.up_zero,gateV.und,dgateV.und,Dps.callvV,dcallvV.mk,Ops.invV,invV.mk,findV.mk, c19, c19_0]
  by_cases b1 : vars < 0
  · simp only [At.skip,At.reg,At.regDu,At.seq,At.cond,At.block,At.exit,At.ret,On.nil,On.seq,On.seqE,On.seqR,On.out,On.outR,On.outE,condV.t,condV.f,Ops.nil,Ops.op,Ops.call,opV.mk,Ops.gate,gateV.tt,gateV.ff,gateV.tf,gateV.ft,gateV.un,Dps.nil,Dps.newSl,Dps.op,Dps.call,Dps.gate,dopV.mk,dopV.new,dgateV.tt,dgateV.ff,dgateV.tf,dgateV.ft,dgateV.un,Go.Ae.I.isLoad,resQ.r,resQ.n,stepQ.n,stepQ.e,stepQ.r,set_some,set_none,of_nil,of_cons,rho_tmp,rho_const,rho_func,g_put,g_nil,evI,Ae.bin,binI,Ae.un,nilEq,lenOf,if_true,if_false,Nat.reduceEqDiff,Nat.reduceAdd,Nat.zero_add,reduceIte,List.map_cons,List.map_nil,Option.map_some,Option.bind_some,evRs,evR,one,Option.some.injEq,exists_eq_left',exists_eq_left,List.all_nil,reduceCtorEq,true_and,and_true,parts',fill_int,fill_bool,fill_slice,fill_ptr,fill_nil,reps_one,List.replicate,List.length_cons,List.length_nil,Nat.reduceLeDiff,List.set_cons_zero,List.set_cons_succ,List.length_set,List.length_replicate,adr,Nat.mul_one,decide_true,decide_false,Int.reduceBEq,Int.reduceBNe,Int.reduceLT,Int.reduceLE,Int.reduceNeg,beq_self_eq_true,bne_self_eq_false,Bool.not_true,Bool.not_false,cast_zero,cast_one,List.size_toArray,List.getElem?_toArray,List.getElem?_cons_zero,List.getElem?_cons_succ,H_eta,isTuple,cells_int,cells_bool,cells_slice,cells_ptr,cells_agg,put_one,dopX.f,dopX.t,kept_zero,Nat.add_zero,ge_iff_le,gt_iff_lt,Ops.callvV,callvV.mk,List.nil_append,List.cons_append,List.append_nil,List.toList_toArray,Option.map_none,optNat_n,optNat_s,H.up_zero,gateV.und,dgateV.und,Dps.callvV,dcallvV.mk,Ops.invV,invV.mk,findV.mk, c19_1, b1, c19_2]
    exact q0 (.inl b1)
  by_cases b2 : 4194304 < vars
  · simp only [At.skip,At.reg,At.regDu,At.seq,At.cond,At.block,At.exit,At.ret,On.nil,On.seq,On.seqE,On.seqR,On.out,On.outR,On.outE,condV.t,condV.f,Ops.nil,Ops.op,Ops.call,opV.mk,Ops.gate,gateV.tt,gateV.ff,gateV.tf,gateV.ft,gateV.un,Dps.nil,Dps.newSl,Dps.op,Dps.call,Dps.gate,dopV.mk,dopV.new,dgateV.tt,dgateV.ff,dgateV.tf,dgateV.ft,dgateV.un,Go.Ae.I.isLoad,resQ.r,resQ.n,stepQ.n,stepQ.e,stepQ.r,set_some,set_none,of_nil,of_cons,rho_tmp,rho_const,rho_func,g_put,g_nil,evI,Ae.bin,binI,Ae.un,nilEq,lenOf,if_true,if_false,Nat.reduceEqDiff,Nat.reduceAdd,Nat.zero_add,reduceIte,List.map_cons,List.map_nil,Option.map_some,Option.bind_some,evRs,evR,one,Option.some.injEq,exists_eq_left',exists_eq_left,List.all_nil,reduceCtorEq,true_and,and_true,parts',fill_int,fill_bool,fill_slice,fill_ptr,fill_nil,reps_one,List.replicate,List.length_cons,List.length_nil,Nat.reduceLeDiff,List.set_cons_zero,List.set_cons_succ,List.length_set,List.length_replicate,adr,Nat.mul_one,decide_true,decide_false,Int.reduceBEq,Int.reduceBNe,Int.reduceLT,Int.reduceLE,Int.reduceNeg,beq_self_eq_true,bne_self_eq_false,Bool.not_true,Bool.not_false,cast_zero,cast_one,List.size_toArray,List.getElem?_toArray,List.getElem?_cons_zero,List.getElem?_cons_succ,H_eta,isTuple,cells_int,cells_bool,cells_slice,cells_ptr,cells_agg,put_one,dopX.f,dopX.t,kept_zero,Nat.add_zero,ge_iff_le,gt_iff_lt,Ops.callvV,callvV.mk,List.nil_append,List.cons_append,List.append_nil,List.toList_toArray,Option.map_none,optNat_n,optNat_s,H.up_zero,gateV.und,dgateV.und,Dps.callvV,dcallvV.mk,Ops.invV,invV.mk,findV.mk, c19_1, b1, b2, c19_2]
    exact q0 (.inr b2)
  obtain ⟨V, hV⟩ : ∃ V : Nat, vars = V := ⟨vars.toNat, by omega⟩
  subst hV
  simp only [At.skip,At.reg,At.regDu,At.seq,At.cond,At.block,At.exit,At.ret,On.nil,On.seq,On.seqE,On.seqR,On.out,On.outR,On.outE,condV.t,condV.f,Ops.nil,Ops.op,Ops.call,opV.mk,Ops.gate,gateV.tt,gateV.ff,gateV.tf,gateV.ft,gateV.un,Dps.nil,Dps.newSl,Dps.op,Dps.call,Dps.gate,dopV.mk,dopV.new,dgateV.tt,dgateV.ff,dgateV.tf,dgateV.ft,dgateV.un,Go.Ae.I.isLoad,resQ.r,resQ.n,stepQ.n,stepQ.e,stepQ.r,set_some,set_none,of_nil,of_cons,rho_tmp,rho_const,rho_func,g_put,g_nil,evI,Ae.bin,binI,Ae.un,nilEq,lenOf,if_true,if_false,Nat.reduceEqDiff,Nat.reduceAdd,Nat.zero_add,reduceIte,List.map_cons,List.map_nil,Option.map_some,Option.bind_some,evRs,evR,one,Option.some.injEq,exists_eq_left',exists_eq_left,List.all_nil,reduceCtorEq,true_and,and_true,parts',fill_int,fill_bool,fill_slice,fill_ptr,fill_nil,reps_one,List.replicate,List.length_cons,List.length_nil,Nat.reduceLeDiff,List.set_cons_zero,List.set_cons_succ,List.length_set,List.length_replicate,adr,Nat.mul_one,decide_true,decide_false,Int.reduceBEq,Int.reduceBNe,Int.reduceLT,Int.reduceLE,Int.reduceNeg,beq_self_eq_true,bne_self_eq_false,Bool.not_true,Bool.not_false,cast_zero,cast_one,List.size_toArray,List.getElem?_toArray,List.getElem?_cons_zero,List.getElem?_cons_succ,H_eta,isTuple,cells_int,cells_bool,cells_slice,cells_ptr,cells_agg,put_one,dopX.f,dopX.t,kept_zero,Nat.add_zero,ge_iff_le,gt_iff_lt,Ops.callvV,callvV.mk,List.nil_append,List.cons_append,List.append_nil,List.toList_toArray,Option.map_none,optNat_n,optNat_s,H.up_zero,gateV.und,dgateV.und,Dps.callvV,dcallvV.mk,Ops.invV,invV.mk,findV.mk, c19_1, b1, b2, c19_3, c19_4]
  refine At.loop (RNewInv h.next V h) ?_ (V + 1) ?_
  · rintro w T h1 ⟨i, hi, w, g0, g4, g5⟩
    simp only [At.skip,At.reg,At.regDu,At.seq,At.cond,At.block,At.exit,At.ret,On.nil,On.seq,On.seqE,On.seqR,On.out,On.outR,On.outE,condV.t,condV.f,Ops.nil,Ops.op,Ops.call,opV.mk,Ops.gate,gateV.tt,gateV.ff,gateV.tf,gateV.ft,gateV.un,Dps.nil,Dps.newSl,Dps.op,Dps.call,Dps.gate,dopV.mk,dopV.new,dgateV.tt,dgateV.ff,dgateV.tf,dgateV.ft,dgateV.un,Go.Ae.I.isLoad,resQ.r,resQ.n,stepQ.n,stepQ.e,stepQ.r,set_some,set_none,of_nil,of_cons,rho_tmp,rho_const,rho_func,g_put,g_nil,evI,Ae.bin,binI,Ae.un,nilEq,lenOf,if_true,if_false,Nat.reduceEqDiff,Nat.reduceAdd,Nat.zero_add,reduceIte,List.map_cons,List.map_nil,Option.map_some,Option.bind_some,evRs,evR,one,Option.some.injEq,exists_eq_left',exists_eq_left,List.all_nil,reduceCtorEq,true_and,and_true,parts',fill_int,fill_bool,fill_slice,fill_ptr,fill_nil,reps_one,List.replicate,List.length_cons,List.length_nil,Nat.reduceLeDiff,List.set_cons_zero,List.set_cons_succ,List.length_set,List.length_replicate,adr,Nat.mul_one,decide_true,decide_false,Int.reduceBEq,Int.reduceBNe,Int.reduceLT,Int.reduceLE,Int.reduceNeg,beq_self_eq_true,bne_self_eq_false,Bool.not_true,Bool.not_false,cast_zero,cast_one,List.size_toArray,List.getElem?_toArray,List.getElem?_cons_zero,List.getElem?_cons_succ,H_eta,isTuple,cells_int,cells_bool,cells_slice,cells_ptr,cells_agg,put_one,dopX.f,dopX.t,kept_zero,Nat.add_zero,ge_iff_le,gt_iff_lt,Ops.callvV,callvV.mk,List.nil_append,List.cons_append,List.append_nil,List.toList_toArray,Option.map_none,optNat_n,optNat_s,H.up_zero,gateV.und,dgateV.und,Dps.callvV,dcallvV.mk,Ops.invV,invV.mk,findV.mk, c19_5, g0, g5]
    by_cases hle : (i : Int) ≤ (V : Int)
    · have wi : IntKind.i64.wrap ((i : Int) + 1) = ((i + 1 : Nat) : Int) := by rw [wrap_id (by omega) (by omega)]; omega
      obtain ⟨sv, wv, gp, a, c, ne1, ne2, ne3, ne4⟩ := w.ex
      have nx := w.nx
      have lp := w.lp
      have hnp := w.np
      -- the scores
      obtain ⟨sv', h2, e2, a2, x2, k2⟩ := a.app1 (x := .int .u64 0) (bytes := 8) nx rfl (by simp [rS_len]; omega)
      have x21 := x2.1
      have eb2 : ∀ i, blkOf sv' = some i → blkOf sv = some i ∨ h1.next + 1 ≤ i := fun i hi => app_blk e2 hi
      obtain ⟨ua, um, hu⟩ := a2.rd.len
      have gp2 : h2.get h.next = some ⟨[sv, wv, .int .u64 1], false⟩ := (k2 _ lp ne1).trans gp
      have hone : sv'.oneCell' = true := by rw [hu]; rfl
      have st2 : h2.sts h.next 0 [sv'] = some (h2.set h.next (some ⟨[sv', wv, .int .u64 1], false⟩)) := sts_of gp2 rfl (by simp) (by simp [hone])
      have c2 : Acc h.next h2 wv (bools (rW i)) := c.keep (by have := x2.1; omega) fun j hj => k2 j (c.old j hj) fun e => ne3 j e hj
      have n2 : blkOf sv' ≠ some h.next := fun e => (eb2 _ e).elim ne1 fun h => by omega
      have n23 : ∀ i, blkOf sv' = some i → blkOf wv ≠ some i := fun i hi hw => (eb2 i hi).elim (fun e => ne3 i e hw) fun e => by have := c.old i hw; omega
      generalize hh3 : h2.set h.next (some ⟨[sv', wv, .int .u64 1], false⟩) = h3 at st2
      have nx3 : h3.next = h2.next := by rw [← hh3]; rfl
      have o3 : ∀ j, j ≠ h.next → h3.get j = h2.get j := fun j hj => by rw [← hh3, H.get_set, if_neg hj]
      have gp3 : h3.get h.next = some ⟨[sv', wv, .int .u64 1], false⟩ := by rw [← hh3, H.get_set, if_pos rfl]
      have a3 : Acc h.next h3 sv' (u64s (rS i) ++ [.int .u64 0]) := a2.keep (by omega) fun j hj => o3 j fun e => n2 (by rw [← e]; exact hj)
      have c3 : Acc h.next h3 wv (bools (rW i)) := c2.keep (by omega) fun j hj => o3 j fun e => ne2 (by rw [← e]; exact hj)
      -- who waits
      obtain ⟨wv', h4, e4, a4, x4, k4⟩ := c3.app1 (x := .bool (decide ((0 : Int) < i))) (bytes := 1) (by omega) rfl (by simp [rW_len]; omega)
      have eb4 : ∀ i, blkOf wv' = some i → blkOf wv = some i ∨ h3.next + 1 ≤ i := fun i hi => app_blk e4 hi
      obtain ⟨va, vm, hv⟩ := a4.rd.len
      have lp3 : h.next < h3.next := by have := x2.1; omega
      have gp4 : h4.get h.next = some ⟨[sv', wv, .int .u64 1], false⟩ := (k4 _ lp3 ne2).trans gp3
      have hone4 : wv'.oneCell' = true := by rw [hv]; rfl
      have st4 : h4.sts h.next 1 [wv'] = some (h4.set h.next (some ⟨[sv', wv', .int .u64 1], false⟩)) := sts_of gp4 rfl (by simp) (by simp [hone4])
      have a4' : Acc h.next h4 sv' (u64s (rS i) ++ [.int .u64 0]) := a3.keep (by have := x4.1; omega) fun j hj => k4 j (a3.old j hj) fun e => n23 j hj e
      have n4 : blkOf wv' ≠ some h.next := fun e => (eb4 _ e).elim ne2 fun h => by omega
      have n43 : ∀ i, blkOf sv' = some i → blkOf wv' ≠ some i := fun i hi hw => (eb4 i hw).elim (n23 i hi) fun e => by have := a3.old i hi; omega
      generalize hh5 : h4.set h.next (some ⟨[sv', wv', .int .u64 1], false⟩) = h5 at st4
      have nx5 : h5.next = h4.next := by rw [← hh5]; rfl
      have o5 : ∀ j, j ≠ h.next → h5.get j = h4.get j := fun j hj => by rw [← hh5, H.get_set, if_neg hj]
      have gp5 : h5.get h.next = some ⟨[sv', wv', .int .u64 1], false⟩ := by rw [← hh5, H.get_set, if_pos rfl]
      have a5 : Acc h.next h5 sv' (u64s (rS i) ++ [.int .u64 0]) := a4'.keep (by omega) fun j hj => o5 j fun e => n2 (by rw [← e]; exact hj)
      have c5 : Acc h.next h5 wv' (bools (rW i) ++ [.bool (decide ((0 : Int) < i))]) := a4.keep (by omega) fun j hj => o5 j fun e => n4 (by rw [← e]; exact hj)
      have es : u64s (rS i) ++ [.int .u64 0] = u64s (rS (i + 1)) := by rw [← rS_succ]; simp [u64s]
      have ew : bools (rW i) ++ [.bool (decide ((0 : Int) < i))] = bools (rW (i + 1)) := by
        rw [← rW_succ, show decide ((0 : Int) < i) = decide (0 < i) by rw [decide_eq_decide]; omega]; simp [bools]
      rw [es] at a5
      rw [ew] at c5
      have w5 : G2 h.next h.next h h5 (rS (i + 1)) (rW (i + 1)) := ⟨⟨sv', wv', gp5, a5, c5, n2, n4, n43, fun _ => ⟨h1.next, nx, by have := x4.1; have h12 : h1.next + 1 ≤ h2.next := app_next e2; omega, by omega, fun e => (eb2 _ e).elim (fun e => Nat.lt_irrefl _ (a.old _ e)) fun e => by omega, fun e => (eb4 _ e).elim (fun e => Nat.lt_irrefl _ (c.old _ e)) fun e => by omega⟩⟩, by have := x4.1; omega, Nat.le_refl _, by have := x4.1; have := x2.1; omega, fun j hj => by
        rw [o5 j (by omega), x4.2 j hj, o3 j (by omega), x2.2 j hj, w.old j hj]⟩
      simp only [At.skip,At.reg,At.regDu,At.seq,At.cond,At.block,At.exit,At.ret,On.nil,On.seq,On.seqE,On.seqR,On.out,On.outR,On.outE,condV.t,condV.f,Ops.nil,Ops.op,Ops.call,opV.mk,Ops.gate,gateV.tt,gateV.ff,gateV.tf,gateV.ft,gateV.un,Dps.nil,Dps.newSl,Dps.op,Dps.call,Dps.gate,dopV.mk,dopV.new,dgateV.tt,dgateV.ff,dgateV.tf,dgateV.ft,dgateV.un,Go.Ae.I.isLoad,resQ.r,resQ.n,stepQ.n,stepQ.e,stepQ.r,set_some,set_none,of_nil,of_cons,rho_tmp,rho_const,rho_func,g_put,g_nil,evI,Ae.bin,binI,Ae.un,nilEq,lenOf,if_true,if_false,Nat.reduceEqDiff,Nat.reduceAdd,Nat.zero_add,reduceIte,List.map_cons,List.map_nil,Option.map_some,Option.bind_some,evRs,evR,one,Option.some.injEq,exists_eq_left',exists_eq_left,List.all_nil,reduceCtorEq,true_and,and_true,parts',fill_int,fill_bool,fill_slice,fill_ptr,fill_nil,reps_one,List.replicate,List.length_cons,List.length_nil,Nat.reduceLeDiff,List.set_cons_zero,List.set_cons_succ,List.length_set,List.length_replicate,adr,Nat.mul_one,decide_true,decide_false,Int.reduceBEq,Int.reduceBNe,Int.reduceLT,Int.reduceLE,Int.reduceNeg,beq_self_eq_true,bne_self_eq_false,Bool.not_true,Bool.not_false,cast_zero,cast_one,List.size_toArray,List.getElem?_toArray,List.getElem?_cons_zero,List.getElem?_cons_succ,H_eta,isTuple,cells_int,cells_bool,cells_slice,cells_ptr,cells_agg,put_one,dopX.f,dopX.t,kept_zero,Nat.add_zero,ge_iff_le,gt_iff_lt,Ops.callvV,callvV.mk,List.nil_append,List.cons_append,List.append_nil,List.toList_toArray,Option.map_none,optNat_n,optNat_s,H.up_zero,gateV.und,dgateV.und,Dps.callvV,dcallvV.mk,Ops.invV,invV.mk,findV.mk, hle, c19_6, g4, ld_blk gp, e2]
      rw [hu] at st2 gp3 ⊢
      simp only [At.skip,At.reg,At.regDu,At.seq,At.cond,At.block,At.exit,At.ret,On.nil,On.seq,On.seqE,On.seqR,On.out,On.outR,On.outE,condV.t,condV.f,Ops.nil,Ops.op,Ops.call,opV.mk,Ops.gate,gateV.tt,gateV.ff,gateV.tf,gateV.ft,gateV.un,Dps.nil,Dps.newSl,Dps.op,Dps.call,Dps.gate,dopV.mk,dopV.new,dgateV.tt,dgateV.ff,dgateV.tf,dgateV.ft,dgateV.un,Go.Ae.I.isLoad,resQ.r,resQ.n,stepQ.n,stepQ.e,stepQ.r,set_some,set_none,of_nil,of_cons,rho_tmp,rho_const,rho_func,g_put,g_nil,evI,Ae.bin,binI,Ae.un,nilEq,lenOf,if_true,if_false,Nat.reduceEqDiff,Nat.reduceAdd,Nat.zero_add,reduceIte,List.map_cons,List.map_nil,Option.map_some,Option.bind_some,evRs,evR,one,Option.some.injEq,exists_eq_left',exists_eq_left,List.all_nil,reduceCtorEq,true_and,and_true,parts',fill_int,fill_bool,fill_slice,fill_ptr,fill_nil,reps_one,List.replicate,List.length_cons,List.length_nil,Nat.reduceLeDiff,List.set_cons_zero,List.set_cons_succ,List.length_set,List.length_replicate,adr,Nat.mul_one,decide_true,decide_false,Int.reduceBEq,Int.reduceBNe,Int.reduceLT,Int.reduceLE,Int.reduceNeg,beq_self_eq_true,bne_self_eq_false,Bool.not_true,Bool.not_false,cast_zero,cast_one,List.size_toArray,List.getElem?_toArray,List.getElem?_cons_zero,List.getElem?_cons_succ,H_eta,isTuple,cells_int,cells_bool,cells_slice,cells_ptr,cells_agg,put_one,dopX.f,dopX.t,kept_zero,Nat.add_zero,ge_iff_le,gt_iff_lt,Ops.callvV,callvV.mk,List.nil_append,List.cons_append,List.append_nil,List.toList_toArray,Option.map_none,optNat_n,optNat_s,H.up_zero,gateV.und,dgateV.und,Dps.callvV,dcallvV.mk,Ops.invV,invV.mk,findV.mk, st2, c19_7, g4, g5, ld_blk gp3, e4]
      rw [hv] at st4 ⊢
      simp only [At.skip,At.reg,At.regDu,At.seq,At.cond,At.block,At.exit,At.ret,On.nil,On.seq,On.seqE,On.seqR,On.out,On.outR,On.outE,condV.t,condV.f,Ops.nil,Ops.op,Ops.call,opV.mk,Ops.gate,gateV.tt,gateV.ff,gateV.tf,gateV.ft,gateV.un,Dps.nil,Dps.newSl,Dps.op,Dps.call,Dps.gate,dopV.mk,dopV.new,dgateV.tt,dgateV.ff,dgateV.tf,dgateV.ft,dgateV.un,Go.Ae.I.isLoad,resQ.r,resQ.n,stepQ.n,stepQ.e,stepQ.r,set_some,set_none,of_nil,of_cons,rho_tmp,rho_const,rho_func,g_put,g_nil,evI,Ae.bin,binI,Ae.un,nilEq,lenOf,if_true,if_false,Nat.reduceEqDiff,Nat.reduceAdd,Nat.zero_add,reduceIte,List.map_cons,List.map_nil,Option.map_some,Option.bind_some,evRs,evR,one,Option.some.injEq,exists_eq_left',exists_eq_left,List.all_nil,reduceCtorEq,true_and,and_true,parts',fill_int,fill_bool,fill_slice,fill_ptr,fill_nil,reps_one,List.replicate,List.length_cons,List.length_nil,Nat.reduceLeDiff,List.set_cons_zero,List.set_cons_succ,List.length_set,List.length_replicate,adr,Nat.mul_one,decide_true,decide_false,Int.reduceBEq,Int.reduceBNe,Int.reduceLT,Int.reduceLE,Int.reduceNeg,beq_self_eq_true,bne_self_eq_false,Bool.not_true,Bool.not_false,cast_zero,cast_one,List.size_toArray,List.getElem?_toArray,List.getElem?_cons_zero,List.getElem?_cons_succ,H_eta,isTuple,cells_int,cells_bool,cells_slice,cells_ptr,cells_agg,put_one,dopX.f,dopX.t,kept_zero,Nat.add_zero,ge_iff_le,gt_iff_lt,Ops.callvV,callvV.mk,List.nil_append,List.cons_append,List.append_nil,List.toList_toArray,Option.map_none,optNat_n,optNat_s,H.up_zero,gateV.und,dgateV.und,Dps.callvV,dcallvV.mk,Ops.invV,invV.mk,findV.mk, st4, c19_8, g5, wi]
      refine ⟨_, ?_, .mk (i + 1) (by omega) w5 ?_ ?_ ?_⟩
      · omega
      · simp only [At.skip,At.reg,At.regDu,At.seq,At.cond,At.block,At.exit,At.ret,On.nil,On.seq,On.seqE,On.seqR,On.out,On.outR,On.outE,condV.t,condV.f,Ops.nil,Ops.op,Ops.call,opV.mk,Ops.gate,gateV.tt,gateV.ff,gateV.tf,gateV.ft,gateV.un,Dps.nil,Dps.newSl,Dps.op,Dps.call,Dps.gate,dopV.mk,dopV.new,dgateV.tt,dgateV.ff,dgateV.tf,dgateV.ft,dgateV.un,Go.Ae.I.isLoad,resQ.r,resQ.n,stepQ.n,stepQ.e,stepQ.r,set_some,set_none,of_nil,of_cons,rho_tmp,rho_const,rho_func,g_put,g_nil,evI,Ae.bin,binI,Ae.un,nilEq,lenOf,if_true,if_false,Nat.reduceEqDiff,Nat.reduceAdd,Nat.zero_add,reduceIte,List.map_cons,List.map_nil,Option.map_some,Option.bind_some,evRs,evR,one,Option.some.injEq,exists_eq_left',exists_eq_left,List.all_nil,reduceCtorEq,true_and,and_true,parts',fill_int,fill_bool,fill_slice,fill_ptr,fill_nil,reps_one,List.replicate,List.length_cons,List.length_nil,Nat.reduceLeDiff,List.set_cons_zero,List.set_cons_succ,List.length_set,List.length_replicate,adr,Nat.mul_one,decide_true,decide_false,Int.reduceBEq,Int.reduceBNe,Int.reduceLT,Int.reduceLE,Int.reduceNeg,beq_self_eq_true,bne_self_eq_false,Bool.not_true,Bool.not_false,cast_zero,cast_one,List.size_toArray,List.getElem?_toArray,List.getElem?_cons_zero,List.getElem?_cons_succ,H_eta,isTuple,cells_int,cells_bool,cells_slice,cells_ptr,cells_agg,put_one,dopX.f,dopX.t,kept_zero,Nat.add_zero,ge_iff_le,gt_iff_lt,Ops.callvV,callvV.mk,List.nil_append,List.cons_append,List.append_nil,List.toList_toArray,Option.map_none,optNat_n,optNat_s,H.up_zero,gateV.und,dgateV.und,Dps.callvV,dcallvV.mk,Ops.invV,invV.mk,findV.mk, g0]
      · simp only [At.skip,At.reg,At.regDu,At.seq,At.cond,At.block,At.exit,At.ret,On.nil,On.seq,On.seqE,On.seqR,On.out,On.outR,On.outE,condV.t,condV.f,Ops.nil,Ops.op,Ops.call,opV.mk,Ops.gate,gateV.tt,gateV.ff,gateV.tf,gateV.ft,gateV.un,Dps.nil,Dps.newSl,Dps.op,Dps.call,Dps.gate,dopV.mk,dopV.new,dgateV.tt,dgateV.ff,dgateV.tf,dgateV.ft,dgateV.un,Go.Ae.I.isLoad,resQ.r,resQ.n,stepQ.n,stepQ.e,stepQ.r,set_some,set_none,of_nil,of_cons,rho_tmp,rho_const,rho_func,g_put,g_nil,evI,Ae.bin,binI,Ae.un,nilEq,lenOf,if_true,if_false,Nat.reduceEqDiff,Nat.reduceAdd,Nat.zero_add,reduceIte,List.map_cons,List.map_nil,Option.map_some,Option.bind_some,evRs,evR,one,Option.some.injEq,exists_eq_left',exists_eq_left,List.all_nil,reduceCtorEq,true_and,and_true,parts',fill_int,fill_bool,fill_slice,fill_ptr,fill_nil,reps_one,List.replicate,List.length_cons,List.length_nil,Nat.reduceLeDiff,List.set_cons_zero,List.set_cons_succ,List.length_set,List.length_replicate,adr,Nat.mul_one,decide_true,decide_false,Int.reduceBEq,Int.reduceBNe,Int.reduceLT,Int.reduceLE,Int.reduceNeg,beq_self_eq_true,bne_self_eq_false,Bool.not_true,Bool.not_false,cast_zero,cast_one,List.size_toArray,List.getElem?_toArray,List.getElem?_cons_zero,List.getElem?_cons_succ,H_eta,isTuple,cells_int,cells_bool,cells_slice,cells_ptr,cells_agg,put_one,dopX.f,dopX.t,kept_zero,Nat.add_zero,ge_iff_le,gt_iff_lt,Ops.callvV,callvV.mk,List.nil_append,List.cons_append,List.append_nil,List.toList_toArray,Option.map_none,optNat_n,optNat_s,H.up_zero,gateV.und,dgateV.und,Dps.callvV,dcallvV.mk,Ops.invV,invV.mk,findV.mk, g4]
      · simp only [At.skip,At.reg,At.regDu,At.seq,At.cond,At.block,At.exit,At.ret,On.nil,On.seq,On.seqE,On.seqR,On.out,On.outR,On.outE,condV.t,condV.f,Ops.nil,Ops.op,Ops.call,opV.mk,Ops.gate,gateV.tt,gateV.ff,gateV.tf,gateV.ft,gateV.un,Dps.nil,Dps.newSl,Dps.op,Dps.call,Dps.gate,dopV.mk,dopV.new,dgateV.tt,dgateV.ff,dgateV.tf,dgateV.ft,dgateV.un,Go.Ae.I.isLoad,resQ.r,resQ.n,stepQ.n,stepQ.e,stepQ.r,set_some,set_none,of_nil,of_cons,rho_tmp,rho_const,rho_func,g_put,g_nil,evI,Ae.bin,binI,Ae.un,nilEq,lenOf,if_true,if_false,Nat.reduceEqDiff,Nat.reduceAdd,Nat.zero_add,reduceIte,List.map_cons,List.map_nil,Option.map_some,Option.bind_some,evRs,evR,one,Option.some.injEq,exists_eq_left',exists_eq_left,List.all_nil,reduceCtorEq,true_and,and_true,parts',fill_int,fill_bool,fill_slice,fill_ptr,fill_nil,reps_one,List.replicate,List.length_cons,List.length_nil,Nat.reduceLeDiff,List.set_cons_zero,List.set_cons_succ,List.length_set,List.length_replicate,adr,Nat.mul_one,decide_true,decide_false,Int.reduceBEq,Int.reduceBNe,Int.reduceLT,Int.reduceLE,Int.reduceNeg,beq_self_eq_true,bne_self_eq_false,Bool.not_true,Bool.not_false,cast_zero,cast_one,List.size_toArray,List.getElem?_toArray,List.getElem?_cons_zero,List.getElem?_cons_succ,H_eta,isTuple,cells_int,cells_bool,cells_slice,cells_ptr,cells_agg,put_one,dopX.f,dopX.t,kept_zero,Nat.add_zero,ge_iff_le,gt_iff_lt,Ops.callvV,callvV.mk,List.nil_append,List.cons_append,List.append_nil,List.toList_toArray,Option.map_none,optNat_n,optNat_s,H.up_zero,gateV.und,dgateV.und,Dps.callvV,dcallvV.mk,Ops.invV,invV.mk,findV.mk]
    · have : i = V + 1 := by omega
      subst this
      obtain ⟨sv, wv, gp, a, c, ne1, ne2, ne3, ne4⟩ := w.ex
      simp only [At.skip,At.reg,At.regDu,At.seq,At.cond,At.block,At.exit,At.ret,On.nil,On.seq,On.seqE,On.seqR,On.out,On.outR,On.outE,condV.t,condV.f,Ops.nil,Ops.op,Ops.call,opV.mk,Ops.gate,gateV.tt,gateV.ff,gateV.tf,gateV.ft,gateV.un,Dps.nil,Dps.newSl,Dps.op,Dps.call,Dps.gate,dopV.mk,dopV.new,dgateV.tt,dgateV.ff,dgateV.tf,dgateV.ft,dgateV.un,Go.Ae.I.isLoad,resQ.r,resQ.n,stepQ.n,stepQ.e,stepQ.r,set_some,set_none,of_nil,of_cons,rho_tmp,rho_const,rho_func,g_put,g_nil,evI,Ae.bin,binI,Ae.un,nilEq,lenOf,if_true,if_false,Nat.reduceEqDiff,Nat.reduceAdd,Nat.zero_add,reduceIte,List.map_cons,List.map_nil,Option.map_some,Option.bind_some,evRs,evR,one,Option.some.injEq,exists_eq_left',exists_eq_left,List.all_nil,reduceCtorEq,true_and,and_true,parts',fill_int,fill_bool,fill_slice,fill_ptr,fill_nil,reps_one,List.replicate,List.length_cons,List.length_nil,Nat.reduceLeDiff,List.set_cons_zero,List.set_cons_succ,List.length_set,List.length_replicate,adr,Nat.mul_one,decide_true,decide_false,Int.reduceBEq,Int.reduceBNe,Int.reduceLT,Int.reduceLE,Int.reduceNeg,beq_self_eq_true,bne_self_eq_false,Bool.not_true,Bool.not_false,cast_zero,cast_one,List.size_toArray,List.getElem?_toArray,List.getElem?_cons_zero,List.getElem?_cons_succ,H_eta,isTuple,cells_int,cells_bool,cells_slice,cells_ptr,cells_agg,put_one,dopX.f,dopX.t,kept_zero,Nat.add_zero,ge_iff_le,gt_iff_lt,Ops.callvV,callvV.mk,List.nil_append,List.cons_append,List.append_nil,List.toList_toArray,Option.map_none,optNat_n,optNat_s,H.up_zero,gateV.und,dgateV.und,Dps.callvV,dcallvV.mk,Ops.invV,invV.mk,findV.mk, hle, c19_9, g4]
      obtain ⟨x, x1, x2, x3, x4, x5⟩ := ne4 (by intro e; have := congrArg List.length e; simp [rS_len] at this)
      rcases a with ⟨_, e0⟩ | ⟨bs, ss, hs, hb1, hb2, hsv, gs⟩
      · have := congrArg List.length e0
        simp [rS_len] at this
      rcases c with ⟨_, e0⟩ | ⟨bw, sw, hs', hw1, hw2, hwv, gw⟩
      · have := congrArg List.length e0
        simp [rW_len] at this
      subst hsv
      subst hwv
      refine q1 (by omega) (by omega) ⟨h.next, bs, bw, ss, sw⟩ ⟨rS (V + 1), rW (V + 1), 1⟩ _ ⟨⟨?_, gs, gw, fun e => ne1 (congrArg some (show h.next = bs from e)).symm, fun e => ne2 (congrArg some (show h.next = bw from e)).symm, fun e => ne3 bs rfl (congrArg some (show bs = bw from e)).symm, by simp [rS_len, rW_len], by simp [rS_len]; omega, w.lp, hb2, hw2⟩, rfl, rfl, rW_all V, w.np, hb1, hw1, ⟨w.nx, w.old⟩, x, x1, x2, x3, fun e => x4 (congrArg some (show x = bs from e)).symm, fun e => x5 (congrArg some (show x = bw from e)).symm⟩
      show h1.get h.next = _
      rw [gp]; simp
  · refine .mk 0 (Nat.zero_le _) ⟨⟨.slice none 0 0, .slice none 0 0, ?_, .nil _ _, .nil _ _, (by intro e; cases e), (by intro e; cases e), (by intro i e; cases e), fun e => absurd rfl e⟩, ?_, Nat.le_refl _, Nat.le_succ _, fun i hi => ?_⟩ ?_ ?_ ?_
    · exact get_newest _ _
    · exact Nat.lt_succ_self _
    · rw [H.get_new, if_neg (by omega)]
    all_goals simp only [At.skip,At.reg,At.regDu,At.seq,At.cond,At.block,At.exit,At.ret,On.nil,On.seq,On.seqE,On.seqR,On.out,On.outR,On.outE,condV.t,condV.f,Ops.nil,Ops.op,Ops.call,opV.mk,Ops.gate,gateV.tt,gateV.ff,gateV.tf,gateV.ft,gateV.un,Dps.nil,Dps.newSl,Dps.op,Dps.call,Dps.gate,dopV.mk,dopV.new,dgateV.tt,dgateV.ff,dgateV.tf,dgateV.ft,dgateV.un,Go.Ae.I.isLoad,resQ.r,resQ.n,stepQ.n,stepQ.e,stepQ.r,set_some,set_none,of_nil,of_cons,rho_tmp,rho_const,rho_func,g_put,g_nil,evI,Ae.bin,binI,Ae.un,nilEq,lenOf,if_true,if_false,Nat.reduceEqDiff,Nat.reduceAdd,Nat.zero_add,reduceIte,List.map_cons,List.map_nil,Option.map_some,Option.bind_some,evRs,evR,one,Option.some.injEq,exists_eq_left',exists_eq_left,List.all_nil,reduceCtorEq,true_and,and_true,parts',fill_int,fill_bool,fill_slice,fill_ptr,fill_nil,reps_one,List.replicate,List.length_cons,List.length_nil,Nat.reduceLeDiff,List.set_cons_zero,List.set_cons_succ,List.length_set,List.length_replicate,adr,Nat.mul_one,decide_true,decide_false,Int.reduceBEq,Int.reduceBNe,Int.reduceLT,Int.reduceLE,Int.reduceNeg,beq_self_eq_true,bne_self_eq_false,Bool.not_true,Bool.not_false,cast_zero,cast_one,List.size_toArray,List.getElem?_toArray,List.getElem?_cons_zero,List.getElem?_cons_succ,H_eta,isTuple,cells_int,cells_bool,cells_slice,cells_ptr,cells_agg,put_one,dopX.f,dopX.t,kept_zero,Nat.add_zero,ge_iff_le,gt_iff_lt,Ops.callvV,callvV.mk,List.nil_append,List.cons_append,List.append_nil,List.toList_toArray,Option.map_none,optNat_n,optNat_s,H.up_zero,gateV.und,dgateV.und,Dps.callvV,dcallvV.mk,Ops.invV,invV.mk,findV.mk]
end Go.Proofs.Ytnejnaoehcahbaa.q
