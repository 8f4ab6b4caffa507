/-
  The document's answer on models: Can says whether there is one.
-/
import Derived.Test.YtnejnaoehcahbaaAeStep
import Derived.Test.YtnejnaoehcahbaaRef11g
namespace Go.Proofs.Ytnejnaoehcahbaa
open Go Go.Ae Go.Ae.Sat13
set_option linter.unusedSimpArgs false

theorem sat_more {lss : List (List Int)} {gs ms : List Int} {vars x : Int} (G : Sat13.Good lss gs vars ms) (hg : ∀ y ∈ gs, y ∈ ms) (a : Int → Bool) : Sat13.Sat lss (ms ++ [x]) a ↔ Sat13.Sat lss gs a ∧ litT a x = true := by
  constructor
  · intro h
    exact ⟨⟨h.1, fun y hy => h.2 y (List.mem_append_left _ (hg y hy))⟩, h.2 x (by simp)⟩
  · rintro ⟨h, hx⟩
    refine ⟨h.1, fun y hy => ?_⟩
    rcases List.mem_append.1 hy with hy | hy
    · exact G.ent a h y hy
    · rw [List.mem_singleton] at hy; subst hy; exact hx

/-- What Can answers. -/
def CanSays (n : Nat) (h0 : H) (lss : List (List Int)) (gs : List Int) (vars : Int) (v : Value) (h' : H) : Prop :=
  Ext n h0 h' ∧ ∃ b, v = .bool b ∧ (b = true ↔ mayB lss vars = true ∧ oneB gs vars = true ∧ ∃ a, Sat13.Sat lss gs a)

set_option maxHeartbeats 4000000 in
theorem can_rec {lss : List (List Int)} {vars : Int} (hb1 : lss.length < 9223372036854775807) (hb2 : ∀ l ∈ lss, l.length < 9223372036854775807) (h1 : -9223372036854775807 ≤ vars) (h2 : vars ≤ 4000) :
    ∀ (k : Nat) (u gv : Value) (gs : List Int) (h : H), Rds h.next h u lss → Rd h gv (ints gs) → Old h.next gv → gs.length < 9223372036854775807 → (∀ ms, Sat13.Good lss gs vars ms → (∀ y ∈ gs, y ∈ ms) → vars.toNat - ms.length ≤ k) →
      AF E 15 [u, gv, int vars] h fun v h' => CanSays h.next h lss gs vars v h' := by
  intro k
  induction k using Nat.strongRecOn with
  | _ k ih =>
    intro u gv gs h hl hr ho hb3 hm
    refine AF.walk (E_fn comp15) (E_spec (by decide) _ _) ?_
    simp only [At.skip,At.reg,At.regD,At.seq,At.cond,At.block,At.exit,At.ret,On.nil,On.seq,On.seqE,On.seqR,On.out,On.outR,On.outE,condV.t,condV.f,Ops.nil,Ops.op,Ops.call,opV.mk,Ops.gate,gateV.tt,gateV.ff,gateV.tf,gateV.ft,gateV.un,Dps.nil,Dps.new,Dps.op,Dps.call,Dps.gate,dopV.mk,dopV.new,dgateV.tt,dgateV.ff,dgateV.tf,dgateV.ft,dgateV.un,I.isLoad,resQ.r,resQ.n,stepQ.n,stepQ.e,stepQ.r,set_some,set_none,of_nil,of_cons,rho_tmp,rho_const,rho_func,g_put,g_nil,evI,Ae.bin,binI,Ae.un,nilEq,lenOf,if_true,if_false,Nat.reduceEqDiff,Nat.reduceAdd,Nat.zero_add,reduceIte,List.map_cons,List.map_nil,Option.map_some,Option.bind_some,evRs,evR,one,Option.some.injEq,exists_eq_left',exists_eq_left,List.all_nil,reduceCtorEq,true_and,and_true,parts',fill_int,fill_bool,fill_slice,fill_ptr,fill_nil,reps_one,List.replicate,List.length_cons,List.length_nil,Nat.reduceLeDiff,List.set_cons_zero,List.set_cons_succ,List.length_set,List.length_replicate,adr,Nat.mul_one,decide_true,decide_false,Int.reduceBEq,Int.reduceBNe,Int.reduceLT,Int.reduceLE,Int.reduceNeg,beq_self_eq_true,bne_self_eq_false,Bool.not_true,Bool.not_false,cast_zero,cast_one,List.size_toArray,List.getElem?_toArray,List.getElem?_cons_zero,List.getElem?_cons_succ,H_eta,isTuple,cells_int,cells_bool,cells_slice,cells_ptr,cells_agg,put_one,dopX.f,dopX.t,kept_zero,Nat.add_zero,ge_iff_le,gt_iff_lt, c15, c15_0, c15_1]
    refine callV.of (must_ok hl hr ho hb1 hb2 hb3 h1 (by omega)) fun v h' hv => ?_
    obtain ⟨hx, hv⟩ := hv
    rcases hv with ⟨rfl, hno⟩ | ⟨hmay, hone, x, ms, rfl, hrx, hox, hG, hg, hc⟩
    · simp only [At.skip,At.reg,At.regD,At.seq,At.cond,At.block,At.exit,At.ret,On.nil,On.seq,On.seqE,On.seqR,On.out,On.outR,On.outE,condV.t,condV.f,Ops.nil,Ops.op,Ops.call,opV.mk,Ops.gate,gateV.tt,gateV.ff,gateV.tf,gateV.ft,gateV.un,Dps.nil,Dps.new,Dps.op,Dps.call,Dps.gate,dopV.mk,dopV.new,dgateV.tt,dgateV.ff,dgateV.tf,dgateV.ft,dgateV.un,I.isLoad,resQ.r,resQ.n,stepQ.n,stepQ.e,stepQ.r,set_some,set_none,of_nil,of_cons,rho_tmp,rho_const,rho_func,g_put,g_nil,evI,Ae.bin,binI,Ae.un,nilEq,lenOf,if_true,if_false,Nat.reduceEqDiff,Nat.reduceAdd,Nat.zero_add,reduceIte,List.map_cons,List.map_nil,Option.map_some,Option.bind_some,evRs,evR,one,Option.some.injEq,exists_eq_left',exists_eq_left,List.all_nil,reduceCtorEq,true_and,and_true,parts',fill_int,fill_bool,fill_slice,fill_ptr,fill_nil,reps_one,List.replicate,List.length_cons,List.length_nil,Nat.reduceLeDiff,List.set_cons_zero,List.set_cons_succ,List.length_set,List.length_replicate,adr,Nat.mul_one,decide_true,decide_false,Int.reduceBEq,Int.reduceBNe,Int.reduceLT,Int.reduceLE,Int.reduceNeg,beq_self_eq_true,bne_self_eq_false,Bool.not_true,Bool.not_false,cast_zero,cast_one,List.size_toArray,List.getElem?_toArray,List.getElem?_cons_zero,List.getElem?_cons_succ,H_eta,isTuple,cells_int,cells_bool,cells_slice,cells_ptr,cells_agg,put_one,dopX.f,dopX.t,kept_zero,Nat.add_zero,ge_iff_le,gt_iff_lt, c15_2, c15_3]
      exact ⟨hx, false, rfl, by simp; exact hno⟩
    · simp only [At.skip,At.reg,At.regD,At.seq,At.cond,At.block,At.exit,At.ret,On.nil,On.seq,On.seqE,On.seqR,On.out,On.outR,On.outE,condV.t,condV.f,Ops.nil,Ops.op,Ops.call,opV.mk,Ops.gate,gateV.tt,gateV.ff,gateV.tf,gateV.ft,gateV.un,Dps.nil,Dps.new,Dps.op,Dps.call,Dps.gate,dopV.mk,dopV.new,dgateV.tt,dgateV.ff,dgateV.tf,dgateV.ft,dgateV.un,I.isLoad,resQ.r,resQ.n,stepQ.n,stepQ.e,stepQ.r,set_some,set_none,of_nil,of_cons,rho_tmp,rho_const,rho_func,g_put,g_nil,evI,Ae.bin,binI,Ae.un,nilEq,lenOf,if_true,if_false,Nat.reduceEqDiff,Nat.reduceAdd,Nat.zero_add,reduceIte,List.map_cons,List.map_nil,Option.map_some,Option.bind_some,evRs,evR,one,Option.some.injEq,exists_eq_left',exists_eq_left,List.all_nil,reduceCtorEq,true_and,and_true,parts',fill_int,fill_bool,fill_slice,fill_ptr,fill_nil,reps_one,List.replicate,List.length_cons,List.length_nil,Nat.reduceLeDiff,List.set_cons_zero,List.set_cons_succ,List.length_set,List.length_replicate,adr,Nat.mul_one,decide_true,decide_false,Int.reduceBEq,Int.reduceBNe,Int.reduceLT,Int.reduceLE,Int.reduceNeg,beq_self_eq_true,bne_self_eq_false,Bool.not_true,Bool.not_false,cast_zero,cast_one,List.size_toArray,List.getElem?_toArray,List.getElem?_cons_zero,List.getElem?_cons_succ,H_eta,isTuple,cells_int,cells_bool,cells_slice,cells_ptr,cells_agg,put_one,dopX.f,dopX.t,kept_zero,Nat.add_zero,ge_iff_le,gt_iff_lt, c15_2, c15_4]
      have hmay' := hmay
      unfold mayB at hmay'
      rw [Bool.and_eq_true, List.all_eq_true, decide_eq_true_eq] at hmay'
      obtain ⟨hones, hll, hv1, hv2⟩ := hmay'
      have hgl := hG.len hv1
      refine callV.of (open_ok hrx (by omega) hv1 hv2) fun v h2 hv => ?_
      obtain ⟨rfl, r, rfl, hr0⟩ := hv
      rcases hr0 with ⟨rfl, hfull⟩ | ⟨hr1, hr2, hrn, hrm⟩
      · simp only [At.skip,At.reg,At.regD,At.seq,At.cond,At.block,At.exit,At.ret,On.nil,On.seq,On.seqE,On.seqR,On.out,On.outR,On.outE,condV.t,condV.f,Ops.nil,Ops.op,Ops.call,opV.mk,Ops.gate,gateV.tt,gateV.ff,gateV.tf,gateV.ft,gateV.un,Dps.nil,Dps.new,Dps.op,Dps.call,Dps.gate,dopV.mk,dopV.new,dgateV.tt,dgateV.ff,dgateV.tf,dgateV.ft,dgateV.un,I.isLoad,resQ.r,resQ.n,stepQ.n,stepQ.e,stepQ.r,set_some,set_none,of_nil,of_cons,rho_tmp,rho_const,rho_func,g_put,g_nil,evI,Ae.bin,binI,Ae.un,nilEq,lenOf,if_true,if_false,Nat.reduceEqDiff,Nat.reduceAdd,Nat.zero_add,reduceIte,List.map_cons,List.map_nil,Option.map_some,Option.bind_some,evRs,evR,one,Option.some.injEq,exists_eq_left',exists_eq_left,List.all_nil,reduceCtorEq,true_and,and_true,parts',fill_int,fill_bool,fill_slice,fill_ptr,fill_nil,reps_one,List.replicate,List.length_cons,List.length_nil,Nat.reduceLeDiff,List.set_cons_zero,List.set_cons_succ,List.length_set,List.length_replicate,adr,Nat.mul_one,decide_true,decide_false,Int.reduceBEq,Int.reduceBNe,Int.reduceLT,Int.reduceLE,Int.reduceNeg,beq_self_eq_true,bne_self_eq_false,Bool.not_true,Bool.not_false,cast_zero,cast_one,List.size_toArray,List.getElem?_toArray,List.getElem?_cons_zero,List.getElem?_cons_succ,H_eta,isTuple,cells_int,cells_bool,cells_slice,cells_ptr,cells_agg,put_one,dopX.f,dopX.t,kept_zero,Nat.add_zero,ge_iff_le,gt_iff_lt, c15_5, c15_6]
        exact ⟨hx, true, rfl, by simp only [true_iff]; exact ⟨hmay, hone, hG.model hg hfull (fun c hcl x hxc => by have := oneB_mem (hones c hcl) hxc; exact ⟨this.1, this.2.1, this.2.2.1⟩) hc⟩⟩
      · have hr0 : (r == 0) = false := by rw [beq_eq_false_iff_ne]; omega
        simp only [At.skip,At.reg,At.regD,At.seq,At.cond,At.block,At.exit,At.ret,On.nil,On.seq,On.seqE,On.seqR,On.out,On.outR,On.outE,condV.t,condV.f,Ops.nil,Ops.op,Ops.call,opV.mk,Ops.gate,gateV.tt,gateV.ff,gateV.tf,gateV.ft,gateV.un,Dps.nil,Dps.new,Dps.op,Dps.call,Dps.gate,dopV.mk,dopV.new,dgateV.tt,dgateV.ff,dgateV.tf,dgateV.ft,dgateV.un,I.isLoad,resQ.r,resQ.n,stepQ.n,stepQ.e,stepQ.r,set_some,set_none,of_nil,of_cons,rho_tmp,rho_const,rho_func,g_put,g_nil,evI,Ae.bin,binI,Ae.un,nilEq,lenOf,if_true,if_false,Nat.reduceEqDiff,Nat.reduceAdd,Nat.zero_add,reduceIte,List.map_cons,List.map_nil,Option.map_some,Option.bind_some,evRs,evR,one,Option.some.injEq,exists_eq_left',exists_eq_left,List.all_nil,reduceCtorEq,true_and,and_true,parts',fill_int,fill_bool,fill_slice,fill_ptr,fill_nil,reps_one,List.replicate,List.length_cons,List.length_nil,Nat.reduceLeDiff,List.set_cons_zero,List.set_cons_succ,List.length_set,List.length_replicate,adr,Nat.mul_one,decide_true,decide_false,Int.reduceBEq,Int.reduceBNe,Int.reduceLT,Int.reduceLE,Int.reduceNeg,beq_self_eq_true,bne_self_eq_false,Bool.not_true,Bool.not_false,cast_zero,cast_one,List.size_toArray,List.getElem?_toArray,List.getElem?_cons_zero,List.getElem?_cons_succ,H_eta,isTuple,cells_int,cells_bool,cells_slice,cells_ptr,cells_agg,put_one,dopX.f,dopX.t,kept_zero,Nat.add_zero,ge_iff_le,gt_iff_lt, c15_5, hr0, c15_7]
        have hng : IntKind.i64.wrap (0 - r) = -r := by rw [wrap_id (by omega) (by omega)]; omega
        -- one way of saying, of a literal y that is not told of
        have way : ∀ (y : Int) (h3 : H) (v1 : Value), Sat13.lit vars y → y ∉ ms → -y ∉ ms → Ext h.next h h3 → Rd h3 v1 (ints (ms ++ [y])) → Old h3.next v1 →
            AF E 15 [u, v1, int vars] h3 fun v h' => CanSays h3.next h3 lss (ms ++ [y]) vars v h' := by
          intro y h3 v1 hy hy1 hy2 hx3 hr3 ho3
          have hlen : ∀ ms', Sat13.Good lss (ms ++ [y]) vars ms' → (∀ z ∈ ms ++ [y], z ∈ ms') → ms.length + 1 ≤ ms'.length := by
            intro ms' G' hsub
            have hnd : (ms ++ [y]).Nodup := by
              rw [List.nodup_append]
              exact ⟨hG.nod, List.nodup_cons.2 ⟨by simp, List.nodup_nil⟩, fun a ha b hb => by rw [List.mem_singleton] at hb; subst hb; exact fun e => hy1 (e ▸ ha)⟩
            have := nodup_sub _ _ hnd hsub
            simpa using this
          have hG2 : Sat13.Good lss (ms ++ [y]) vars (y :: ms) := by
            have hG3 : Sat13.Good lss (ms ++ [y]) vars ms := ⟨hG.lit, hG.nod, hG.con, fun a ha x hx => ha.2 x (by simp [hx])⟩
            exact hG3.cons hy hy1 hy2 (fun a ha => ha.2 y (by simp)) (List.Perm.refl _)
          have hlt := hG2.len hv1
          rw [List.length_cons] at hlt
          have hk0 := hm ms hG hg
          refine ih (vars.toNat - (ms.length + 1)) (by omega) u v1 (ms ++ [y]) h3 ((hl.ext hx3).mono hx3.1) hr3 ho3 (by simp; omega) fun ms' G' hsub => ?_
          have := hlen ms' G' hsub
          omega
        have hor : (∃ a, Sat13.Sat lss gs a) ↔ (∃ a, Sat13.Sat lss (ms ++ [r]) a) ∨ ∃ a, Sat13.Sat lss (ms ++ [-r]) a := by
          constructor
          · rintro ⟨a, ha⟩
            cases hb : litT a r
            · exact .inr ⟨a, (sat_more hG hg a).2 ⟨ha, by rw [litT_neg (by omega), hb]; rfl⟩⟩
            · exact .inl ⟨a, (sat_more hG hg a).2 ⟨ha, hb⟩⟩
          · rintro (⟨a, ha⟩ | ⟨a, ha⟩)
            · exact ⟨a, ((sat_more hG hg a).1 ha).1⟩
            · exact ⟨a, ((sat_more hG hg a).1 ha).1⟩
        have hone2 : ∀ y, Sat13.lit vars y → oneB (ms ++ [y]) vars = true := fun y hy => by
          unfold oneB
          rw [Bool.and_eq_true, List.all_append, Bool.and_eq_true, List.all_eq_true]
          refine ⟨⟨fun z hz => ?_, ?_⟩, by simp; omega⟩
          · have := hG.lit z hz; unfold Sat13.lit at this; simp [litB]; omega
          · unfold Sat13.lit at hy; simp [litB]; omega
        refine callV.of (more_ok hrx (by omega)) fun v1 h3 hv => ?_
        obtain ⟨ha3, hx3⟩ := hv
        simp only [At.skip,At.reg,At.regD,At.seq,At.cond,At.block,At.exit,At.ret,On.nil,On.seq,On.seqE,On.seqR,On.out,On.outR,On.outE,condV.t,condV.f,Ops.nil,Ops.op,Ops.call,opV.mk,Ops.gate,gateV.tt,gateV.ff,gateV.tf,gateV.ft,gateV.un,Dps.nil,Dps.new,Dps.op,Dps.call,Dps.gate,dopV.mk,dopV.new,dgateV.tt,dgateV.ff,dgateV.tf,dgateV.ft,dgateV.un,I.isLoad,resQ.r,resQ.n,stepQ.n,stepQ.e,stepQ.r,set_some,set_none,of_nil,of_cons,rho_tmp,rho_const,rho_func,g_put,g_nil,evI,Ae.bin,binI,Ae.un,nilEq,lenOf,if_true,if_false,Nat.reduceEqDiff,Nat.reduceAdd,Nat.zero_add,reduceIte,List.map_cons,List.map_nil,Option.map_some,Option.bind_some,evRs,evR,one,Option.some.injEq,exists_eq_left',exists_eq_left,List.all_nil,reduceCtorEq,true_and,and_true,parts',fill_int,fill_bool,fill_slice,fill_ptr,fill_nil,reps_one,List.replicate,List.length_cons,List.length_nil,Nat.reduceLeDiff,List.set_cons_zero,List.set_cons_succ,List.length_set,List.length_replicate,adr,Nat.mul_one,decide_true,decide_false,Int.reduceBEq,Int.reduceBNe,Int.reduceLT,Int.reduceLE,Int.reduceNeg,beq_self_eq_true,bne_self_eq_false,Bool.not_true,Bool.not_false,cast_zero,cast_one,List.size_toArray,List.getElem?_toArray,List.getElem?_cons_zero,List.getElem?_cons_succ,H_eta,isTuple,cells_int,cells_bool,cells_slice,cells_ptr,cells_agg,put_one,dopX.f,dopX.t,kept_zero,Nat.add_zero,ge_iff_le,gt_iff_lt]
        have hx03 : Ext h.next h h3 := hx.trans (hx3.le hx.1)
        refine callV.of (way r h3 v1 ⟨by omega, hr2, by omega⟩ hrn hrm hx03 ha3.rd ha3.old) fun v h4 hv => ?_
        obtain ⟨hx4, b1, rfl, hb1⟩ := hv
        have hx04 : Ext h.next h h4 := hx03.trans (hx4.le hx03.1)
        cases b1
        · simp only [At.skip,At.reg,At.regD,At.seq,At.cond,At.block,At.exit,At.ret,On.nil,On.seq,On.seqE,On.seqR,On.out,On.outR,On.outE,condV.t,condV.f,Ops.nil,Ops.op,Ops.call,opV.mk,Ops.gate,gateV.tt,gateV.ff,gateV.tf,gateV.ft,gateV.un,Dps.nil,Dps.new,Dps.op,Dps.call,Dps.gate,dopV.mk,dopV.new,dgateV.tt,dgateV.ff,dgateV.tf,dgateV.ft,dgateV.un,I.isLoad,resQ.r,resQ.n,stepQ.n,stepQ.e,stepQ.r,set_some,set_none,of_nil,of_cons,rho_tmp,rho_const,rho_func,g_put,g_nil,evI,Ae.bin,binI,Ae.un,nilEq,lenOf,if_true,if_false,Nat.reduceEqDiff,Nat.reduceAdd,Nat.zero_add,reduceIte,List.map_cons,List.map_nil,Option.map_some,Option.bind_some,evRs,evR,one,Option.some.injEq,exists_eq_left',exists_eq_left,List.all_nil,reduceCtorEq,true_and,and_true,parts',fill_int,fill_bool,fill_slice,fill_ptr,fill_nil,reps_one,List.replicate,List.length_cons,List.length_nil,Nat.reduceLeDiff,List.set_cons_zero,List.set_cons_succ,List.length_set,List.length_replicate,adr,Nat.mul_one,decide_true,decide_false,Int.reduceBEq,Int.reduceBNe,Int.reduceLT,Int.reduceLE,Int.reduceNeg,beq_self_eq_true,bne_self_eq_false,Bool.not_true,Bool.not_false,cast_zero,cast_one,List.size_toArray,List.getElem?_toArray,List.getElem?_cons_zero,List.getElem?_cons_succ,H_eta,isTuple,cells_int,cells_bool,cells_slice,cells_ptr,cells_agg,put_one,dopX.f,dopX.t,kept_zero,Nat.add_zero,ge_iff_le,gt_iff_lt, hng]
          refine callV.of (more_ok (hrx.ext hox (hx3.le (Nat.le_refl _) |>.trans (hx4.le hx3.1))) (by omega)) fun v2 h5 hv => ?_
          obtain ⟨ha5, hx5⟩ := hv
          simp only [At.skip,At.reg,At.regD,At.seq,At.cond,At.block,At.exit,At.ret,On.nil,On.seq,On.seqE,On.seqR,On.out,On.outR,On.outE,condV.t,condV.f,Ops.nil,Ops.op,Ops.call,opV.mk,Ops.gate,gateV.tt,gateV.ff,gateV.tf,gateV.ft,gateV.un,Dps.nil,Dps.new,Dps.op,Dps.call,Dps.gate,dopV.mk,dopV.new,dgateV.tt,dgateV.ff,dgateV.tf,dgateV.ft,dgateV.un,I.isLoad,resQ.r,resQ.n,stepQ.n,stepQ.e,stepQ.r,set_some,set_none,of_nil,of_cons,rho_tmp,rho_const,rho_func,g_put,g_nil,evI,Ae.bin,binI,Ae.un,nilEq,lenOf,if_true,if_false,Nat.reduceEqDiff,Nat.reduceAdd,Nat.zero_add,reduceIte,List.map_cons,List.map_nil,Option.map_some,Option.bind_some,evRs,evR,one,Option.some.injEq,exists_eq_left',exists_eq_left,List.all_nil,reduceCtorEq,true_and,and_true,parts',fill_int,fill_bool,fill_slice,fill_ptr,fill_nil,reps_one,List.replicate,List.length_cons,List.length_nil,Nat.reduceLeDiff,List.set_cons_zero,List.set_cons_succ,List.length_set,List.length_replicate,adr,Nat.mul_one,decide_true,decide_false,Int.reduceBEq,Int.reduceBNe,Int.reduceLT,Int.reduceLE,Int.reduceNeg,beq_self_eq_true,bne_self_eq_false,Bool.not_true,Bool.not_false,cast_zero,cast_one,List.size_toArray,List.getElem?_toArray,List.getElem?_cons_zero,List.getElem?_cons_succ,H_eta,isTuple,cells_int,cells_bool,cells_slice,cells_ptr,cells_agg,put_one,dopX.f,dopX.t,kept_zero,Nat.add_zero,ge_iff_le,gt_iff_lt]
          have hx05 : Ext h.next h h5 := hx04.trans (hx5.le hx04.1)
          refine callV.of (way (-r) h5 v2 ⟨by omega, by omega, by omega⟩ hrm (by rw [Int.neg_neg]; exact hrn) hx05 ha5.rd ha5.old) fun v h6 hv => ?_
          obtain ⟨hx6, b2, rfl, hb2⟩ := hv
          simp only [At.skip,At.reg,At.regD,At.seq,At.cond,At.block,At.exit,At.ret,On.nil,On.seq,On.seqE,On.seqR,On.out,On.outR,On.outE,condV.t,condV.f,Ops.nil,Ops.op,Ops.call,opV.mk,Ops.gate,gateV.tt,gateV.ff,gateV.tf,gateV.ft,gateV.un,Dps.nil,Dps.new,Dps.op,Dps.call,Dps.gate,dopV.mk,dopV.new,dgateV.tt,dgateV.ff,dgateV.tf,dgateV.ft,dgateV.un,I.isLoad,resQ.r,resQ.n,stepQ.n,stepQ.e,stepQ.r,set_some,set_none,of_nil,of_cons,rho_tmp,rho_const,rho_func,g_put,g_nil,evI,Ae.bin,binI,Ae.un,nilEq,lenOf,if_true,if_false,Nat.reduceEqDiff,Nat.reduceAdd,Nat.zero_add,reduceIte,List.map_cons,List.map_nil,Option.map_some,Option.bind_some,evRs,evR,one,Option.some.injEq,exists_eq_left',exists_eq_left,List.all_nil,reduceCtorEq,true_and,and_true,parts',fill_int,fill_bool,fill_slice,fill_ptr,fill_nil,reps_one,List.replicate,List.length_cons,List.length_nil,Nat.reduceLeDiff,List.set_cons_zero,List.set_cons_succ,List.length_set,List.length_replicate,adr,Nat.mul_one,decide_true,decide_false,Int.reduceBEq,Int.reduceBNe,Int.reduceLT,Int.reduceLE,Int.reduceNeg,beq_self_eq_true,bne_self_eq_false,Bool.not_true,Bool.not_false,cast_zero,cast_one,List.size_toArray,List.getElem?_toArray,List.getElem?_cons_zero,List.getElem?_cons_succ,H_eta,isTuple,cells_int,cells_bool,cells_slice,cells_ptr,cells_agg,put_one,dopX.f,dopX.t,kept_zero,Nat.add_zero,ge_iff_le,gt_iff_lt]
          refine ⟨hx05.trans (hx6.le hx05.1), b2, rfl, ?_⟩
          rw [hb2, hor]
          have := hone2 r ⟨by omega, hr2, by omega⟩
          have := hone2 (-r) ⟨by omega, by omega, by omega⟩
          simp_all
        · simp only [At.skip,At.reg,At.regD,At.seq,At.cond,At.block,At.exit,At.ret,On.nil,On.seq,On.seqE,On.seqR,On.out,On.outR,On.outE,condV.t,condV.f,Ops.nil,Ops.op,Ops.call,opV.mk,Ops.gate,gateV.tt,gateV.ff,gateV.tf,gateV.ft,gateV.un,Dps.nil,Dps.new,Dps.op,Dps.call,Dps.gate,dopV.mk,dopV.new,dgateV.tt,dgateV.ff,dgateV.tf,dgateV.ft,dgateV.un,I.isLoad,resQ.r,resQ.n,stepQ.n,stepQ.e,stepQ.r,set_some,set_none,of_nil,of_cons,rho_tmp,rho_const,rho_func,g_put,g_nil,evI,Ae.bin,binI,Ae.un,nilEq,lenOf,if_true,if_false,Nat.reduceEqDiff,Nat.reduceAdd,Nat.zero_add,reduceIte,List.map_cons,List.map_nil,Option.map_some,Option.bind_some,evRs,evR,one,Option.some.injEq,exists_eq_left',exists_eq_left,List.all_nil,reduceCtorEq,true_and,and_true,parts',fill_int,fill_bool,fill_slice,fill_ptr,fill_nil,reps_one,List.replicate,List.length_cons,List.length_nil,Nat.reduceLeDiff,List.set_cons_zero,List.set_cons_succ,List.length_set,List.length_replicate,adr,Nat.mul_one,decide_true,decide_false,Int.reduceBEq,Int.reduceBNe,Int.reduceLT,Int.reduceLE,Int.reduceNeg,beq_self_eq_true,bne_self_eq_false,Bool.not_true,Bool.not_false,cast_zero,cast_one,List.size_toArray,List.getElem?_toArray,List.getElem?_cons_zero,List.getElem?_cons_succ,H_eta,isTuple,cells_int,cells_bool,cells_slice,cells_ptr,cells_agg,put_one,dopX.f,dopX.t,kept_zero,Nat.add_zero,ge_iff_le,gt_iff_lt]
          refine ⟨hx04, true, rfl, ?_⟩
          rw [hor]
          have := hb1.1 rfl
          exact ⟨fun _ => ⟨hmay, hone, .inl this.2.2⟩, fun _ => rfl⟩
end Go.Proofs.Ytnejnaoehcahbaa
