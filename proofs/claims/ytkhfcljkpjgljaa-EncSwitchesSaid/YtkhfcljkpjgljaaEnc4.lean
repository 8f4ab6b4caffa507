/-
  The function value that takes the clauses of gates, each with what more says behind it.
-/
import Derived.Test.YtkhfcljkpjgljaaAeData
import Derived.Test.YtkhfcljkpjgljaaEnc3
namespace Go.Proofs.Ytkhfcljkpjgljaa
open Go Go.Ae
set_option linter.unusedSimpArgs false

/-- What more says, of a gate: some literals, of its own memory. -/
def MoreOk (n : Nat) (hB : H) (sw : Nat → List Int) (mf : FuncId) (mcap : Array Value) : Prop :=
  ∀ (i : Nat) (h : H), i ≤ 1000000 → n ≤ h.next → Ext n hB h → AF E mf (int i :: mcap.toList) h fun r h' => Ext h.next h h' ∧ Rd h' r (ints (sw i)) ∧ Old h'.next r

set_option maxHeartbeats 8000000 in
theorem gate_cb {n q m : Nat} {hB : H} {sw : Nat → List Int} {mf : FuncId} {mcap : Array Value} (hq : n ≤ q) (hnB : n ≤ hB.next) (hm : m < n) (hmg : hB.get m = some ⟨[.func (.func mf) #[] mcap], false⟩) (mo : MoreOk n hB sw mf mcap) (hsw : ∀ i, (sw i).length ≤ 1) :
    CbG n q (Rows n hB q) (fun i c => c ++ sw i) 112 #[.pointer (some ⟨q, 0, none⟩), .pointer (some ⟨m, 0, none⟩)] :=
  { rows_cbs hq hnB with
    call := fun i L c h iv hc hi hL => by
      suffices key : ∀ Q : H → Prop, (∀ h', Kp q h h' → Rows n hB q (L ++ [c ++ sw i]) h' → Q h') → AF E 112 (int i :: .slice (some ⟨h.next, 0, none⟩) c.length c.length :: (#[Value.pointer (some ⟨q, 0, none⟩), .pointer (some ⟨m, 0, none⟩)] : Array Value).toList) (h.new ⟨ints c, false⟩) fun _ h' => Q h' from key _ fun h' h1 h2 => ⟨h1, h2⟩
      intro Q hQ
      refine AF.walk (E_fn comp112) (E_spec (by decide) _ _) ?_
      have hqlt := iv.1.lt
      have hle : n ≤ h.next := by omega
      generalize hh1 : h.new ⟨ints c, false⟩ = h1
      have h1n : h1.next = h.next + 1 := by rw [← hh1]; rfl
      have h1k : ∀ j, j ≠ h.next → h1.get j = h.get j := fun j hj => by rw [← hh1, H.get_new, if_neg hj]
      have h1c : h1.get h.next = some ⟨ints c, false⟩ := by rw [← hh1, H.get_new, if_pos rfl]
      obtain ⟨lv, hlv, _⟩ := iv.1.rds
      obtain ⟨la, lm, lk, hlvs⟩ : ∃ a b c, lv = .slice a b c := by
        obtain ⟨lv', vs, w2, w3, _⟩ := iv.1.ex
        obtain ⟨base, cp, e⟩ := w3.rd.len
        rw [w2] at hlv; cases hlv
        exact ⟨_, _, _, e⟩
      subst hlvs
      have hq1 : h1.get q = some ⟨[.slice la lm lk], false⟩ := (h1k q (by omega)).trans hlv
      have hm1 : h1.get m = some ⟨[.func (.func mf) #[] mcap], false⟩ := by rw [h1k m (by omega), iv.2.2 m hm]; exact hmg
      have hx1 : Ext h.next h h1 := ⟨by omega, fun j hj => h1k j (by omega)⟩
      have kq : ∀ h', Ext (h1.up 1).next (h1.up 1) h' → h'.get q = some ⟨[.slice la lm lk], false⟩ := fun h' e => (e.2 q (by show q < h1.next + 1; omega)).trans hq1
      simp only [At.skip,At.reg,At.regDu,At.seq,At.cond,At.block,At.exit,At.ret,On.nil,On.seq,On.seqE,On.seqR,On.out,On.outR,On.outE,condV.t,condV.f,Ops.nil,Ops.op,Ops.call,opV.mk,Ops.gate,gateV.tt,gateV.ff,gateV.tf,gateV.ft,gateV.un,Dps.nil,Dps.newSl,Dps.op,Dps.call,Dps.gate,dopV.mk,dopV.new,dgateV.tt,dgateV.ff,dgateV.tf,dgateV.ft,dgateV.un,I.isLoad,resQ.r,resQ.n,stepQ.n,stepQ.e,stepQ.r,set_some,set_none,of_nil,of_cons,rho_tmp,rho_const,rho_func,g_put,g_nil,evI,Ae.bin,binI,Ae.un,nilEq,lenOf,if_true,if_false,Nat.reduceEqDiff,Nat.reduceAdd,Nat.zero_add,reduceIte,List.map_cons,List.map_nil,Option.map_some,Option.bind_some,evRs,evR,one,Option.some.injEq,exists_eq_left',exists_eq_left,List.all_nil,reduceCtorEq,true_and,and_true,parts',fill_int,fill_bool,fill_slice,fill_ptr,fill_nil,reps_one,List.replicate,List.length_cons,List.length_nil,Nat.reduceLeDiff,List.set_cons_zero,List.set_cons_succ,List.length_set,List.length_replicate,adr,Nat.mul_one,decide_true,decide_false,Int.reduceBEq,Int.reduceBNe,Int.reduceLT,Int.reduceLE,Int.reduceNeg,beq_self_eq_true,bne_self_eq_false,Bool.not_true,Bool.not_false,cast_zero,cast_one,List.size_toArray,List.getElem?_toArray,List.getElem?_cons_zero,List.getElem?_cons_succ,H_eta,isTuple,cells_int,cells_bool,cells_slice,cells_ptr,cells_agg,put_one,dopX.f,dopX.t,kept_zero,Nat.add_zero,ge_iff_le,gt_iff_lt,Ops.callvV,callvV.mk,List.nil_append,List.cons_append,List.append_nil,List.toList_toArray,Option.map_none,optNat_n,optNat_s,H.up_zero,gateV.und,dgateV.und,Dps.callvV,dcallvV.mk, c112, c112_0, H.ld_up, ld_blk hq1, ld_blk hm1, kept_no (show q < h1.next by omega), kept_no (show m < h1.next by omega)]
      refine dcallV.chk (mo i (h1.up 1) hi (by show n ≤ h1.next + 1; omega) ⟨Nat.le_trans iv.2.1 (by show h.next ≤ h1.next + 1; omega), fun j hj => by rw [H.get_up, h1k j (by omega)]; exact iv.2.2 j hj⟩) fun r h2 hr => ?_
      obtain ⟨hx2, rr, orr⟩ := hr
      have hn2 : h1.next + 1 ≤ h2.next := hx2.1
      have hu : (h1.up 1).next = h1.next + 1 := rfl
      have h2q : h2.get q = some ⟨[.slice la lm lk], false⟩ := kq h2 hx2
      have h2k : ∀ j, j < h.next → h2.get j = h.get j := fun j hj => by rw [hx2.2 j (by omega), H.get_up, h1k j (by omega)]
      have h2c : h2.get h.next = some ⟨ints c, false⟩ := (hx2.2 _ (by omega)).trans h1c
      refine ⟨?_, ?_⟩
      · rw [List.all_cons, List.all_nil, Bool.and_true]
        refine chk_ld (b := q) (o := 0) (u := .slice la lm lk) ?_ (by rw [ld_blk h2q]; rfl) ?_ (veqa_slice _ _ _)
        all_goals simp only [At.skip,At.reg,At.regDu,At.seq,At.cond,At.block,At.exit,At.ret,On.nil,On.seq,On.seqE,On.seqR,On.out,On.outR,On.outE,condV.t,condV.f,Ops.nil,Ops.op,Ops.call,opV.mk,Ops.gate,gateV.tt,gateV.ff,gateV.tf,gateV.ft,gateV.un,Dps.nil,Dps.newSl,Dps.op,Dps.call,Dps.gate,dopV.mk,dopV.new,dgateV.tt,dgateV.ff,dgateV.tf,dgateV.ft,dgateV.un,I.isLoad,resQ.r,resQ.n,stepQ.n,stepQ.e,stepQ.r,set_some,set_none,of_nil,of_cons,rho_tmp,rho_const,rho_func,g_put,g_nil,evI,Ae.bin,binI,Ae.un,nilEq,lenOf,if_true,if_false,Nat.reduceEqDiff,Nat.reduceAdd,Nat.zero_add,reduceIte,List.map_cons,List.map_nil,Option.map_some,Option.bind_some,evRs,evR,one,Option.some.injEq,exists_eq_left',exists_eq_left,List.all_nil,reduceCtorEq,true_and,and_true,parts',fill_int,fill_bool,fill_slice,fill_ptr,fill_nil,reps_one,List.replicate,List.length_cons,List.length_nil,Nat.reduceLeDiff,List.set_cons_zero,List.set_cons_succ,List.length_set,List.length_replicate,adr,Nat.mul_one,decide_true,decide_false,Int.reduceBEq,Int.reduceBNe,Int.reduceLT,Int.reduceLE,Int.reduceNeg,beq_self_eq_true,bne_self_eq_false,Bool.not_true,Bool.not_false,cast_zero,cast_one,List.size_toArray,List.getElem?_toArray,List.getElem?_cons_zero,List.getElem?_cons_succ,H_eta,isTuple,cells_int,cells_bool,cells_slice,cells_ptr,cells_agg,put_one,dopX.f,dopX.t,kept_zero,Nat.add_zero,ge_iff_le,gt_iff_lt,Ops.callvV,callvV.mk,List.nil_append,List.cons_append,List.append_nil,List.toList_toArray,Option.map_none,optNat_n,optNat_s,H.up_zero,gateV.und,dgateV.und,Dps.callvV,dcallvV.mk]
      have ax : Acc h.next h2 (.slice (some ⟨h.next, 0, none⟩) c.length c.length) (ints c) := .inr ⟨h.next, none, .inl rfl, Nat.le_refl _, by omega, by simp, h2c⟩
      have hswi := hsw i
      obtain ⟨el, h4, e4, a4, n4, k4⟩ := ax.app (bytes := 8) rr (by omega) (int_one _) (by simp; omega)
      obtain ⟨ea, em, ek, hel⟩ : ∃ a b k, el = .slice a b k := by obtain ⟨base, cp, e⟩ := a4.rd.len; exact ⟨_, _, _, e⟩
      have h4q : h4.get q = some ⟨[.slice la lm lk], false⟩ := by rw [k4 q (by omega) (by intro e; cases e; omega)]; exact h2q
      have h4k : ∀ j, j < h.next → h4.get j = h.get j := fun j hj => by rw [k4 j (by omega) (by intro e; cases e; omega)]; exact h2k j hj
      have ebl : ∀ b, blkOf el = some b → b = h.next ∨ h2.next ≤ b := fun b hb => (app_blk e4 hb).imp (fun e => by cases e; rfl) id
      have hti : isTuple el = false := by rw [hel]; rfl
      have hce : el.cells = #[el] := by rw [hel]; rfl
      simp only [At.skip,At.reg,At.regDu,At.seq,At.cond,At.block,At.exit,At.ret,On.nil,On.seq,On.seqE,On.seqR,On.out,On.outR,On.outE,condV.t,condV.f,Ops.nil,Ops.op,Ops.call,opV.mk,Ops.gate,gateV.tt,gateV.ff,gateV.tf,gateV.ft,gateV.un,Dps.nil,Dps.newSl,Dps.op,Dps.call,Dps.gate,dopV.mk,dopV.new,dgateV.tt,dgateV.ff,dgateV.tf,dgateV.ft,dgateV.un,I.isLoad,resQ.r,resQ.n,stepQ.n,stepQ.e,stepQ.r,set_some,set_none,of_nil,of_cons,rho_tmp,rho_const,rho_func,g_put,g_nil,evI,Ae.bin,binI,Ae.un,nilEq,lenOf,if_true,if_false,Nat.reduceEqDiff,Nat.reduceAdd,Nat.zero_add,reduceIte,List.map_cons,List.map_nil,Option.map_some,Option.bind_some,evRs,evR,one,Option.some.injEq,exists_eq_left',exists_eq_left,List.all_nil,reduceCtorEq,true_and,and_true,parts',fill_int,fill_bool,fill_slice,fill_ptr,fill_nil,reps_one,List.replicate,List.length_cons,List.length_nil,Nat.reduceLeDiff,List.set_cons_zero,List.set_cons_succ,List.length_set,List.length_replicate,adr,Nat.mul_one,decide_true,decide_false,Int.reduceBEq,Int.reduceBNe,Int.reduceLT,Int.reduceLE,Int.reduceNeg,beq_self_eq_true,bne_self_eq_false,Bool.not_true,Bool.not_false,cast_zero,cast_one,List.size_toArray,List.getElem?_toArray,List.getElem?_cons_zero,List.getElem?_cons_succ,H_eta,isTuple,cells_int,cells_bool,cells_slice,cells_ptr,cells_agg,put_one,dopX.f,dopX.t,kept_zero,Nat.add_zero,ge_iff_le,gt_iff_lt,Ops.callvV,callvV.mk,List.nil_append,List.cons_append,List.append_nil,List.toList_toArray,Option.map_none,optNat_n,optNat_s,H.up_zero,gateV.und,dgateV.und,Dps.callvV,dcallvV.mk, e4]
      rw [dopV.chks]
      refine ⟨?_, ?_⟩
      · rw [List.all_cons, List.all_nil, Bool.and_true]
        refine chk_ld (b := q) (o := 0) (u := .slice la lm lk) ?_ (by rw [ld_blk h4q]; rfl) ?_ (veqa_slice _ _ _)
        all_goals simp only [At.skip,At.reg,At.regDu,At.seq,At.cond,At.block,At.exit,At.ret,On.nil,On.seq,On.seqE,On.seqR,On.out,On.outR,On.outE,condV.t,condV.f,Ops.nil,Ops.op,Ops.call,opV.mk,Ops.gate,gateV.tt,gateV.ff,gateV.tf,gateV.ft,gateV.un,Dps.nil,Dps.newSl,Dps.op,Dps.call,Dps.gate,dopV.mk,dopV.new,dgateV.tt,dgateV.ff,dgateV.tf,dgateV.ft,dgateV.un,I.isLoad,resQ.r,resQ.n,stepQ.n,stepQ.e,stepQ.r,set_some,set_none,of_nil,of_cons,rho_tmp,rho_const,rho_func,g_put,g_nil,evI,Ae.bin,binI,Ae.un,nilEq,lenOf,if_true,if_false,Nat.reduceEqDiff,Nat.reduceAdd,Nat.zero_add,reduceIte,List.map_cons,List.map_nil,Option.map_some,Option.bind_some,evRs,evR,one,Option.some.injEq,exists_eq_left',exists_eq_left,List.all_nil,reduceCtorEq,true_and,and_true,parts',fill_int,fill_bool,fill_slice,fill_ptr,fill_nil,reps_one,List.replicate,List.length_cons,List.length_nil,Nat.reduceLeDiff,List.set_cons_zero,List.set_cons_succ,List.length_set,List.length_replicate,adr,Nat.mul_one,decide_true,decide_false,Int.reduceBEq,Int.reduceBNe,Int.reduceLT,Int.reduceLE,Int.reduceNeg,beq_self_eq_true,bne_self_eq_false,Bool.not_true,Bool.not_false,cast_zero,cast_one,List.size_toArray,List.getElem?_toArray,List.getElem?_cons_zero,List.getElem?_cons_succ,H_eta,isTuple,cells_int,cells_bool,cells_slice,cells_ptr,cells_agg,put_one,dopX.f,dopX.t,kept_zero,Nat.add_zero,ge_iff_le,gt_iff_lt,Ops.callvV,callvV.mk,List.nil_append,List.cons_append,List.append_nil,List.toList_toArray,Option.map_none,optNat_n,optNat_s,H.up_zero,gateV.und,dgateV.und,Dps.callvV,dcallvV.mk]
      -- the row of one
      generalize hh5 : h4.set h1.next (some ⟨[el], false⟩) = h5
      have h5n : h5.next = h4.next := by rw [← hh5]; rfl
      have h5g : ∀ j, j ≠ h1.next → h5.get j = h4.get j := fun j hj => by rw [← hh5, H.get_set, if_neg hj]
      have h5b : h5.get h1.next = some ⟨[el], false⟩ := by rw [← hh5, H.get_set, if_pos rfl]
      have hel3 : ∀ b, blkOf el = some b → b ≠ h1.next := fun b hb => by have := ebl b hb; omega
      have rel : Rd h5 el (ints (c ++ sw i)) := by
        have := a4.rd
        rw [ints, ints, ← List.map_append] at this
        exact this.keep fun b hb => h5g b (hel3 b hb)
      obtain ⟨lv', v', h6, p1, ⟨la', lm', lk', rfl⟩, ⟨va, vm, vk, rfl⟩, p4, p5, p6, p7⟩ := iv.1.push (b3 := h1.next) (el := el) (c := c ++ sw i) (h := h5) (fun j hj => by rw [h5g j (by omega)]; exact h4k j hj) (by omega) ⟨_, _, _, hel⟩ a4.spt rel
        (fun b hb => by have := ebl b hb; have := a4.old b hb; omega) h5b (fun e => hel3 _ e rfl) (by omega)
      rw [h5g q (by omega), h4q] at p1
      cases p1
      have hst : h6.sts q 0 [.slice va vm vk] = some (h6.set q (some ⟨[.slice va vm vk], false⟩)) := sts_of p5 rfl (by simp) rfl
      simp only [At.skip,At.reg,At.regDu,At.seq,At.cond,At.block,At.exit,At.ret,On.nil,On.seq,On.seqE,On.seqR,On.out,On.outR,On.outE,condV.t,condV.f,Ops.nil,Ops.op,Ops.call,opV.mk,Ops.gate,gateV.tt,gateV.ff,gateV.tf,gateV.ft,gateV.un,Dps.nil,Dps.newSl,Dps.op,Dps.call,Dps.gate,dopV.mk,dopV.new,dgateV.tt,dgateV.ff,dgateV.tf,dgateV.ft,dgateV.un,I.isLoad,resQ.r,resQ.n,stepQ.n,stepQ.e,stepQ.r,set_some,set_none,of_nil,of_cons,rho_tmp,rho_const,rho_func,g_put,g_nil,evI,Ae.bin,binI,Ae.un,nilEq,lenOf,if_true,if_false,Nat.reduceEqDiff,Nat.reduceAdd,Nat.zero_add,reduceIte,List.map_cons,List.map_nil,Option.map_some,Option.bind_some,evRs,evR,one,Option.some.injEq,exists_eq_left',exists_eq_left,List.all_nil,reduceCtorEq,true_and,and_true,parts',fill_int,fill_bool,fill_slice,fill_ptr,fill_nil,reps_one,List.replicate,List.length_cons,List.length_nil,Nat.reduceLeDiff,List.set_cons_zero,List.set_cons_succ,List.length_set,List.length_replicate,adr,Nat.mul_one,decide_true,decide_false,Int.reduceBEq,Int.reduceBNe,Int.reduceLT,Int.reduceLE,Int.reduceNeg,beq_self_eq_true,bne_self_eq_false,Bool.not_true,Bool.not_false,cast_zero,cast_one,List.size_toArray,List.getElem?_toArray,List.getElem?_cons_zero,List.getElem?_cons_succ,H_eta,isTuple,cells_int,cells_bool,cells_slice,cells_ptr,cells_agg,put_one,dopX.f,dopX.t,kept_zero,Nat.add_zero,ge_iff_le,gt_iff_lt,Ops.callvV,callvV.mk,List.nil_append,List.cons_append,List.append_nil,List.toList_toArray,Option.map_none,optNat_n,optNat_s,H.up_zero,gateV.und,dgateV.und,Dps.callvV,dcallvV.mk, fill_one hti hce (show 0 + 1 ≤ [Value.slice none 0 0].length by simp), hh5, p4, hst]
      exact hQ _ p7 ⟨p6, iv.2.trans ((rows_cbs hq hnB).kp_ext iv p7)⟩ }
end Go.Proofs.Ytkhfcljkpjgljaa
