/-
  The function values that take clauses: one counts them, two let a list of them grow.
-/
import Derived.Test.YtkhfcljkpjgljaaAeData
import Derived.Test.YtkhfcljkpjgljaaEnc2
namespace Go.Proofs.Ytkhfcljkpjgljaa
open Go Go.Ae
set_option linter.unusedSimpArgs false

theorem Grow.lv_ge {n q : Nat} {h : H} {rest : List Value} {L : List (List Int)} (w : Grow n h q rest L) {b : Nat} (hb : lvB h q = some b) : n ≤ b ∧ b < h.next := by
  obtain ⟨w1, w2, lv, vs, w3, w4, w5, w6, w7⟩ := w
  have e : lvB h q = blkOf lv := by simp [lvB, w3]
  rw [e] at hb
  refine ⟨?_, w4.old b hb⟩
  by_cases h : n ≤ b
  · exact h
  · exact absurd hb (w4.ne (by omega))

/-- Clauses are counted (may$1). -/
def Cnts (k0 : Int) (q : Nat) (L : List (List Int)) (h : H) : Prop := q < h.next ∧ h.get q = some ⟨[int (k0 + L.length)], false⟩
theorem count_cb {n q : Nat} {k0 : Int} (hq : n ≤ q) (h0 : -1000000000000 ≤ k0 ∧ k0 ≤ 1000000000000) : CbL n q (Cnts k0 q) 129 #[.pointer (some ⟨q, 0, none⟩)] where
  lo := hq
  lt := fun _ _ i => i.1
  lv := fun _ h b i e => by
    have : lvB h q = none := by simp [lvB, i.2, blkOf]
    rw [this] at e; cases e
  ext := fun _ _ _ i e => ⟨Nat.lt_of_lt_of_le i.1 e.1, (e.2 q i.1).trans i.2⟩
  call := fun L c h i hc hL => by
    refine AF.walk (E_fn comp129) (E_spec (by decide) _ _) ?_
    have hg : (h.new ⟨ints c, false⟩).get q = some ⟨[int (k0 + L.length)], false⟩ := by rw [H.get_new, if_neg (by have := i.1; omega)]; exact i.2
    have hn : (h.new ⟨ints c, false⟩).next = h.next + 1 := rfl
    have hx : Ext h.next h (h.new ⟨ints c, false⟩) := Ext.new _
    generalize h.new ⟨ints c, false⟩ = h1 at hg hn hx
    have w1 : IntKind.i64.wrap (k0 + L.length + 1) = k0 + ((L ++ [c]).length : Nat) := by rw [wrap_id (by omega) (by omega), List.length_append]; simp; omega
    have hst : h1.sts q 0 [int (k0 + ((L ++ [c]).length : Nat))] = some (h1.set q (some ⟨[int (k0 + ((L ++ [c]).length : Nat))], false⟩)) := sts_of hg rfl (by simp) rfl
    simp only [At.skip,At.reg,At.regDu,At.seq,At.cond,At.block,At.exit,At.ret,On.nil,On.seq,On.seqE,On.seqR,On.out,On.outR,On.outE,condV.t,condV.f,Ops.nil,Ops.op,Ops.call,opV.mk,Ops.gate,gateV.tt,gateV.ff,gateV.tf,gateV.ft,gateV.un,Dps.nil,Dps.newSl,Dps.op,Dps.call,Dps.gate,dopV.mk,dopV.new,dgateV.tt,dgateV.ff,dgateV.tf,dgateV.ft,dgateV.un,I.isLoad,resQ.r,resQ.n,stepQ.n,stepQ.e,stepQ.r,set_some,set_none,of_nil,of_cons,rho_tmp,rho_const,rho_func,g_put,g_nil,evI,Ae.bin,binI,Ae.un,nilEq,lenOf,if_true,if_false,Nat.reduceEqDiff,Nat.reduceAdd,Nat.zero_add,reduceIte,List.map_cons,List.map_nil,Option.map_some,Option.bind_some,evRs,evR,one,Option.some.injEq,exists_eq_left',exists_eq_left,List.all_nil,reduceCtorEq,true_and,and_true,parts',fill_int,fill_bool,fill_slice,fill_ptr,fill_nil,reps_one,List.replicate,List.length_cons,List.length_nil,Nat.reduceLeDiff,List.set_cons_zero,List.set_cons_succ,List.length_set,List.length_replicate,adr,Nat.mul_one,decide_true,decide_false,Int.reduceBEq,Int.reduceBNe,Int.reduceLT,Int.reduceLE,Int.reduceNeg,beq_self_eq_true,bne_self_eq_false,Bool.not_true,Bool.not_false,cast_zero,cast_one,List.size_toArray,List.getElem?_toArray,List.getElem?_cons_zero,List.getElem?_cons_succ,H_eta,isTuple,cells_int,cells_bool,cells_slice,cells_ptr,cells_agg,put_one,dopX.f,dopX.t,kept_zero,Nat.add_zero,ge_iff_le,gt_iff_lt,Ops.callvV,callvV.mk,List.nil_append,List.cons_append,List.append_nil,List.toList_toArray,Option.map_none,optNat_n,optNat_s,H.up_zero,gateV.und,dgateV.und,Dps.callvV,dcallvV.mk, c129, c129_0, ld_blk hg, w1, hst]
    have hq2 := i.1
    have hlv : ∀ (h' : H) z, h'.get q = some ⟨[int z], false⟩ → lvB h' q = none := fun h' z e => by simp [lvB, e, blkOf]
    exact ⟨⟨by simp; omega, fun j hj hjq _ => by rw [H.get_set, if_neg hjq]; exact hx.2 j hj, fun j _ _ => by rw [hlv _ (k0 + ((L ++ [c]).length : Nat)) (by rw [H.get_set, if_pos rfl])]; simp⟩, by simp; omega, by rw [H.get_set, if_pos rfl]⟩

/-- A clause of a latch (clauses$1). -/
def Rows (n : Nat) (hB : H) (q : Nat) (L : List (List Int)) (h : H) : Prop := Grow n h q [] L ∧ Ext n hB h
theorem rows_cbs {n q : Nat} {hB : H} (hq : n ≤ q) (hnB : n ≤ hB.next) : CbS n q (Rows n hB q) where
  lo := hq
  lt := fun _ _ i => i.1.lt
  lv := fun _ _ _ i e => Grow.lv_ge i.1 e
  ext := fun _ _ _ i e => ⟨i.1.ext e, i.2.trans (e.le (Nat.le_trans hnB i.2.1))⟩

theorem latch_cb {n q : Nat} {hB : H} (hq : n ≤ q) (hnB : n ≤ hB.next) : CbL n q (Rows n hB q) 110 #[.pointer (some ⟨q, 0, none⟩)] :=
  { rows_cbs hq hnB with
    call := fun L c h i hc hL => by
      refine AF.walk (E_fn comp110) (E_spec (by decide) _ _) ?_
      generalize hel : Value.slice (some ⟨h.next, 0, none⟩) c.length c.length = el
      have hti : isTuple el = false := by rw [← hel]; rfl
      have hce : el.cells = #[el] := by rw [← hel]; rfl
      generalize hh3 : (h.new ⟨ints c, false⟩).new ⟨[el], false⟩ = h3
      have h3n : h3.next = h.next + 1 + 1 := by rw [← hh3]; rfl
      have h3k : ∀ j, j < h.next → h3.get j = h.get j := fun j hj => by
        rw [← hh3, H.get_new, if_neg (by show j ≠ h.next + 1; omega), H.get_new, if_neg (by omega)]
      have h3b : h3.get (h.next + 1) = some ⟨[el], false⟩ := by rw [← hh3, H.get_new]; exact if_pos rfl
      have h3c : h3.get h.next = some ⟨ints c, false⟩ := by rw [← hh3, H.get_new, if_neg (by show h.next ≠ h.next + 1; omega), H.get_new, if_pos rfl]
      have rel : Rd h3 el (ints c) := ⟨some ⟨h.next, 0, none⟩, c.length, by rw [← hel]; simp, by simp, .inr ⟨h.next, 0, none, rfl, lds_all h3c⟩⟩
      have hbe : ∀ b, blkOf el = some b → b = h.next := fun b hb => by rw [← hel] at hb; cases hb; rfl
      obtain ⟨lv, v', h4, p1, ⟨la, lm, lk, rfl⟩, ⟨va, vm, vk, rfl⟩, p4, p5, p6, p7⟩ := i.1.push (b3 := h.next + 1) (el := el) (c := c) h3k (by omega) ⟨_, _, _, hel.symm⟩ (by rw [← hel]; exact Spt.plain _ _ _ _) rel (fun b hb => by have := hbe b hb; omega) h3b (fun e => by have := hbe _ e; omega) (by omega)
      have hq0 : (h.new ⟨ints c, false⟩).get q = some ⟨[.slice la lm lk], false⟩ := by
        have := i.1.lt
        rw [H.get_new, if_neg (by omega), ← h3k q this]; exact p1
      have hnx : (h.new ⟨ints c, false⟩).next = h.next + 1 := rfl
      have hst : h4.sts q 0 [.slice va vm vk] = some (h4.set q (some ⟨[.slice va vm vk], false⟩)) := sts_of p5 rfl (by simp) rfl
      simp only [At.skip,At.reg,At.regDu,At.seq,At.cond,At.block,At.exit,At.ret,On.nil,On.seq,On.seqE,On.seqR,On.out,On.outR,On.outE,condV.t,condV.f,Ops.nil,Ops.op,Ops.call,opV.mk,Ops.gate,gateV.tt,gateV.ff,gateV.tf,gateV.ft,gateV.un,Dps.nil,Dps.newSl,Dps.op,Dps.call,Dps.gate,dopV.mk,dopV.new,dgateV.tt,dgateV.ff,dgateV.tf,dgateV.ft,dgateV.un,I.isLoad,resQ.r,resQ.n,stepQ.n,stepQ.e,stepQ.r,set_some,set_none,of_nil,of_cons,rho_tmp,rho_const,rho_func,g_put,g_nil,evI,Ae.bin,binI,Ae.un,nilEq,lenOf,if_true,if_false,Nat.reduceEqDiff,Nat.reduceAdd,Nat.zero_add,reduceIte,List.map_cons,List.map_nil,Option.map_some,Option.bind_some,evRs,evR,one,Option.some.injEq,exists_eq_left',exists_eq_left,List.all_nil,reduceCtorEq,true_and,and_true,parts',fill_int,fill_bool,fill_slice,fill_ptr,fill_nil,reps_one,List.replicate,List.length_cons,List.length_nil,Nat.reduceLeDiff,List.set_cons_zero,List.set_cons_succ,List.length_set,List.length_replicate,adr,Nat.mul_one,decide_true,decide_false,Int.reduceBEq,Int.reduceBNe,Int.reduceLT,Int.reduceLE,Int.reduceNeg,beq_self_eq_true,bne_self_eq_false,Bool.not_true,Bool.not_false,cast_zero,cast_one,List.size_toArray,List.getElem?_toArray,List.getElem?_cons_zero,List.getElem?_cons_succ,H_eta,isTuple,cells_int,cells_bool,cells_slice,cells_ptr,cells_agg,put_one,dopX.f,dopX.t,kept_zero,Nat.add_zero,ge_iff_le,gt_iff_lt,Ops.callvV,callvV.mk,List.nil_append,List.cons_append,List.append_nil,List.toList_toArray,Option.map_none,optNat_n,optNat_s,H.up_zero,gateV.und,dgateV.und,Dps.callvV,dcallvV.mk, c110, c110_0, ld_blk hq0, fill_one hti hce (show 0 + 1 ≤ [Value.slice none 0 0].length by simp), hh3, hnx, p4, hst]
      exact ⟨p7, p6, i.2.trans ((rows_cbs hq hnB).kp_ext i p7)⟩ }
end Go.Proofs.Ytkhfcljkpjgljaa
