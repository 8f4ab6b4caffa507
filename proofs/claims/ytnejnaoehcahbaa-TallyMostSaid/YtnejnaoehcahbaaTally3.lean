/-
  Tally's clauses that grow: what the program's work struct stands for; says adds a clause.
-/
import Derived.Test.YtnejnaoehcahbaaAeMore
import Derived.Test.YtnejnaoehcahbaaTally2
import Derived.Test.YtnejnaoehcahbaaRef11d
namespace Go.Proofs.Ytnejnaoehcahbaa
open Go Go.Ae
set_option linter.unusedSimpArgs false

/-- The block of the slice in a struct's first cell. -/
def lvB (h : H) (p : Nat) : Option Nat := match h.get p with | some ⟨v :: _, _⟩ => blkOf v | _ => none

/-- All but the struct at p, the block of its first slice, and x, is as it was. -/
def Kx (x : Option Nat) (p : Nat) (h h' : H) : Prop :=
  h.next ≤ h'.next ∧ (∀ i, i < h.next → x ≠ some i → i ≠ p → lvB h p ≠ some i → h'.get i = h.get i) ∧ ∀ i, i < h.next → lvB h p ≠ some i → lvB h' p ≠ some i

theorem Kx.refl (x : Option Nat) (p : Nat) (h : H) : Kx x p h h := ⟨Nat.le_refl _, fun _ _ _ _ _ => rfl, fun _ _ h => h⟩
theorem Kx.trans {x : Option Nat} {p : Nat} {h h' h'' : H} (a : Kx x p h h') (b : Kx x p h' h'') : Kx x p h h'' :=
  ⟨Nat.le_trans a.1 b.1, fun i hi hx hp hl => (b.2.1 i (Nat.lt_of_lt_of_le hi a.1) hx hp (a.2.2 i hi hl)).trans (a.2.1 i hi hx hp hl), fun i hi hl => b.2.2 i (Nat.lt_of_lt_of_le hi a.1) (a.2.2 i hi hl)⟩

/-- A slice that has nothing to do with the struct at p. -/
def Ap (h : H) (p : Nat) (v : Value) : Prop := ∀ b, blkOf v = some b → b < h.next ∧ b ≠ p ∧ lvB h p ≠ some b
theorem Ap.kx {p : Nat} {h h' : H} {v : Value} {x : Option Nat} (a : Ap h p v) (k : Kx x p h h') : Ap h' p v := fun b hb => by
  obtain ⟨h1, h2, h3⟩ := a b hb
  exact ⟨Nat.lt_of_lt_of_le h1 k.1, h2, k.2.2 b h1 h3⟩
theorem Rd.kx {p : Nat} {h h' : H} {v : Value} {vs : List Value} (r : Rd h v vs) (a : Ap h p v) (k : Kx none p h h') : Rd h' v vs := r.keep fun b hb => by
  obtain ⟨h1, h2, h3⟩ := a b hb
  exact k.2.1 b h1 (by simp) h2 h3

/-- The struct: its clauses, how many outs, the next variable, and whether there would be too many. -/
structure Wk (n : Nat) (h : H) (p : Nat) (outs : Int) (L : List (List Int)) (next : Int) (full : Bool) : Prop where
  le : n ≤ p
  lt : p < h.next
  ex : ∃ lv vs, h.get p = some ⟨[lv, int outs, int next, .bool full], false⟩ ∧ Acc n h lv vs ∧ blkOf lv ≠ some p ∧ vs.length = L.length ∧
    ∀ (j : Nat) (c : Value) (l : List Int), vs[j]? = some c → L[j]? = some l → Rd h c (ints l) ∧ Ap h p c

theorem ld_blk {h : H} {p o : Nat} {cs : List Value} {ro : Bool} (e : h.get p = some ⟨cs, ro⟩) : h.ld p o = cs[o]? := by simp [H.ld, e]

theorem not_ok {u : Value} {ls : List Int} {i : Nat} {h : H} (hr : Rd h u (ints ls)) (hi : i ≤ ls.length) (hlen : ls.length < 1000000000) :
    AF E 67 [u, int i] h fun v h' => v = int (if i = 0 then 0 else neg (ls.getD (i - 1) 0)) ∧ h' = h := by
  refine AF.walk (E_fn comp67) (E_spec (by decide) _ _) ?_
  simp only [At.skip,At.reg,At.regDu,At.seq,At.cond,At.block,At.exit,At.ret,On.nil,On.seq,On.seqE,On.seqR,On.out,On.outR,On.outE,condV.t,condV.f,Ops.nil,Ops.op,Ops.call,opV.mk,Ops.gate,gateV.tt,gateV.ff,gateV.tf,gateV.ft,gateV.un,Dps.nil,Dps.newSl,Dps.op,Dps.call,Dps.gate,dopV.mk,dopV.new,dgateV.tt,dgateV.ff,dgateV.tf,dgateV.ft,dgateV.un,I.isLoad,resQ.r,resQ.n,stepQ.n,stepQ.e,stepQ.r,set_some,set_none,of_nil,of_cons,rho_tmp,rho_const,rho_func,g_put,g_nil,evI,Ae.bin,binI,Ae.un,nilEq,lenOf,if_true,if_false,Nat.reduceEqDiff,Nat.reduceAdd,Nat.zero_add,reduceIte,List.map_cons,List.map_nil,Option.map_some,Option.bind_some,evRs,evR,one,Option.some.injEq,exists_eq_left',exists_eq_left,List.all_nil,reduceCtorEq,true_and,and_true,parts',fill_int,fill_bool,fill_slice,fill_ptr,fill_nil,reps_one,List.replicate,List.length_cons,List.length_nil,Nat.reduceLeDiff,List.set_cons_zero,List.set_cons_succ,List.length_set,List.length_replicate,adr,Nat.mul_one,decide_true,decide_false,Int.reduceBEq,Int.reduceBNe,Int.reduceLT,Int.reduceLE,Int.reduceNeg,beq_self_eq_true,bne_self_eq_false,Bool.not_true,Bool.not_false,cast_zero,cast_one,List.size_toArray,List.getElem?_toArray,List.getElem?_cons_zero,List.getElem?_cons_succ,H_eta,isTuple,cells_int,cells_bool,cells_slice,cells_ptr,cells_agg,put_one,dopX.f,dopX.t,kept_zero,Nat.add_zero,ge_iff_le,gt_iff_lt,Ops.callvV,callvV.mk,List.nil_append,List.cons_append,List.append_nil,List.toList_toArray,Option.map_none,optNat_n,optNat_s,H.up_zero,gateV.und,dgateV.und, c67, c67_0, c67_1]
  by_cases h0 : i = 0
  · subst h0
    simp only [At.skip,At.reg,At.regDu,At.seq,At.cond,At.block,At.exit,At.ret,On.nil,On.seq,On.seqE,On.seqR,On.out,On.outR,On.outE,condV.t,condV.f,Ops.nil,Ops.op,Ops.call,opV.mk,Ops.gate,gateV.tt,gateV.ff,gateV.tf,gateV.ft,gateV.un,Dps.nil,Dps.newSl,Dps.op,Dps.call,Dps.gate,dopV.mk,dopV.new,dgateV.tt,dgateV.ff,dgateV.tf,dgateV.ft,dgateV.un,I.isLoad,resQ.r,resQ.n,stepQ.n,stepQ.e,stepQ.r,set_some,set_none,of_nil,of_cons,rho_tmp,rho_const,rho_func,g_put,g_nil,evI,Ae.bin,binI,Ae.un,nilEq,lenOf,if_true,if_false,Nat.reduceEqDiff,Nat.reduceAdd,Nat.zero_add,reduceIte,List.map_cons,List.map_nil,Option.map_some,Option.bind_some,evRs,evR,one,Option.some.injEq,exists_eq_left',exists_eq_left,List.all_nil,reduceCtorEq,true_and,and_true,parts',fill_int,fill_bool,fill_slice,fill_ptr,fill_nil,reps_one,List.replicate,List.length_cons,List.length_nil,Nat.reduceLeDiff,List.set_cons_zero,List.set_cons_succ,List.length_set,List.length_replicate,adr,Nat.mul_one,decide_true,decide_false,Int.reduceBEq,Int.reduceBNe,Int.reduceLT,Int.reduceLE,Int.reduceNeg,beq_self_eq_true,bne_self_eq_false,Bool.not_true,Bool.not_false,cast_zero,cast_one,List.size_toArray,List.getElem?_toArray,List.getElem?_cons_zero,List.getElem?_cons_succ,H_eta,isTuple,cells_int,cells_bool,cells_slice,cells_ptr,cells_agg,put_one,dopX.f,dopX.t,kept_zero,Nat.add_zero,ge_iff_le,gt_iff_lt,Ops.callvV,callvV.mk,List.nil_append,List.cons_append,List.append_nil,List.toList_toArray,Option.map_none,optNat_n,optNat_s,H.up_zero,gateV.und,dgateV.und, c67_2]
  · have h1 : ((i : Int) == 0) = false := by rw [beq_eq_false_iff_ne]; omega
    have hk : i - 1 < (ints ls).length := by simp; omega
    obtain ⟨b, o, s, cap', rfl, hld⟩ := hr.at hk
    rw [List.getElem_map] at hld
    have hw : IntKind.i64.wrap ((i : Int) - 1) = ((i - 1 : Nat) : Int) := by rw [wrap_id (by omega) (by omega)]; omega
    have hgd : ls.getD (i - 1) 0 = ls[i - 1] := by simp [show i - 1 < ls.length by omega]
    simp only [At.skip,At.reg,At.regDu,At.seq,At.cond,At.block,At.exit,At.ret,On.nil,On.seq,On.seqE,On.seqR,On.out,On.outR,On.outE,condV.t,condV.f,Ops.nil,Ops.op,Ops.call,opV.mk,Ops.gate,gateV.tt,gateV.ff,gateV.tf,gateV.ft,gateV.un,Dps.nil,Dps.newSl,Dps.op,Dps.call,Dps.gate,dopV.mk,dopV.new,dgateV.tt,dgateV.ff,dgateV.tf,dgateV.ft,dgateV.un,I.isLoad,resQ.r,resQ.n,stepQ.n,stepQ.e,stepQ.r,set_some,set_none,of_nil,of_cons,rho_tmp,rho_const,rho_func,g_put,g_nil,evI,Ae.bin,binI,Ae.un,nilEq,lenOf,if_true,if_false,Nat.reduceEqDiff,Nat.reduceAdd,Nat.zero_add,reduceIte,List.map_cons,List.map_nil,Option.map_some,Option.bind_some,evRs,evR,one,Option.some.injEq,exists_eq_left',exists_eq_left,List.all_nil,reduceCtorEq,true_and,and_true,parts',fill_int,fill_bool,fill_slice,fill_ptr,fill_nil,reps_one,List.replicate,List.length_cons,List.length_nil,Nat.reduceLeDiff,List.set_cons_zero,List.set_cons_succ,List.length_set,List.length_replicate,adr,Nat.mul_one,decide_true,decide_false,Int.reduceBEq,Int.reduceBNe,Int.reduceLT,Int.reduceLE,Int.reduceNeg,beq_self_eq_true,bne_self_eq_false,Bool.not_true,Bool.not_false,cast_zero,cast_one,List.size_toArray,List.getElem?_toArray,List.getElem?_cons_zero,List.getElem?_cons_succ,H_eta,isTuple,cells_int,cells_bool,cells_slice,cells_ptr,cells_agg,put_one,dopX.f,dopX.t,kept_zero,Nat.add_zero,ge_iff_le,gt_iff_lt,Ops.callvV,callvV.mk,List.nil_append,List.cons_append,List.append_nil,List.toList_toArray,Option.map_none,optNat_n,optNat_s,H.up_zero,gateV.und,dgateV.und, h1, c67_3, hw, natOf_int (Int.natCast_nonneg (i - 1)), Int.toNat_natCast, List.length_map, show i - 1 < ls.length by omega, hld]
    rw [if_neg h0, hgd]

theorem is_ok {u : Value} {ls : List Int} {i : Nat} {h : H} (hr : Rd h u (ints ls)) (hi : 1 ≤ i) (hi2 : i < 1000000000) :
    AF E 68 [u, int i] h fun v h' => v = int (ls.getD (i - 1) 0) ∧ h' = h := by
  refine AF.walk (E_fn comp68) (E_spec (by decide) _ _) ?_
  obtain ⟨base, cap, hu⟩ := hr.len
  by_cases h1 : ls.length < i
  · subst hu
    simp only [At.skip,At.reg,At.regDu,At.seq,At.cond,At.block,At.exit,At.ret,On.nil,On.seq,On.seqE,On.seqR,On.out,On.outR,On.outE,condV.t,condV.f,Ops.nil,Ops.op,Ops.call,opV.mk,Ops.gate,gateV.tt,gateV.ff,gateV.tf,gateV.ft,gateV.un,Dps.nil,Dps.newSl,Dps.op,Dps.call,Dps.gate,dopV.mk,dopV.new,dgateV.tt,dgateV.ff,dgateV.tf,dgateV.ft,dgateV.un,I.isLoad,resQ.r,resQ.n,stepQ.n,stepQ.e,stepQ.r,set_some,set_none,of_nil,of_cons,rho_tmp,rho_const,rho_func,g_put,g_nil,evI,Ae.bin,binI,Ae.un,nilEq,lenOf,if_true,if_false,Nat.reduceEqDiff,Nat.reduceAdd,Nat.zero_add,reduceIte,List.map_cons,List.map_nil,Option.map_some,Option.bind_some,evRs,evR,one,Option.some.injEq,exists_eq_left',exists_eq_left,List.all_nil,reduceCtorEq,true_and,and_true,parts',fill_int,fill_bool,fill_slice,fill_ptr,fill_nil,reps_one,List.replicate,List.length_cons,List.length_nil,Nat.reduceLeDiff,List.set_cons_zero,List.set_cons_succ,List.length_set,List.length_replicate,adr,Nat.mul_one,decide_true,decide_false,Int.reduceBEq,Int.reduceBNe,Int.reduceLT,Int.reduceLE,Int.reduceNeg,beq_self_eq_true,bne_self_eq_false,Bool.not_true,Bool.not_false,cast_zero,cast_one,List.size_toArray,List.getElem?_toArray,List.getElem?_cons_zero,List.getElem?_cons_succ,H_eta,isTuple,cells_int,cells_bool,cells_slice,cells_ptr,cells_agg,put_one,dopX.f,dopX.t,kept_zero,Nat.add_zero,ge_iff_le,gt_iff_lt,Ops.callvV,callvV.mk,List.nil_append,List.cons_append,List.append_nil,List.toList_toArray,Option.map_none,optNat_n,optNat_s,H.up_zero,gateV.und,dgateV.und, c68, c68_0, c68_1, List.length_map, Int.ofNat_lt, h1, c68_2]
    simp [show ls.length ≤ i - 1 by omega]
  · have hk : i - 1 < (ints ls).length := by simp; omega
    obtain ⟨b, o, s, cap', rfl, hld⟩ := hr.at hk
    rw [List.getElem_map] at hld
    have hw : IntKind.i64.wrap ((i : Int) - 1) = ((i - 1 : Nat) : Int) := by rw [wrap_id (by omega) (by omega)]; omega
    have hgd : ls.getD (i - 1) 0 = ls[i - 1] := by simp [show i - 1 < ls.length by omega]
    simp only [At.skip,At.reg,At.regDu,At.seq,At.cond,At.block,At.exit,At.ret,On.nil,On.seq,On.seqE,On.seqR,On.out,On.outR,On.outE,condV.t,condV.f,Ops.nil,Ops.op,Ops.call,opV.mk,Ops.gate,gateV.tt,gateV.ff,gateV.tf,gateV.ft,gateV.un,Dps.nil,Dps.newSl,Dps.op,Dps.call,Dps.gate,dopV.mk,dopV.new,dgateV.tt,dgateV.ff,dgateV.tf,dgateV.ft,dgateV.un,I.isLoad,resQ.r,resQ.n,stepQ.n,stepQ.e,stepQ.r,set_some,set_none,of_nil,of_cons,rho_tmp,rho_const,rho_func,g_put,g_nil,evI,Ae.bin,binI,Ae.un,nilEq,lenOf,if_true,if_false,Nat.reduceEqDiff,Nat.reduceAdd,Nat.zero_add,reduceIte,List.map_cons,List.map_nil,Option.map_some,Option.bind_some,evRs,evR,one,Option.some.injEq,exists_eq_left',exists_eq_left,List.all_nil,reduceCtorEq,true_and,and_true,parts',fill_int,fill_bool,fill_slice,fill_ptr,fill_nil,reps_one,List.replicate,List.length_cons,List.length_nil,Nat.reduceLeDiff,List.set_cons_zero,List.set_cons_succ,List.length_set,List.length_replicate,adr,Nat.mul_one,decide_true,decide_false,Int.reduceBEq,Int.reduceBNe,Int.reduceLT,Int.reduceLE,Int.reduceNeg,beq_self_eq_true,bne_self_eq_false,Bool.not_true,Bool.not_false,cast_zero,cast_one,List.size_toArray,List.getElem?_toArray,List.getElem?_cons_zero,List.getElem?_cons_succ,H_eta,isTuple,cells_int,cells_bool,cells_slice,cells_ptr,cells_agg,put_one,dopX.f,dopX.t,kept_zero,Nat.add_zero,ge_iff_le,gt_iff_lt,Ops.callvV,callvV.mk,List.nil_append,List.cons_append,List.append_nil,List.toList_toArray,Option.map_none,optNat_n,optNat_s,H.up_zero,gateV.und,dgateV.und, c68, c68_0, c68_1, List.length_map, Int.ofNat_lt, h1, c68_3, hw, natOf_int (Int.natCast_nonneg (i - 1)), Int.toNat_natCast, show i - 1 < ls.length by omega, hld]
    rw [hgd]

set_option maxHeartbeats 2000000 in
/-- says, of a row that is newer than the struct (as of h0) and that nobody else knows. -/
theorem says_ok {n p b : Nat} {h0 h : H} {outs next : Int} {full : Bool} {L : List (List Int)} {ls : List Int} (w : Wk n h0 p outs L next full) (hb : h.get b = some ⟨ints ls, false⟩) (hb0 : h0.next ≤ b) (hbl : b < h.next)
    (hk : ∀ i, i ≠ b → h.get i = h0.get i) (hlen : ls.length < 1000000000) (hL : L.length ≤ 1048576) :
    AF E 66 [.pointer (some ⟨p, 0, none⟩), .slice (some ⟨b, 0, none⟩) ls.length ls.length] h fun _ h' =>
      Kx none p h0 h' ∧ Wk n h' p outs (if full = true ∨ L.length = 1048576 then L else L ++ [no0 ls]) next (full || decide (L.length = 1048576)) := by
  suffices key : ∀ Q : H → Prop, (∀ h', Kx none p h0 h' → Wk n h' p outs (if full = true ∨ L.length = 1048576 then L else L ++ [no0 ls]) next (full || decide (L.length = 1048576)) → Q h') →
      AF E 66 [.pointer (some ⟨p, 0, none⟩), .slice (some ⟨b, 0, none⟩) ls.length ls.length] h fun _ h' => Q h' from key _ fun h' h1 h2 => ⟨h1, h2⟩
  intro Q hq
  refine AF.walk (E_fn comp66) (E_spec (by decide) _ _) ?_
  obtain ⟨w1, w2, lv, vs, w3, w4, w5, w6, w7⟩ := w
  have hpb : p ≠ b := by omega
  have hp : h.get p = some ⟨[lv, int outs, int next, .bool full], false⟩ := (hk p hpb).trans w3
  have hlv0 : lvB h0 p = blkOf lv := by simp [lvB, w3]
  obtain ⟨lbase, lcap, hlv⟩ := w4.rd.len
  rw [w6] at hlv
  simp only [At.skip,At.reg,At.regDu,At.seq,At.cond,At.block,At.exit,At.ret,On.nil,On.seq,On.seqE,On.seqR,On.out,On.outR,On.outE,condV.t,condV.f,Ops.nil,Ops.op,Ops.call,opV.mk,Ops.gate,gateV.tt,gateV.ff,gateV.tf,gateV.ft,gateV.un,Dps.nil,Dps.newSl,Dps.op,Dps.call,Dps.gate,dopV.mk,dopV.new,dgateV.tt,dgateV.ff,dgateV.tf,dgateV.ft,dgateV.un,I.isLoad,resQ.r,resQ.n,stepQ.n,stepQ.e,stepQ.r,set_some,set_none,of_nil,of_cons,rho_tmp,rho_const,rho_func,g_put,g_nil,evI,Ae.bin,binI,Ae.un,nilEq,lenOf,if_true,if_false,Nat.reduceEqDiff,Nat.reduceAdd,Nat.zero_add,reduceIte,List.map_cons,List.map_nil,Option.map_some,Option.bind_some,evRs,evR,one,Option.some.injEq,exists_eq_left',exists_eq_left,List.all_nil,reduceCtorEq,true_and,and_true,parts',fill_int,fill_bool,fill_slice,fill_ptr,fill_nil,reps_one,List.replicate,List.length_cons,List.length_nil,Nat.reduceLeDiff,List.set_cons_zero,List.set_cons_succ,List.length_set,List.length_replicate,adr,Nat.mul_one,decide_true,decide_false,Int.reduceBEq,Int.reduceBNe,Int.reduceLT,Int.reduceLE,Int.reduceNeg,beq_self_eq_true,bne_self_eq_false,Bool.not_true,Bool.not_false,cast_zero,cast_one,List.size_toArray,List.getElem?_toArray,List.getElem?_cons_zero,List.getElem?_cons_succ,H_eta,isTuple,cells_int,cells_bool,cells_slice,cells_ptr,cells_agg,put_one,dopX.f,dopX.t,kept_zero,Nat.add_zero,ge_iff_le,gt_iff_lt,Ops.callvV,callvV.mk,List.nil_append,List.cons_append,List.append_nil,List.toList_toArray,Option.map_none,optNat_n,optNat_s,H.up_zero,gateV.und,dgateV.und, c66, c66_0, c66_1, ld_blk hp]
  -- where nothing more is added
  have stop : ∀ (f : Bool), (full = true ∨ L.length = 1048576) → Q (h.set p (some ⟨[lv, int outs, int next, .bool true], false⟩)) := by
    intro _ hf
    refine hq _ ⟨by simp; omega, fun i hi _ hip _ => by rw [H.get_set, if_neg hip]; exact hk i (by omega), fun i _ hi => by simp only [lvB, H.get_set, if_true]; rw [← hlv0]; exact hi⟩ ?_
    have hget : ∀ c, Ap h0 p c → ∀ i, blkOf c = some i → (h.set p (some ⟨[lv, int outs, int next, .bool true], false⟩)).get i = h0.get i := fun c ha i hi => by
      obtain ⟨a1, a2, a3⟩ := ha i hi
      rw [H.get_set, if_neg a2]; exact hk i (by omega)
    have hfl : (full || decide (L.length = 1048576)) = true := by rcases hf with h | h <;> simp [h]
    rw [if_pos hf, hfl]
    refine ⟨w1, by simp; omega, lv, vs, by rw [H.get_set, if_pos rfl], w4.keep (by simp; omega) (fun i hi => ?_), w5, w6, fun j c l hc hl => ?_⟩
    · rw [H.get_set, if_neg (fun e => w5 (by rw [← e]; exact hi))]; exact hk i (by have := w4.old i hi; omega)
    · obtain ⟨r1, r2⟩ := w7 j c l hc hl
      refine ⟨r1.keep (hget c r2), fun i hi => ?_⟩
      obtain ⟨a1, a2, a3⟩ := r2 i hi
      exact ⟨by simp; omega, a2, by simp only [lvB, H.get_set, if_true]; rw [← hlv0]; exact a3⟩
  cases full
  · have hsz : (h.sts p 3 [.bool (decide (L.length = 1048576))]) = some (h.set p (some ⟨[lv, int outs, int next, .bool (decide (L.length = 1048576))], false⟩)) := sts_of hp rfl (by simp) rfl
    have hln : ((L.length : Int) == 1048576) = decide (L.length = 1048576) := by rw [Bool.eq_iff_iff, beq_iff_eq, decide_eq_true_eq]; omega
    simp only [At.skip,At.reg,At.regDu,At.seq,At.cond,At.block,At.exit,At.ret,On.nil,On.seq,On.seqE,On.seqR,On.out,On.outR,On.outE,condV.t,condV.f,Ops.nil,Ops.op,Ops.call,opV.mk,Ops.gate,gateV.tt,gateV.ff,gateV.tf,gateV.ft,gateV.un,Dps.nil,Dps.newSl,Dps.op,Dps.call,Dps.gate,dopV.mk,dopV.new,dgateV.tt,dgateV.ff,dgateV.tf,dgateV.ft,dgateV.un,I.isLoad,resQ.r,resQ.n,stepQ.n,stepQ.e,stepQ.r,set_some,set_none,of_nil,of_cons,rho_tmp,rho_const,rho_func,g_put,g_nil,evI,Ae.bin,binI,Ae.un,nilEq,lenOf,if_true,if_false,Nat.reduceEqDiff,Nat.reduceAdd,Nat.zero_add,reduceIte,List.map_cons,List.map_nil,Option.map_some,Option.bind_some,evRs,evR,one,Option.some.injEq,exists_eq_left',exists_eq_left,List.all_nil,reduceCtorEq,true_and,and_true,parts',fill_int,fill_bool,fill_slice,fill_ptr,fill_nil,reps_one,List.replicate,List.length_cons,List.length_nil,Nat.reduceLeDiff,List.set_cons_zero,List.set_cons_succ,List.length_set,List.length_replicate,adr,Nat.mul_one,decide_true,decide_false,Int.reduceBEq,Int.reduceBNe,Int.reduceLT,Int.reduceLE,Int.reduceNeg,beq_self_eq_true,bne_self_eq_false,Bool.not_true,Bool.not_false,cast_zero,cast_one,List.size_toArray,List.getElem?_toArray,List.getElem?_cons_zero,List.getElem?_cons_succ,H_eta,isTuple,cells_int,cells_bool,cells_slice,cells_ptr,cells_agg,put_one,dopX.f,dopX.t,kept_zero,Nat.add_zero,ge_iff_le,gt_iff_lt,Ops.callvV,callvV.mk,List.nil_append,List.cons_append,List.append_nil,List.toList_toArray,Option.map_none,optNat_n,optNat_s,H.up_zero,gateV.und,dgateV.und, ld_blk hp, hlv, hln, hsz]
    by_cases hfu : L.length = 1048576
    · simp only [At.skip,At.reg,At.regDu,At.seq,At.cond,At.block,At.exit,At.ret,On.nil,On.seq,On.seqE,On.seqR,On.out,On.outR,On.outE,condV.t,condV.f,Ops.nil,Ops.op,Ops.call,opV.mk,Ops.gate,gateV.tt,gateV.ff,gateV.tf,gateV.ft,gateV.un,Dps.nil,Dps.newSl,Dps.op,Dps.call,Dps.gate,dopV.mk,dopV.new,dgateV.tt,dgateV.ff,dgateV.tf,dgateV.ft,dgateV.un,I.isLoad,resQ.r,resQ.n,stepQ.n,stepQ.e,stepQ.r,set_some,set_none,of_nil,of_cons,rho_tmp,rho_const,rho_func,g_put,g_nil,evI,Ae.bin,binI,Ae.un,nilEq,lenOf,if_true,if_false,Nat.reduceEqDiff,Nat.reduceAdd,Nat.zero_add,reduceIte,List.map_cons,List.map_nil,Option.map_some,Option.bind_some,evRs,evR,one,Option.some.injEq,exists_eq_left',exists_eq_left,List.all_nil,reduceCtorEq,true_and,and_true,parts',fill_int,fill_bool,fill_slice,fill_ptr,fill_nil,reps_one,List.replicate,List.length_cons,List.length_nil,Nat.reduceLeDiff,List.set_cons_zero,List.set_cons_succ,List.length_set,List.length_replicate,adr,Nat.mul_one,decide_true,decide_false,Int.reduceBEq,Int.reduceBNe,Int.reduceLT,Int.reduceLE,Int.reduceNeg,beq_self_eq_true,bne_self_eq_false,Bool.not_true,Bool.not_false,cast_zero,cast_one,List.size_toArray,List.getElem?_toArray,List.getElem?_cons_zero,List.getElem?_cons_succ,H_eta,isTuple,cells_int,cells_bool,cells_slice,cells_ptr,cells_agg,put_one,dopX.f,dopX.t,kept_zero,Nat.add_zero,ge_iff_le,gt_iff_lt,Ops.callvV,callvV.mk,List.nil_append,List.cons_append,List.append_nil,List.toList_toArray,Option.map_none,optNat_n,optNat_s,H.up_zero,gateV.und,dgateV.und, hfu, ld_set]
      have := stop true (.inr hfu)
      rw [hlv, hfu] at this
      exact this
    simp only [At.skip,At.reg,At.regDu,At.seq,At.cond,At.block,At.exit,At.ret,On.nil,On.seq,On.seqE,On.seqR,On.out,On.outR,On.outE,condV.t,condV.f,Ops.nil,Ops.op,Ops.call,opV.mk,Ops.gate,gateV.tt,gateV.ff,gateV.tf,gateV.ft,gateV.un,Dps.nil,Dps.newSl,Dps.op,Dps.call,Dps.gate,dopV.mk,dopV.new,dgateV.tt,dgateV.ff,dgateV.tf,dgateV.ft,dgateV.un,I.isLoad,resQ.r,resQ.n,stepQ.n,stepQ.e,stepQ.r,set_some,set_none,of_nil,of_cons,rho_tmp,rho_const,rho_func,g_put,g_nil,evI,Ae.bin,binI,Ae.un,nilEq,lenOf,if_true,if_false,Nat.reduceEqDiff,Nat.reduceAdd,Nat.zero_add,reduceIte,List.map_cons,List.map_nil,Option.map_some,Option.bind_some,evRs,evR,one,Option.some.injEq,exists_eq_left',exists_eq_left,List.all_nil,reduceCtorEq,true_and,and_true,parts',fill_int,fill_bool,fill_slice,fill_ptr,fill_nil,reps_one,List.replicate,List.length_cons,List.length_nil,Nat.reduceLeDiff,List.set_cons_zero,List.set_cons_succ,List.length_set,List.length_replicate,adr,Nat.mul_one,decide_true,decide_false,Int.reduceBEq,Int.reduceBNe,Int.reduceLT,Int.reduceLE,Int.reduceNeg,beq_self_eq_true,bne_self_eq_false,Bool.not_true,Bool.not_false,cast_zero,cast_one,List.size_toArray,List.getElem?_toArray,List.getElem?_cons_zero,List.getElem?_cons_succ,H_eta,isTuple,cells_int,cells_bool,cells_slice,cells_ptr,cells_agg,put_one,dopX.f,dopX.t,kept_zero,Nat.add_zero,ge_iff_le,gt_iff_lt,Ops.callvV,callvV.mk,List.nil_append,List.cons_append,List.append_nil,List.toList_toArray,Option.map_none,optNat_n,optNat_s,H.up_zero,gateV.und,dgateV.und, hfu, ld_set, c66_2]
    generalize hh1 : h.set p (some ⟨[.slice lbase L.length lcap, int outs, int next, .bool false], false⟩) = h1
    rw [← hlv] at hh1
    have h1n : h1.next = h.next := by rw [← hh1]; rfl
    have h1p : h1.get p = some ⟨[lv, int outs, int next, .bool false], false⟩ := by rw [← hh1, H.get_set, if_pos rfl]
    have h1g : ∀ i, i ≠ p → h1.get i = h.get i := fun i hi => by rw [← hh1, H.get_set, if_neg hi]
    have hb1 : (h1.up 1).get b = some ⟨ints ls, false⟩ := by rw [H.get_up, h1g b (Ne.symm hpb)]; exact hb
    simp only [At.skip,At.reg,At.regDu,At.seq,At.cond,At.block,At.exit,At.ret,On.nil,On.seq,On.seqE,On.seqR,On.out,On.outR,On.outE,condV.t,condV.f,Ops.nil,Ops.op,Ops.call,opV.mk,Ops.gate,gateV.tt,gateV.ff,gateV.tf,gateV.ft,gateV.un,Dps.nil,Dps.newSl,Dps.op,Dps.call,Dps.gate,dopV.mk,dopV.new,dgateV.tt,dgateV.ff,dgateV.tf,dgateV.ft,dgateV.un,I.isLoad,resQ.r,resQ.n,stepQ.n,stepQ.e,stepQ.r,set_some,set_none,of_nil,of_cons,rho_tmp,rho_const,rho_func,g_put,g_nil,evI,Ae.bin,binI,Ae.un,nilEq,lenOf,if_true,if_false,Nat.reduceEqDiff,Nat.reduceAdd,Nat.zero_add,reduceIte,List.map_cons,List.map_nil,Option.map_some,Option.bind_some,evRs,evR,one,Option.some.injEq,exists_eq_left',exists_eq_left,List.all_nil,reduceCtorEq,true_and,and_true,parts',fill_int,fill_bool,fill_slice,fill_ptr,fill_nil,reps_one,List.replicate,List.length_cons,List.length_nil,Nat.reduceLeDiff,List.set_cons_zero,List.set_cons_succ,List.length_set,List.length_replicate,adr,Nat.mul_one,decide_true,decide_false,Int.reduceBEq,Int.reduceBNe,Int.reduceLT,Int.reduceLE,Int.reduceNeg,beq_self_eq_true,bne_self_eq_false,Bool.not_true,Bool.not_false,cast_zero,cast_one,List.size_toArray,List.getElem?_toArray,List.getElem?_cons_zero,List.getElem?_cons_succ,H_eta,isTuple,cells_int,cells_bool,cells_slice,cells_ptr,cells_agg,put_one,dopX.f,dopX.t,kept_zero,Nat.add_zero,ge_iff_le,gt_iff_lt,Ops.callvV,callvV.mk,List.nil_append,List.cons_append,List.append_nil,List.toList_toArray,Option.map_none,optNat_n,optNat_s,H.up_zero,gateV.und,dgateV.und, H.ld_up, ld_blk h1p, kept_no (show p < h1.next by omega)]
    refine dcallV.chk (del_ok hb1 hlen) fun v h2 hv => ?_
    obtain ⟨rest, rfl, h2n, h2b, hrl, h2k⟩ := hv
    have h2p : h2.get p = some ⟨[lv, int outs, int next, .bool false], false⟩ := by rw [h2k p hpb]; exact h1p
    refine ⟨?_, ?_⟩
    · rw [List.all_cons, List.all_nil, Bool.and_true]
      refine chk_ld (b := p) (o := 0) (u := lv) ?_ ?_ ?_ ?_
      · simp only [At.skip,At.reg,At.regDu,At.seq,At.cond,At.block,At.exit,At.ret,On.nil,On.seq,On.seqE,On.seqR,On.out,On.outR,On.outE,condV.t,condV.f,Ops.nil,Ops.op,Ops.call,opV.mk,Ops.gate,gateV.tt,gateV.ff,gateV.tf,gateV.ft,gateV.un,Dps.nil,Dps.newSl,Dps.op,Dps.call,Dps.gate,dopV.mk,dopV.new,dgateV.tt,dgateV.ff,dgateV.tf,dgateV.ft,dgateV.un,I.isLoad,resQ.r,resQ.n,stepQ.n,stepQ.e,stepQ.r,set_some,set_none,of_nil,of_cons,rho_tmp,rho_const,rho_func,g_put,g_nil,evI,Ae.bin,binI,Ae.un,nilEq,lenOf,if_true,if_false,Nat.reduceEqDiff,Nat.reduceAdd,Nat.zero_add,reduceIte,List.map_cons,List.map_nil,Option.map_some,Option.bind_some,evRs,evR,one,Option.some.injEq,exists_eq_left',exists_eq_left,List.all_nil,reduceCtorEq,true_and,and_true,parts',fill_int,fill_bool,fill_slice,fill_ptr,fill_nil,reps_one,List.replicate,List.length_cons,List.length_nil,Nat.reduceLeDiff,List.set_cons_zero,List.set_cons_succ,List.length_set,List.length_replicate,adr,Nat.mul_one,decide_true,decide_false,Int.reduceBEq,Int.reduceBNe,Int.reduceLT,Int.reduceLE,Int.reduceNeg,beq_self_eq_true,bne_self_eq_false,Bool.not_true,Bool.not_false,cast_zero,cast_one,List.size_toArray,List.getElem?_toArray,List.getElem?_cons_zero,List.getElem?_cons_succ,H_eta,isTuple,cells_int,cells_bool,cells_slice,cells_ptr,cells_agg,put_one,dopX.f,dopX.t,kept_zero,Nat.add_zero,ge_iff_le,gt_iff_lt,Ops.callvV,callvV.mk,List.nil_append,List.cons_append,List.append_nil,List.toList_toArray,Option.map_none,optNat_n,optNat_s,H.up_zero,gateV.und,dgateV.und]
      · rw [ld_blk h2p]; rfl
      · simp only [At.skip,At.reg,At.regDu,At.seq,At.cond,At.block,At.exit,At.ret,On.nil,On.seq,On.seqE,On.seqR,On.out,On.outR,On.outE,condV.t,condV.f,Ops.nil,Ops.op,Ops.call,opV.mk,Ops.gate,gateV.tt,gateV.ff,gateV.tf,gateV.ft,gateV.un,Dps.nil,Dps.newSl,Dps.op,Dps.call,Dps.gate,dopV.mk,dopV.new,dgateV.tt,dgateV.ff,dgateV.tf,dgateV.ft,dgateV.un,I.isLoad,resQ.r,resQ.n,stepQ.n,stepQ.e,stepQ.r,set_some,set_none,of_nil,of_cons,rho_tmp,rho_const,rho_func,g_put,g_nil,evI,Ae.bin,binI,Ae.un,nilEq,lenOf,if_true,if_false,Nat.reduceEqDiff,Nat.reduceAdd,Nat.zero_add,reduceIte,List.map_cons,List.map_nil,Option.map_some,Option.bind_some,evRs,evR,one,Option.some.injEq,exists_eq_left',exists_eq_left,List.all_nil,reduceCtorEq,true_and,and_true,parts',fill_int,fill_bool,fill_slice,fill_ptr,fill_nil,reps_one,List.replicate,List.length_cons,List.length_nil,Nat.reduceLeDiff,List.set_cons_zero,List.set_cons_succ,List.length_set,List.length_replicate,adr,Nat.mul_one,decide_true,decide_false,Int.reduceBEq,Int.reduceBNe,Int.reduceLT,Int.reduceLE,Int.reduceNeg,beq_self_eq_true,bne_self_eq_false,Bool.not_true,Bool.not_false,cast_zero,cast_one,List.size_toArray,List.getElem?_toArray,List.getElem?_cons_zero,List.getElem?_cons_succ,H_eta,isTuple,cells_int,cells_bool,cells_slice,cells_ptr,cells_agg,put_one,dopX.f,dopX.t,kept_zero,Nat.add_zero,ge_iff_le,gt_iff_lt,Ops.callvV,callvV.mk,List.nil_append,List.cons_append,List.append_nil,List.toList_toArray,Option.map_none,optNat_n,optNat_s,H.up_zero,gateV.und,dgateV.und]
      · rw [hlv]; exact veqa_slice _ _ _
    generalize hel : Value.slice (some ⟨b, 0, none⟩) (no0 ls).length ls.length = el
    generalize hh3 : h2.set h1.next (some ⟨[el], false⟩) = h3
    have h1ne : b ≠ h1.next := by omega
    have h1np : p ≠ h1.next := by omega
    have h3n : h3.next = h1.next + 1 := by rw [← hh3]; exact h2n
    have h3g : ∀ i, i ≠ h1.next → h3.get i = h2.get i := fun i hi => by rw [← hh3, H.get_set, if_neg hi]
    have h3p : h3.get p = some ⟨[lv, int outs, int next, .bool false], false⟩ := by rw [h3g p h1np]; exact h2p
    have h3b : h3.get b = some ⟨ints (no0 ls ++ rest), false⟩ := by rw [h3g b h1ne]; exact h2b
    -- what was there ahead, but for the struct
    have h3k : ∀ i, i < h0.next → i ≠ p → h3.get i = h0.get i := fun i hi hip => by
      rw [h3g i (by omega), h2k i (by omega), H.get_up, h1g i hip]; exact hk i (by omega)
    have a3 : Acc n h3 lv vs := w4.keep (by omega) fun i hi => h3k i (w4.old i hi) fun e => w5 (by rw [← e]; exact hi)
    have r3 : Rd h3 (.slice (some ⟨h1.next, 0, none⟩) 1 1) [el] := ⟨_, 1, rfl, Nat.le_refl _, .inr ⟨h1.next, 0, none, rfl, lds_all (by rw [← hh3, H.get_set, if_pos rfl])⟩⟩
    have hone : el.oneCell' = true := by rw [← hel]; rfl
    obtain ⟨v', h4, e4, a4, n4, k4⟩ := a3.app (bytes := 24) r3 (by omega) (by simp [hone]) (by simp; omega)
    have hne4 : ∀ i, blkOf lv = some i → i < h0.next ∧ i ≠ p := fun i hi => ⟨w4.old i hi, fun e => w5 (by rw [← e]; exact hi)⟩
    have h4p : h4.get p = some ⟨[lv, int outs, int next, .bool false], false⟩ := by rw [k4 p (by omega) w5]; exact h3p
    have hti : isTuple el = false := by rw [← hel]; rfl
    have hce : el.cells = #[el] := by rw [← hel]; rfl
    obtain ⟨b', s', hv'⟩ : ∃ b' m, v' = .slice b' (vs ++ [el]).length m := by
      obtain ⟨base, cap, e⟩ := a4.rd.len; exact ⟨base, cap, e⟩
    have hst : h4.sts p 0 [v'] = some (h4.set p (some ⟨[v', int outs, int next, .bool false], false⟩)) := sts_of h4p rfl (by simp) (by rw [hv']; rfl)
    have eb : ∀ i, blkOf v' = some i → blkOf lv = some i ∨ h3.next ≤ i := fun i hi => app_blk e4 hi
    rw [hv'] at hst e4
    simp only [At.skip,At.reg,At.regDu,At.seq,At.cond,At.block,At.exit,At.ret,On.nil,On.seq,On.seqE,On.seqR,On.out,On.outR,On.outE,condV.t,condV.f,Ops.nil,Ops.op,Ops.call,opV.mk,Ops.gate,gateV.tt,gateV.ff,gateV.tf,gateV.ft,gateV.un,Dps.nil,Dps.newSl,Dps.op,Dps.call,Dps.gate,dopV.mk,dopV.new,dgateV.tt,dgateV.ff,dgateV.tf,dgateV.ft,dgateV.un,I.isLoad,resQ.r,resQ.n,stepQ.n,stepQ.e,stepQ.r,set_some,set_none,of_nil,of_cons,rho_tmp,rho_const,rho_func,g_put,g_nil,evI,Ae.bin,binI,Ae.un,nilEq,lenOf,if_true,if_false,Nat.reduceEqDiff,Nat.reduceAdd,Nat.zero_add,reduceIte,List.map_cons,List.map_nil,Option.map_some,Option.bind_some,evRs,evR,one,Option.some.injEq,exists_eq_left',exists_eq_left,List.all_nil,reduceCtorEq,true_and,and_true,parts',fill_int,fill_bool,fill_slice,fill_ptr,fill_nil,reps_one,List.replicate,List.length_cons,List.length_nil,Nat.reduceLeDiff,List.set_cons_zero,List.set_cons_succ,List.length_set,List.length_replicate,adr,Nat.mul_one,decide_true,decide_false,Int.reduceBEq,Int.reduceBNe,Int.reduceLT,Int.reduceLE,Int.reduceNeg,beq_self_eq_true,bne_self_eq_false,Bool.not_true,Bool.not_false,cast_zero,cast_one,List.size_toArray,List.getElem?_toArray,List.getElem?_cons_zero,List.getElem?_cons_succ,H_eta,isTuple,cells_int,cells_bool,cells_slice,cells_ptr,cells_agg,put_one,dopX.f,dopX.t,kept_zero,Nat.add_zero,ge_iff_le,gt_iff_lt,Ops.callvV,callvV.mk,List.nil_append,List.cons_append,List.append_nil,List.toList_toArray,Option.map_none,optNat_n,optNat_s,H.up_zero,gateV.und,dgateV.und, fill_one hti hce (show 0 + 1 ≤ [Value.slice none 0 0].length by simp), hh3, e4, hst]
    rw [← hv']
    have hbe : ∀ i, blkOf el = some i → i = b := fun i hi => by rw [← hel] at hi; cases hi; rfl
    generalize hh5 : h4.set p (some ⟨[v', int outs, int next, .bool false], false⟩) = h5
    have h5n : h5.next = h4.next := by rw [← hh5]; rfl
    have h5p : h5.get p = some ⟨[v', int outs, int next, .bool false], false⟩ := by rw [← hh5, H.get_set, if_pos rfl]
    have h5l : lvB h5 p = blkOf v' := by simp [lvB, h5p]
    have h5g : ∀ i, i ≠ p → h5.get i = h4.get i := fun i hi => by rw [← hh5, H.get_set, if_neg hi]
    have h5k : ∀ i, i < h0.next → i ≠ p → blkOf lv ≠ some i → h5.get i = h0.get i := fun i hi hip hl => by rw [h5g i hip, k4 i (by omega) hl, h3k i hi hip]
    have h5v : ∀ i, i < h0.next → blkOf lv ≠ some i → blkOf v' ≠ some i := fun i hi hl e => (eb i e).elim hl fun h => by omega
    refine hq h5 ⟨by omega, fun i hi _ hip hl => h5k i hi hip (by rw [← hlv0]; exact hl), fun i hi hl => by rw [h5l]; exact h5v i hi (by rw [← hlv0]; exact hl)⟩ ?_
    rw [if_neg (by simp [hfu]), show (false || decide (L.length = 1048576)) = false by simp [hfu]]
    have hbv : blkOf lv ≠ some b := fun e => by have := w4.old b e; omega
    have h5b : h5.get b = some ⟨ints (no0 ls ++ rest), false⟩ := by rw [h5g b (Ne.symm hpb), k4 b (by omega) hbv]; exact h3b
    refine ⟨w1, by omega, v', vs ++ [el], h5p, a4.keep (by omega) (fun i hi => h5g i fun e => ?_), fun e => ?_, by simp [w6], fun j c l hc hl => ?_⟩
    · subst e; exact h5v i w2 w5 hi
    · exact h5v p w2 w5 e
    · by_cases hj : j < vs.length
      · rw [List.getElem?_append_left hj] at hc
        rw [List.getElem?_append_left (by omega)] at hl
        obtain ⟨r1, r2⟩ := w7 j c l hc hl
        refine ⟨r1.keep fun i hi => ?_, fun i hi => ?_⟩
        · obtain ⟨a1, a2, a3⟩ := r2 i hi
          exact h5k i a1 a2 (by rw [← hlv0]; exact a3)
        · obtain ⟨a1, a2, a3⟩ := r2 i hi
          exact ⟨by omega, a2, by rw [h5l]; exact h5v i a1 (by rw [← hlv0]; exact a3)⟩
      · rw [List.getElem?_append_right (by omega)] at hc hl
        have hj1 : j - vs.length = 0 := by
          have := (List.getElem?_eq_some_iff.1 hc).1
          simpa using this
        have hj2 : j - L.length = 0 := by omega
        rw [hj1] at hc
        rw [hj2] at hl
        simp only [List.getElem?_cons_zero, Option.some.injEq] at hc hl
        subst hc hl
        refine ⟨?_, fun i hi => ?_⟩
        · rw [← hel]
          refine ⟨some ⟨b, 0, none⟩, ls.length, by simp, ?_, .inr ⟨b, 0, none, rfl, ?_⟩⟩
          · simp only [List.length_map]; exact List.length_filter_le _ _
          · simp only [H.lds, h5b, Option.bind_some, Nat.zero_add, List.length_map, List.drop_zero]
            rw [if_pos (by simp), ints, List.map_append, List.take_left' (by simp)]
        · have := hbe i hi
          subst this
          exact ⟨by omega, Ne.symm hpb, by rw [h5l]; exact fun e => (eb _ e).elim hbv fun h => by omega⟩
  · have hsz : (h.sts p 3 [.bool true]) = some (h.set p (some ⟨[lv, int outs, int next, .bool true], false⟩)) := sts_of hp rfl (by simp) rfl
    simp only [At.skip,At.reg,At.regDu,At.seq,At.cond,At.block,At.exit,At.ret,On.nil,On.seq,On.seqE,On.seqR,On.out,On.outR,On.outE,condV.t,condV.f,Ops.nil,Ops.op,Ops.call,opV.mk,Ops.gate,gateV.tt,gateV.ff,gateV.tf,gateV.ft,gateV.un,Dps.nil,Dps.newSl,Dps.op,Dps.call,Dps.gate,dopV.mk,dopV.new,dgateV.tt,dgateV.ff,dgateV.tf,dgateV.ft,dgateV.un,I.isLoad,resQ.r,resQ.n,stepQ.n,stepQ.e,stepQ.r,set_some,set_none,of_nil,of_cons,rho_tmp,rho_const,rho_func,g_put,g_nil,evI,Ae.bin,binI,Ae.un,nilEq,lenOf,if_true,if_false,Nat.reduceEqDiff,Nat.reduceAdd,Nat.zero_add,reduceIte,List.map_cons,List.map_nil,Option.map_some,Option.bind_some,evRs,evR,one,Option.some.injEq,exists_eq_left',exists_eq_left,List.all_nil,reduceCtorEq,true_and,and_true,parts',fill_int,fill_bool,fill_slice,fill_ptr,fill_nil,reps_one,List.replicate,List.length_cons,List.length_nil,Nat.reduceLeDiff,List.set_cons_zero,List.set_cons_succ,List.length_set,List.length_replicate,adr,Nat.mul_one,decide_true,decide_false,Int.reduceBEq,Int.reduceBNe,Int.reduceLT,Int.reduceLE,Int.reduceNeg,beq_self_eq_true,bne_self_eq_false,Bool.not_true,Bool.not_false,cast_zero,cast_one,List.size_toArray,List.getElem?_toArray,List.getElem?_cons_zero,List.getElem?_cons_succ,H_eta,isTuple,cells_int,cells_bool,cells_slice,cells_ptr,cells_agg,put_one,dopX.f,dopX.t,kept_zero,Nat.add_zero,ge_iff_le,gt_iff_lt,Ops.callvV,callvV.mk,List.nil_append,List.cons_append,List.append_nil,List.toList_toArray,Option.map_none,optNat_n,optNat_s,H.up_zero,gateV.und,dgateV.und, hsz, ld_set]
    exact stop true (.inl rfl)

theorem Wk.open {n p : Nat} {h : H} {outs next : Int} {full : Bool} {L : List (List Int)} (w : Wk n h p outs L next full) :
    ∃ lv, h.get p = some ⟨[lv, int outs, int next, .bool full], false⟩ ∧ (∃ b c, lv = .slice b L.length c) ∧ lvB h p ≠ some p ∧
      ∀ h' next' full', h.next ≤ h'.next → h'.get p = some ⟨[lv, int outs, int next', .bool full'], false⟩ → (∀ i, i < h.next → i ≠ p → h'.get i = h.get i) → Wk n h' p outs L next' full' ∧ Kx none p h h' := by
  obtain ⟨w1, w2, lv, vs, w3, w4, w5, w6, w7⟩ := w
  have hl : lvB h p = blkOf lv := by simp [lvB, w3]
  refine ⟨lv, w3, ?_, by rw [hl]; exact w5, fun h' next' full' h1 h2 h3 => ?_⟩
  · obtain ⟨b, c, e⟩ := w4.rd.len
    exact ⟨b, c, by rw [e, w6]⟩
  · have hl' : lvB h' p = blkOf lv := by simp [lvB, h2]
    have k : Kx none p h h' := ⟨h1, fun i hi _ hp _ => h3 i hi hp, fun i _ hi => by rw [hl']; rw [hl] at hi; exact hi⟩
    refine ⟨⟨w1, by omega, lv, vs, h2, w4.keep h1 (fun i hi => h3 i (w4.old i hi) fun e => w5 (by rw [← e]; exact hi)), w5, w6, fun j c l hc hl => ?_⟩, k⟩
    obtain ⟨r1, r2⟩ := w7 j c l hc hl
    exact ⟨Rd.kx r1 r2 k, r2.kx k⟩
end Go.Proofs.Ytnejnaoehcahbaa
