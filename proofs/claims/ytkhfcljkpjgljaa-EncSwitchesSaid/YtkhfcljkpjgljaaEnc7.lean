/-
  The law EncSwitches, its loops.
-/
import Derived.Test.YtkhfcljkpjgljaaAeData
import Derived.Test.YtkhfcljkpjgljaaPlain14
import Derived.Test.YtkhfcljkpjgljaaRef00
namespace Go.Proofs.Ytkhfcljkpjgljaa
open Go Go.Ae
set_option linter.unusedSimpArgs false

theorem Rds.row {n : Nat} {h : H} {v : Value} {lss : List (List Int)} (r : Rds n h v lss) {j : Nat} (hj : j < lss.length) :
    ∃ b o s cap rv, v = .slice (some ⟨b, o, s⟩) lss.length cap ∧ h.ld b (o + j) = some rv ∧ Rd h rv (ints lss[j]) ∧ Old n rv ∧ Spt rv ∧ b < n := by
  obtain ⟨cs, h1, h2, h3, h4⟩ := r
  obtain ⟨b, o, s, cap, rfl, hl⟩ := h1.at (show j < cs.length by omega)
  obtain ⟨r1, r2, r3⟩ := h4 j cs[j] lss[j] (List.getElem?_eq_getElem _) (List.getElem?_eq_getElem _)
  exact ⟨b, o, s, cap, _, by rw [h3], hl, r1, r2, r3, h2 b rfl⟩

theorem withG0 (p : Option Nat × List Int) : withG (fun _ d => d ++ []) p = p.2 := by unfold withG; split <;> simp

structure EC where
  c : Cir
  f : Int
  sb : Nat
  hA : H
  lv : Value
  rv : Value
structure EOk (e : EC) : Prop where
  rl : Rds e.sb e.hA e.lv ((baseC e.c e.f.toNat).map (withG fun _ d => d ++ []))
  rr : Rds e.sb e.hA e.rv ((baseC e.c e.f.toNat).map (withG fun i d => d ++ [firstP e.c e.f + i]))
  len : (baseC e.c e.f.toNat).length ≤ 100000000
  g : e.c.gats.length ≤ 200
  fi : 0 ≤ firstP e.c e.f ∧ firstP e.c e.f ≤ 1000000000000
  f0 : 0 < e.f ∧ e.f ≤ 60

structure ET (e : EC) (T : Tm) : Prop where
  g1 : g T 1 = int e.f
  g5 : g T 5 = e.lv
  g7 : g T 7 = e.rv
  g8 : g T 8 = int (firstP e.c e.f)
  g10 : g T 10 = int (1 + e.f * nvars e.c)
  g12 : g T 12 = .slice (some ⟨e.sb, 0, none⟩) e.c.gats.length e.c.gats.length
theorem ET.keep {e : EC} {T T' : Tm} (t : ET e T) (k : ∀ j, j = 1 ∨ j = 5 ∨ j = 7 ∨ j = 8 ∨ j = 10 ∨ j = 12 → g T' j = g T j) : ET e T' :=
  ⟨(k 1 (by omega)).trans t.g1, (k 5 (by omega)).trans t.g5, (k 7 (by omega)).trans t.g7, (k 8 (by omega)).trans t.g8, (k 10 (by omega)).trans t.g10, (k 12 (by omega)).trans t.g12⟩

/-- The heap, with what was seen so far. -/
structure Seen (e : EC) (h : H) (S : List Int) (B : List (Option Nat × List Int)) : Prop where
  next : h.next = e.hA.next
  oth : ∀ i, i ≠ e.sb → h.get i = e.hA.get i
  get : h.get e.sb = some ⟨ints S, false⟩
  len : S.length = e.c.gats.length
  cnt : ∀ i (hi : i < S.length), S[i] = cntG i B

inductive W1 (e : EC) : Nat → Tm → H → Prop
  | mk {T : Tm} {h : H} (j : Nat) (S : List Int) (hj : j ≤ (baseC e.c e.f.toNat).length) (t : ET e T) (s : Seen e h S ((baseC e.c e.f.toNat).take j)) (g68 : g T 68 = int (baseC e.c e.f.toNat).length) (g69 : g T 69 = int j) : W1 e ((baseC e.c e.f.toNat).length - j) T h

abbrev cW1 : C := .loop (.seq c3_12 (.seq (.cond (.tmp 70) .skip (.exit 0)) (.seq (.block 1 (.seq c3_13 (.seq c3_14 (.seq (.seq c3_15 (.cond (.tmp 85) (.exit 1) .skip)) (.seq (.seq c3_16 (.cond (.tmp 132) (.seq c3_17 .ret) .skip)) c3_18))))) c3_19)))

theorem cntG_take {B : List (Option Nat × List Int)} {j : Nat} (hj : j < B.length) (i : Nat) : cntG i (B.take (j + 1)) = cntG i (B.take j) + (if B[j].1 = some i then 1 else 0) := by
  rw [take_succ hj, cntG_append]
  congr 1
  unfold cntG
  by_cases h : B[j].1 = some i <;> simp [h]

set_option maxHeartbeats 8000000 in
theorem seen_ok {e : EC} (k : EOk e) {T : Tm} {h : H} {fs : List Fm} {Q : Ex → Tm → H → Prop} {S : List Int} (t : ET e T) (s : Seen e h S []) (g68 : g T 68 = int (baseC e.c e.f.toNat).length) (g69 : g T 69 = int (0 : Nat))
    (fin : ∀ T' h' S', ET e T' → Seen e h' S' (baseC e.c e.f.toNat) → On E (.exit 0) T' h' fs Q) : At E cW1 T h fs Q := by
  have kl := k.len
  have kg := k.g
  have kf := k.fi
  refine At.loop (W1 e) ?_ (baseC e.c e.f.toNat).length ?_
  · rintro w T h ⟨j, S, hj, t, s, g68, g69⟩
    simp only [At.skip,At.reg,At.regDu,At.seq,At.cond,At.block,At.exit,At.ret,On.nil,On.seq,On.seqE,On.seqR,On.out,On.outR,On.outE,condV.t,condV.f,Ops.nil,Ops.op,Ops.call,opV.mk,Ops.gate,gateV.tt,gateV.ff,gateV.tf,gateV.ft,gateV.un,Dps.nil,Dps.newSl,Dps.op,Dps.call,Dps.gate,dopV.mk,dopV.new,dgateV.tt,dgateV.ff,dgateV.tf,dgateV.ft,dgateV.un,I.isLoad,resQ.r,resQ.n,stepQ.n,stepQ.e,stepQ.r,set_some,set_none,of_nil,of_cons,rho_tmp,rho_const,rho_func,g_put,g_nil,evI,Ae.bin,binI,Ae.un,nilEq,lenOf,if_true,if_false,Nat.reduceEqDiff,Nat.reduceAdd,Nat.zero_add,reduceIte,List.map_cons,List.map_nil,Option.map_some,Option.bind_some,evRs,evR,one,Option.some.injEq,exists_eq_left',exists_eq_left,List.all_nil,reduceCtorEq,true_and,and_true,parts',fill_int,fill_bool,fill_slice,fill_ptr,fill_nil,reps_one,List.replicate,List.length_cons,List.length_nil,Nat.reduceLeDiff,List.set_cons_zero,List.set_cons_succ,List.length_set,List.length_replicate,adr,Nat.mul_one,decide_true,decide_false,Int.reduceBEq,Int.reduceBNe,Int.reduceLT,Int.reduceLE,Int.reduceNeg,beq_self_eq_true,bne_self_eq_false,Bool.not_true,Bool.not_false,cast_zero,cast_one,List.size_toArray,List.getElem?_toArray,List.getElem?_cons_zero,List.getElem?_cons_succ,H_eta,isTuple,cells_int,cells_bool,cells_slice,cells_ptr,cells_agg,put_one,dopX.f,dopX.t,kept_zero,Nat.add_zero,ge_iff_le,gt_iff_lt,Ops.callvV,callvV.mk,List.nil_append,List.cons_append,List.append_nil,List.toList_toArray,Option.map_none,optNat_n,optNat_s,H.up_zero,gateV.und,dgateV.und,Dps.callvV,dcallvV.mk, c3_12, g68, g69, Int.ofNat_lt]
    by_cases hlt : j < (baseC e.c e.f.toNat).length
    · have hx : Ext e.sb e.hA h := ⟨by rw [s.next]; exact Nat.le_refl _, fun i hi => s.oth i (by omega)⟩
      obtain ⟨b1, o1, s1, q1, x1, hl1, hd1, r1, ol1, sp1, hb1⟩ := Rds.row (k.rl.ext hx) (show j < _ by rw [List.length_map]; exact hlt)
      obtain ⟨b2, o2, s2, q2, x2, hl2, hd2, r2, ol2, sp2, hb2⟩ := Rds.row (k.rr.ext hx) (show j < _ by rw [List.length_map]; exact hlt)
      rw [List.length_map] at hl1 hl2
      rw [List.getElem_map] at r1 r2
      rw [withG0] at r1
      obtain ⟨p, hp⟩ : ∃ p, p = (baseC e.c e.f.toNat)[j] := ⟨_, rfl⟩
      have hpm : p ∈ baseC e.c e.f.toNat := by rw [hp]; exact List.getElem_mem hlt
      have hsh := base_short hpm
      rw [← hp] at r1 r2
      have g5 := t.g5.trans hl1
      have g7 := t.g7.trans hl2
      obtain ⟨xa, xm, hx1⟩ := r1.len
      rw [List.length_map] at hx1
      obtain ⟨ya, ym, hy1⟩ := r2.len
      rw [List.length_map] at hy1
      subst hx1 hy1
      have wj : IntKind.i64.wrap ((j : Int) + 1) = ((j + 1 : Nat) : Int) := by rw [wrap_id (by omega) (by omega)]; omega
      have nj := natOf_int (k := .i64) (Int.natCast_nonneg j)
      simp only [At.skip,At.reg,At.regDu,At.seq,At.cond,At.block,At.exit,At.ret,On.nil,On.seq,On.seqE,On.seqR,On.out,On.outR,On.outE,condV.t,condV.f,Ops.nil,Ops.op,Ops.call,opV.mk,Ops.gate,gateV.tt,gateV.ff,gateV.tf,gateV.ft,gateV.un,Dps.nil,Dps.newSl,Dps.op,Dps.call,Dps.gate,dopV.mk,dopV.new,dgateV.tt,dgateV.ff,dgateV.tf,dgateV.ft,dgateV.un,I.isLoad,resQ.r,resQ.n,stepQ.n,stepQ.e,stepQ.r,set_some,set_none,of_nil,of_cons,rho_tmp,rho_const,rho_func,g_put,g_nil,evI,Ae.bin,binI,Ae.un,nilEq,lenOf,if_true,if_false,Nat.reduceEqDiff,Nat.reduceAdd,Nat.zero_add,reduceIte,List.map_cons,List.map_nil,Option.map_some,Option.bind_some,evRs,evR,one,Option.some.injEq,exists_eq_left',exists_eq_left,List.all_nil,reduceCtorEq,true_and,and_true,parts',fill_int,fill_bool,fill_slice,fill_ptr,fill_nil,reps_one,List.replicate,List.length_cons,List.length_nil,Nat.reduceLeDiff,List.set_cons_zero,List.set_cons_succ,List.length_set,List.length_replicate,adr,Nat.mul_one,decide_true,decide_false,Int.reduceBEq,Int.reduceBNe,Int.reduceLT,Int.reduceLE,Int.reduceNeg,beq_self_eq_true,bne_self_eq_false,Bool.not_true,Bool.not_false,cast_zero,cast_one,List.size_toArray,List.getElem?_toArray,List.getElem?_cons_zero,List.getElem?_cons_succ,H_eta,isTuple,cells_int,cells_bool,cells_slice,cells_ptr,cells_agg,put_one,dopX.f,dopX.t,kept_zero,Nat.add_zero,ge_iff_le,gt_iff_lt,Ops.callvV,callvV.mk,List.nil_append,List.cons_append,List.append_nil,List.toList_toArray,Option.map_none,optNat_n,optNat_s,H.up_zero,gateV.und,dgateV.und,Dps.callvV,dcallvV.mk, hlt, c3_13, c3_14, g5, g7, g69, nj, Int.toNat_natCast, hd1, c3_15, H.ld_up, hd2]
      refine dcallV.of (ints_ok (xs := p.2) (ys := withG (fun i d => d ++ [firstP e.c e.f + i]) p) (r1.keep fun _ _ => rfl) (r2.keep fun _ _ => rfl) (by omega)) fun v h2 hv => ?_
      obtain ⟨rfl, rfl⟩ := hv
      obtain ⟨og, d⟩ := p
      cases og with
      | none =>
        have : d = withG (fun i d => d ++ [firstP e.c e.f + i]) (none, d) := rfl
        simp only [At.skip,At.reg,At.regDu,At.seq,At.cond,At.block,At.exit,At.ret,On.nil,On.seq,On.seqE,On.seqR,On.out,On.outR,On.outE,condV.t,condV.f,Ops.nil,Ops.op,Ops.call,opV.mk,Ops.gate,gateV.tt,gateV.ff,gateV.tf,gateV.ft,gateV.un,Dps.nil,Dps.newSl,Dps.op,Dps.call,Dps.gate,dopV.mk,dopV.new,dgateV.tt,dgateV.ff,dgateV.tf,dgateV.ft,dgateV.un,I.isLoad,resQ.r,resQ.n,stepQ.n,stepQ.e,stepQ.r,set_some,set_none,of_nil,of_cons,rho_tmp,rho_const,rho_func,g_put,g_nil,evI,Ae.bin,binI,Ae.un,nilEq,lenOf,if_true,if_false,Nat.reduceEqDiff,Nat.reduceAdd,Nat.zero_add,reduceIte,List.map_cons,List.map_nil,Option.map_some,Option.bind_some,evRs,evR,one,Option.some.injEq,exists_eq_left',exists_eq_left,List.all_nil,reduceCtorEq,true_and,and_true,parts',fill_int,fill_bool,fill_slice,fill_ptr,fill_nil,reps_one,List.replicate,List.length_cons,List.length_nil,Nat.reduceLeDiff,List.set_cons_zero,List.set_cons_succ,List.length_set,List.length_replicate,adr,Nat.mul_one,decide_true,decide_false,Int.reduceBEq,Int.reduceBNe,Int.reduceLT,Int.reduceLE,Int.reduceNeg,beq_self_eq_true,bne_self_eq_false,Bool.not_true,Bool.not_false,cast_zero,cast_one,List.size_toArray,List.getElem?_toArray,List.getElem?_cons_zero,List.getElem?_cons_succ,H_eta,isTuple,cells_int,cells_bool,cells_slice,cells_ptr,cells_agg,put_one,dopX.f,dopX.t,kept_zero,Nat.add_zero,ge_iff_le,gt_iff_lt,Ops.callvV,callvV.mk,List.nil_append,List.cons_append,List.append_nil,List.toList_toArray,Option.map_none,optNat_n,optNat_s,H.up_zero,gateV.und,dgateV.und,Dps.callvV,dcallvV.mk, ← this, c3_19, g69, wj]
        refine ⟨_, ?_, .mk (j + 1) S hlt (t.keep fun q hq => ?_) ⟨s.next, s.oth, s.get, s.len, fun i hi => ?_⟩ ?_ ?_⟩
        · omega
        · simp only [At.skip,At.reg,At.regDu,At.seq,At.cond,At.block,At.exit,At.ret,On.nil,On.seq,On.seqE,On.seqR,On.out,On.outR,On.outE,condV.t,condV.f,Ops.nil,Ops.op,Ops.call,opV.mk,Ops.gate,gateV.tt,gateV.ff,gateV.tf,gateV.ft,gateV.un,Dps.nil,Dps.newSl,Dps.op,Dps.call,Dps.gate,dopV.mk,dopV.new,dgateV.tt,dgateV.ff,dgateV.tf,dgateV.ft,dgateV.un,I.isLoad,resQ.r,resQ.n,stepQ.n,stepQ.e,stepQ.r,set_some,set_none,of_nil,of_cons,rho_tmp,rho_const,rho_func,g_put,g_nil,evI,Ae.bin,binI,Ae.un,nilEq,lenOf,if_true,if_false,Nat.reduceEqDiff,Nat.reduceAdd,Nat.zero_add,reduceIte,List.map_cons,List.map_nil,Option.map_some,Option.bind_some,evRs,evR,one,Option.some.injEq,exists_eq_left',exists_eq_left,List.all_nil,reduceCtorEq,true_and,and_true,parts',fill_int,fill_bool,fill_slice,fill_ptr,fill_nil,reps_one,List.replicate,List.length_cons,List.length_nil,Nat.reduceLeDiff,List.set_cons_zero,List.set_cons_succ,List.length_set,List.length_replicate,adr,Nat.mul_one,decide_true,decide_false,Int.reduceBEq,Int.reduceBNe,Int.reduceLT,Int.reduceLE,Int.reduceNeg,beq_self_eq_true,bne_self_eq_false,Bool.not_true,Bool.not_false,cast_zero,cast_one,List.size_toArray,List.getElem?_toArray,List.getElem?_cons_zero,List.getElem?_cons_succ,H_eta,isTuple,cells_int,cells_bool,cells_slice,cells_ptr,cells_agg,put_one,dopX.f,dopX.t,kept_zero,Nat.add_zero,ge_iff_le,gt_iff_lt,Ops.callvV,callvV.mk,List.nil_append,List.cons_append,List.append_nil,List.toList_toArray,Option.map_none,optNat_n,optNat_s,H.up_zero,gateV.und,dgateV.und,Dps.callvV,dcallvV.mk]
          repeat rw [if_neg (by omega)]
        · rw [s.cnt i hi, cntG_take hlt, ← hp]; simp
        · simp only [At.skip,At.reg,At.regDu,At.seq,At.cond,At.block,At.exit,At.ret,On.nil,On.seq,On.seqE,On.seqR,On.out,On.outR,On.outE,condV.t,condV.f,Ops.nil,Ops.op,Ops.call,opV.mk,Ops.gate,gateV.tt,gateV.ff,gateV.tf,gateV.ft,gateV.un,Dps.nil,Dps.newSl,Dps.op,Dps.call,Dps.gate,dopV.mk,dopV.new,dgateV.tt,dgateV.ff,dgateV.tf,dgateV.ft,dgateV.un,I.isLoad,resQ.r,resQ.n,stepQ.n,stepQ.e,stepQ.r,set_some,set_none,of_nil,of_cons,rho_tmp,rho_const,rho_func,g_put,g_nil,evI,Ae.bin,binI,Ae.un,nilEq,lenOf,if_true,if_false,Nat.reduceEqDiff,Nat.reduceAdd,Nat.zero_add,reduceIte,List.map_cons,List.map_nil,Option.map_some,Option.bind_some,evRs,evR,one,Option.some.injEq,exists_eq_left',exists_eq_left,List.all_nil,reduceCtorEq,true_and,and_true,parts',fill_int,fill_bool,fill_slice,fill_ptr,fill_nil,reps_one,List.replicate,List.length_cons,List.length_nil,Nat.reduceLeDiff,List.set_cons_zero,List.set_cons_succ,List.length_set,List.length_replicate,adr,Nat.mul_one,decide_true,decide_false,Int.reduceBEq,Int.reduceBNe,Int.reduceLT,Int.reduceLE,Int.reduceNeg,beq_self_eq_true,bne_self_eq_false,Bool.not_true,Bool.not_false,cast_zero,cast_one,List.size_toArray,List.getElem?_toArray,List.getElem?_cons_zero,List.getElem?_cons_succ,H_eta,isTuple,cells_int,cells_bool,cells_slice,cells_ptr,cells_agg,put_one,dopX.f,dopX.t,kept_zero,Nat.add_zero,ge_iff_le,gt_iff_lt,Ops.callvV,callvV.mk,List.nil_append,List.cons_append,List.append_nil,List.toList_toArray,Option.map_none,optNat_n,optNat_s,H.up_zero,gateV.und,dgateV.und,Dps.callvV,dcallvV.mk, g68]
        · simp only [At.skip,At.reg,At.regDu,At.seq,At.cond,At.block,At.exit,At.ret,On.nil,On.seq,On.seqE,On.seqR,On.out,On.outR,On.outE,condV.t,condV.f,Ops.nil,Ops.op,Ops.call,opV.mk,Ops.gate,gateV.tt,gateV.ff,gateV.tf,gateV.ft,gateV.un,Dps.nil,Dps.newSl,Dps.op,Dps.call,Dps.gate,dopV.mk,dopV.new,dgateV.tt,dgateV.ff,dgateV.tf,dgateV.ft,dgateV.un,I.isLoad,resQ.r,resQ.n,stepQ.n,stepQ.e,stepQ.r,set_some,set_none,of_nil,of_cons,rho_tmp,rho_const,rho_func,g_put,g_nil,evI,Ae.bin,binI,Ae.un,nilEq,lenOf,if_true,if_false,Nat.reduceEqDiff,Nat.reduceAdd,Nat.zero_add,reduceIte,List.map_cons,List.map_nil,Option.map_some,Option.bind_some,evRs,evR,one,Option.some.injEq,exists_eq_left',exists_eq_left,List.all_nil,reduceCtorEq,true_and,and_true,parts',fill_int,fill_bool,fill_slice,fill_ptr,fill_nil,reps_one,List.replicate,List.length_cons,List.length_nil,Nat.reduceLeDiff,List.set_cons_zero,List.set_cons_succ,List.length_set,List.length_replicate,adr,Nat.mul_one,decide_true,decide_false,Int.reduceBEq,Int.reduceBNe,Int.reduceLT,Int.reduceLE,Int.reduceNeg,beq_self_eq_true,bne_self_eq_false,Bool.not_true,Bool.not_false,cast_zero,cast_one,List.size_toArray,List.getElem?_toArray,List.getElem?_cons_zero,List.getElem?_cons_succ,H_eta,isTuple,cells_int,cells_bool,cells_slice,cells_ptr,cells_agg,put_one,dopX.f,dopX.t,kept_zero,Nat.add_zero,ge_iff_le,gt_iff_lt,Ops.callvV,callvV.mk,List.nil_append,List.cons_append,List.append_nil,List.toList_toArray,Option.map_none,optNat_n,optNat_s,H.up_zero,gateV.und,dgateV.und,Dps.callvV,dcallvV.mk]
      | some i =>
        have hne : ¬ d = withG (fun i d => d ++ [firstP e.c e.f + i]) (some i, d) := by
          intro h
          have := congrArg List.length h
          simp [withG] at this
        have hi := base_gate hpm rfl
        have hsd : d.length ≤ 3 := hsh
        have hi2 : i < S.length := by rw [s.len]; exact hi
        have hwg : withG (fun i d => d ++ [firstP e.c e.f + i]) (some i, d) = d ++ [firstP e.c e.f + i] := rfl
        have hwl2 : (d ++ [firstP e.c e.f + (i : Int)]).length = d.length + 1 := by simp
        have hwl : (withG (fun i d => d ++ [firstP e.c e.f + i]) (some i, d)).length = d.length + 1 := by rw [hwg]; simp
        rw [hwg, hwl2] at r2
        rw [hwl] at sp2 hd2
        obtain ⟨u, eu, ru, bu, spu⟩ := Rd.slcTo r2 sp2 (k := d.length) (by simp)
        have hut : (ints (d ++ [firstP e.c e.f + i])).take d.length = ints d := by rw [← List.map_take]; simp
        rw [hut] at ru
        obtain ⟨yb, yo, ys, yc, hyb, hyl⟩ := r2.at (show d.length < (ints (d ++ [firstP e.c e.f + i])).length by simp)
        have hlast : (ints (d ++ [firstP e.c e.f + i]))[d.length]'(by simp) = int (firstP e.c e.f + i) := by simp
        rw [hlast] at hyl
        have hlen1 : (ints (d ++ [firstP e.c e.f + i])).length = d.length + 1 := by simp
        rw [hlen1] at hyb
        cases hyb
        have nd := natOf_int (k := .i64) (Int.natCast_nonneg d.length)
        have ni := natOf_int (k := .i64) (Int.natCast_nonneg i)
        have wd : IntKind.i64.wrap ((d.length : Int) + 1) = ((d.length + 1 : Nat) : Int) := by rw [wrap_id (by omega) (by omega)]; omega
        have wf : IntKind.i64.wrap (firstP e.c e.f + e.c.gats.length) = firstP e.c e.f + e.c.gats.length := wrap_id (by omega) (by omega)
        have ws : IntKind.i64.wrap (firstP e.c e.f + i - firstP e.c e.f) = (i : Int) := by rw [wrap_id (by omega) (by omega)]; omega
        have hld : h2.ld e.sb i = some (int S[i]) := by rw [ld_blk s.get, List.getElem?_map, List.getElem?_eq_getElem hi2]; rfl
        have hc0 := s.cnt i hi2
        have hcl : cntG i ((baseC e.c e.f.toNat).take j) ≤ 100000000 := by
          unfold cntG
          refine Nat.le_trans (List.length_filter_le _ _) ?_
          simp; omega
        have wS : IntKind.i64.wrap (S[i] + 1) = S[i] + 1 := wrap_id (by omega) (by omega)
        simp only [At.skip,At.reg,At.regDu,At.seq,At.cond,At.block,At.exit,At.ret,On.nil,On.seq,On.seqE,On.seqR,On.out,On.outR,On.outE,condV.t,condV.f,Ops.nil,Ops.op,Ops.call,opV.mk,Ops.gate,gateV.tt,gateV.ff,gateV.tf,gateV.ft,gateV.un,Dps.nil,Dps.newSl,Dps.op,Dps.call,Dps.gate,dopV.mk,dopV.new,dgateV.tt,dgateV.ff,dgateV.tf,dgateV.ft,dgateV.un,I.isLoad,resQ.r,resQ.n,stepQ.n,stepQ.e,stepQ.r,set_some,set_none,of_nil,of_cons,rho_tmp,rho_const,rho_func,g_put,g_nil,evI,Ae.bin,binI,Ae.un,nilEq,lenOf,if_true,if_false,Nat.reduceEqDiff,Nat.reduceAdd,Nat.zero_add,reduceIte,List.map_cons,List.map_nil,Option.map_some,Option.bind_some,evRs,evR,one,Option.some.injEq,exists_eq_left',exists_eq_left,List.all_nil,reduceCtorEq,true_and,and_true,parts',fill_int,fill_bool,fill_slice,fill_ptr,fill_nil,reps_one,List.replicate,List.length_cons,List.length_nil,Nat.reduceLeDiff,List.set_cons_zero,List.set_cons_succ,List.length_set,List.length_replicate,adr,Nat.mul_one,decide_true,decide_false,Int.reduceBEq,Int.reduceBNe,Int.reduceLT,Int.reduceLE,Int.reduceNeg,beq_self_eq_true,bne_self_eq_false,Bool.not_true,Bool.not_false,cast_zero,cast_one,List.size_toArray,List.getElem?_toArray,List.getElem?_cons_zero,List.getElem?_cons_succ,H_eta,isTuple,cells_int,cells_bool,cells_slice,cells_ptr,cells_agg,put_one,dopX.f,dopX.t,kept_zero,Nat.add_zero,ge_iff_le,gt_iff_lt,Ops.callvV,callvV.mk,List.nil_append,List.cons_append,List.append_nil,List.toList_toArray,Option.map_none,optNat_n,optNat_s,H.up_zero,gateV.und,dgateV.und,Dps.callvV,dcallvV.mk, hne, c3_16, g5, g7, t.g8, t.g12, g69, nj, Int.toNat_natCast, hlt, H.ld_up, hd1, hd2, hwl, wd, bne_self_eq_false, nd, eu]
        refine dcallV.of (ints_ok (xs := d) (ys := d) (ru.keep fun _ _ => rfl) (r1.keep fun _ _ => rfl) (by omega)) fun v h3 hv => ?_
        obtain ⟨rfl, rfl⟩ := hv
        have hst : h3.sts e.sb i [int (S[i] + 1)] = some (h3.set e.sb (some ⟨ints (S.set i (S[i] + 1)), false⟩)) := by
          rw [sts_of s.get rfl (by simp; omega) rfl, put_one, ints, ints, List.map_set]
        simp only [At.skip,At.reg,At.regDu,At.seq,At.cond,At.block,At.exit,At.ret,On.nil,On.seq,On.seqE,On.seqR,On.out,On.outR,On.outE,condV.t,condV.f,Ops.nil,Ops.op,Ops.call,opV.mk,Ops.gate,gateV.tt,gateV.ff,gateV.tf,gateV.ft,gateV.un,Dps.nil,Dps.newSl,Dps.op,Dps.call,Dps.gate,dopV.mk,dopV.new,dgateV.tt,dgateV.ff,dgateV.tf,dgateV.ft,dgateV.un,I.isLoad,resQ.r,resQ.n,stepQ.n,stepQ.e,stepQ.r,set_some,set_none,of_nil,of_cons,rho_tmp,rho_const,rho_func,g_put,g_nil,evI,Ae.bin,binI,Ae.un,nilEq,lenOf,if_true,if_false,Nat.reduceEqDiff,Nat.reduceAdd,Nat.zero_add,reduceIte,List.map_cons,List.map_nil,Option.map_some,Option.bind_some,evRs,evR,one,Option.some.injEq,exists_eq_left',exists_eq_left,List.all_nil,reduceCtorEq,true_and,and_true,parts',fill_int,fill_bool,fill_slice,fill_ptr,fill_nil,reps_one,List.replicate,List.length_cons,List.length_nil,Nat.reduceLeDiff,List.set_cons_zero,List.set_cons_succ,List.length_set,List.length_replicate,adr,Nat.mul_one,decide_true,decide_false,Int.reduceBEq,Int.reduceBNe,Int.reduceLT,Int.reduceLE,Int.reduceNeg,beq_self_eq_true,bne_self_eq_false,Bool.not_true,Bool.not_false,cast_zero,cast_one,List.size_toArray,List.getElem?_toArray,List.getElem?_cons_zero,List.getElem?_cons_succ,H_eta,isTuple,cells_int,cells_bool,cells_slice,cells_ptr,cells_agg,put_one,dopX.f,dopX.t,kept_zero,Nat.add_zero,ge_iff_le,gt_iff_lt,Ops.callvV,callvV.mk,List.nil_append,List.cons_append,List.append_nil,List.toList_toArray,Option.map_none,optNat_n,optNat_s,H.up_zero,gateV.und,dgateV.und,Dps.callvV,dcallvV.mk, g5, g7, t.g8, t.g12, g69, nj, Int.toNat_natCast, hlt, hd1, hd2, nd, Nat.lt_succ_self, hyl, show ¬ (firstP e.c e.f + (i : Int) < firstP e.c e.f) by omega, wf, show ¬ (firstP e.c e.f + (e.c.gats.length : Int) ≤ firstP e.c e.f + i) by omega, c3_18, ws, ni, hi, hld, wS, hst, c3_19, wj]
        refine ⟨_, ?_, .mk (j + 1) (S.set i (S[i] + 1)) hlt (t.keep fun q hq => ?_) ⟨s.next, fun i' hi' => by rw [H.get_set, if_neg hi']; exact s.oth i' hi', by rw [H.get_set, if_pos rfl], by rw [List.length_set]; exact s.len, fun i' hi' => ?_⟩ ?_ ?_⟩
        · omega
        · simp only [At.skip,At.reg,At.regDu,At.seq,At.cond,At.block,At.exit,At.ret,On.nil,On.seq,On.seqE,On.seqR,On.out,On.outR,On.outE,condV.t,condV.f,Ops.nil,Ops.op,Ops.call,opV.mk,Ops.gate,gateV.tt,gateV.ff,gateV.tf,gateV.ft,gateV.un,Dps.nil,Dps.newSl,Dps.op,Dps.call,Dps.gate,dopV.mk,dopV.new,dgateV.tt,dgateV.ff,dgateV.tf,dgateV.ft,dgateV.un,I.isLoad,resQ.r,resQ.n,stepQ.n,stepQ.e,stepQ.r,set_some,set_none,of_nil,of_cons,rho_tmp,rho_const,rho_func,g_put,g_nil,evI,Ae.bin,binI,Ae.un,nilEq,lenOf,if_true,if_false,Nat.reduceEqDiff,Nat.reduceAdd,Nat.zero_add,reduceIte,List.map_cons,List.map_nil,Option.map_some,Option.bind_some,evRs,evR,one,Option.some.injEq,exists_eq_left',exists_eq_left,List.all_nil,reduceCtorEq,true_and,and_true,parts',fill_int,fill_bool,fill_slice,fill_ptr,fill_nil,reps_one,List.replicate,List.length_cons,List.length_nil,Nat.reduceLeDiff,List.set_cons_zero,List.set_cons_succ,List.length_set,List.length_replicate,adr,Nat.mul_one,decide_true,decide_false,Int.reduceBEq,Int.reduceBNe,Int.reduceLT,Int.reduceLE,Int.reduceNeg,beq_self_eq_true,bne_self_eq_false,Bool.not_true,Bool.not_false,cast_zero,cast_one,List.size_toArray,List.getElem?_toArray,List.getElem?_cons_zero,List.getElem?_cons_succ,H_eta,isTuple,cells_int,cells_bool,cells_slice,cells_ptr,cells_agg,put_one,dopX.f,dopX.t,kept_zero,Nat.add_zero,ge_iff_le,gt_iff_lt,Ops.callvV,callvV.mk,List.nil_append,List.cons_append,List.append_nil,List.toList_toArray,Option.map_none,optNat_n,optNat_s,H.up_zero,gateV.und,dgateV.und,Dps.callvV,dcallvV.mk]
          repeat rw [if_neg (by omega)]
        · rw [List.length_set] at hi'
          rw [cntG_take hlt, ← hp, List.getElem_set]
          by_cases hii : i = i'
          · subst hii
            rw [if_pos rfl, hc0]; simp
          · rw [if_neg hii, s.cnt i' hi']
            simp [hii]
        · simp only [At.skip,At.reg,At.regDu,At.seq,At.cond,At.block,At.exit,At.ret,On.nil,On.seq,On.seqE,On.seqR,On.out,On.outR,On.outE,condV.t,condV.f,Ops.nil,Ops.op,Ops.call,opV.mk,Ops.gate,gateV.tt,gateV.ff,gateV.tf,gateV.ft,gateV.un,Dps.nil,Dps.newSl,Dps.op,Dps.call,Dps.gate,dopV.mk,dopV.new,dgateV.tt,dgateV.ff,dgateV.tf,dgateV.ft,dgateV.un,I.isLoad,resQ.r,resQ.n,stepQ.n,stepQ.e,stepQ.r,set_some,set_none,of_nil,of_cons,rho_tmp,rho_const,rho_func,g_put,g_nil,evI,Ae.bin,binI,Ae.un,nilEq,lenOf,if_true,if_false,Nat.reduceEqDiff,Nat.reduceAdd,Nat.zero_add,reduceIte,List.map_cons,List.map_nil,Option.map_some,Option.bind_some,evRs,evR,one,Option.some.injEq,exists_eq_left',exists_eq_left,List.all_nil,reduceCtorEq,true_and,and_true,parts',fill_int,fill_bool,fill_slice,fill_ptr,fill_nil,reps_one,List.replicate,List.length_cons,List.length_nil,Nat.reduceLeDiff,List.set_cons_zero,List.set_cons_succ,List.length_set,List.length_replicate,adr,Nat.mul_one,decide_true,decide_false,Int.reduceBEq,Int.reduceBNe,Int.reduceLT,Int.reduceLE,Int.reduceNeg,beq_self_eq_true,bne_self_eq_false,Bool.not_true,Bool.not_false,cast_zero,cast_one,List.size_toArray,List.getElem?_toArray,List.getElem?_cons_zero,List.getElem?_cons_succ,H_eta,isTuple,cells_int,cells_bool,cells_slice,cells_ptr,cells_agg,put_one,dopX.f,dopX.t,kept_zero,Nat.add_zero,ge_iff_le,gt_iff_lt,Ops.callvV,callvV.mk,List.nil_append,List.cons_append,List.append_nil,List.toList_toArray,Option.map_none,optNat_n,optNat_s,H.up_zero,gateV.und,dgateV.und,Dps.callvV,dcallvV.mk, g68]
        · simp only [At.skip,At.reg,At.regDu,At.seq,At.cond,At.block,At.exit,At.ret,On.nil,On.seq,On.seqE,On.seqR,On.out,On.outR,On.outE,condV.t,condV.f,Ops.nil,Ops.op,Ops.call,opV.mk,Ops.gate,gateV.tt,gateV.ff,gateV.tf,gateV.ft,gateV.un,Dps.nil,Dps.newSl,Dps.op,Dps.call,Dps.gate,dopV.mk,dopV.new,dgateV.tt,dgateV.ff,dgateV.tf,dgateV.ft,dgateV.un,I.isLoad,resQ.r,resQ.n,stepQ.n,stepQ.e,stepQ.r,set_some,set_none,of_nil,of_cons,rho_tmp,rho_const,rho_func,g_put,g_nil,evI,Ae.bin,binI,Ae.un,nilEq,lenOf,if_true,if_false,Nat.reduceEqDiff,Nat.reduceAdd,Nat.zero_add,reduceIte,List.map_cons,List.map_nil,Option.map_some,Option.bind_some,evRs,evR,one,Option.some.injEq,exists_eq_left',exists_eq_left,List.all_nil,reduceCtorEq,true_and,and_true,parts',fill_int,fill_bool,fill_slice,fill_ptr,fill_nil,reps_one,List.replicate,List.length_cons,List.length_nil,Nat.reduceLeDiff,List.set_cons_zero,List.set_cons_succ,List.length_set,List.length_replicate,adr,Nat.mul_one,decide_true,decide_false,Int.reduceBEq,Int.reduceBNe,Int.reduceLT,Int.reduceLE,Int.reduceNeg,beq_self_eq_true,bne_self_eq_false,Bool.not_true,Bool.not_false,cast_zero,cast_one,List.size_toArray,List.getElem?_toArray,List.getElem?_cons_zero,List.getElem?_cons_succ,H_eta,isTuple,cells_int,cells_bool,cells_slice,cells_ptr,cells_agg,put_one,dopX.f,dopX.t,kept_zero,Nat.add_zero,ge_iff_le,gt_iff_lt,Ops.callvV,callvV.mk,List.nil_append,List.cons_append,List.append_nil,List.toList_toArray,Option.map_none,optNat_n,optNat_s,H.up_zero,gateV.und,dgateV.und,Dps.callvV,dcallvV.mk]
    · have : j = (baseC e.c e.f.toNat).length := by omega
      subst this
      simp only [At.skip,At.reg,At.regDu,At.seq,At.cond,At.block,At.exit,At.ret,On.nil,On.seq,On.seqE,On.seqR,On.out,On.outR,On.outE,condV.t,condV.f,Ops.nil,Ops.op,Ops.call,opV.mk,Ops.gate,gateV.tt,gateV.ff,gateV.tf,gateV.ft,gateV.un,Dps.nil,Dps.newSl,Dps.op,Dps.call,Dps.gate,dopV.mk,dopV.new,dgateV.tt,dgateV.ff,dgateV.tf,dgateV.ft,dgateV.un,I.isLoad,resQ.r,resQ.n,stepQ.n,stepQ.e,stepQ.r,set_some,set_none,of_nil,of_cons,rho_tmp,rho_const,rho_func,g_put,g_nil,evI,Ae.bin,binI,Ae.un,nilEq,lenOf,if_true,if_false,Nat.reduceEqDiff,Nat.reduceAdd,Nat.zero_add,reduceIte,List.map_cons,List.map_nil,Option.map_some,Option.bind_some,evRs,evR,one,Option.some.injEq,exists_eq_left',exists_eq_left,List.all_nil,reduceCtorEq,true_and,and_true,parts',fill_int,fill_bool,fill_slice,fill_ptr,fill_nil,reps_one,List.replicate,List.length_cons,List.length_nil,Nat.reduceLeDiff,List.set_cons_zero,List.set_cons_succ,List.length_set,List.length_replicate,adr,Nat.mul_one,decide_true,decide_false,Int.reduceBEq,Int.reduceBNe,Int.reduceLT,Int.reduceLE,Int.reduceNeg,beq_self_eq_true,bne_self_eq_false,Bool.not_true,Bool.not_false,cast_zero,cast_one,List.size_toArray,List.getElem?_toArray,List.getElem?_cons_zero,List.getElem?_cons_succ,H_eta,isTuple,cells_int,cells_bool,cells_slice,cells_ptr,cells_agg,put_one,dopX.f,dopX.t,kept_zero,Nat.add_zero,ge_iff_le,gt_iff_lt,Ops.callvV,callvV.mk,List.nil_append,List.cons_append,List.append_nil,List.toList_toArray,Option.map_none,optNat_n,optNat_s,H.up_zero,gateV.und,dgateV.und,Dps.callvV,dcallvV.mk, hlt]
      refine fin _ _ S (t.keep fun q hq => ?_) (by have := s; rwa [List.take_length] at this)
      simp only [At.skip,At.reg,At.regDu,At.seq,At.cond,At.block,At.exit,At.ret,On.nil,On.seq,On.seqE,On.seqR,On.out,On.outR,On.outE,condV.t,condV.f,Ops.nil,Ops.op,Ops.call,opV.mk,Ops.gate,gateV.tt,gateV.ff,gateV.tf,gateV.ft,gateV.un,Dps.nil,Dps.newSl,Dps.op,Dps.call,Dps.gate,dopV.mk,dopV.new,dgateV.tt,dgateV.ff,dgateV.tf,dgateV.ft,dgateV.un,I.isLoad,resQ.r,resQ.n,stepQ.n,stepQ.e,stepQ.r,set_some,set_none,of_nil,of_cons,rho_tmp,rho_const,rho_func,g_put,g_nil,evI,Ae.bin,binI,Ae.un,nilEq,lenOf,if_true,if_false,Nat.reduceEqDiff,Nat.reduceAdd,Nat.zero_add,reduceIte,List.map_cons,List.map_nil,Option.map_some,Option.bind_some,evRs,evR,one,Option.some.injEq,exists_eq_left',exists_eq_left,List.all_nil,reduceCtorEq,true_and,and_true,parts',fill_int,fill_bool,fill_slice,fill_ptr,fill_nil,reps_one,List.replicate,List.length_cons,List.length_nil,Nat.reduceLeDiff,List.set_cons_zero,List.set_cons_succ,List.length_set,List.length_replicate,adr,Nat.mul_one,decide_true,decide_false,Int.reduceBEq,Int.reduceBNe,Int.reduceLT,Int.reduceLE,Int.reduceNeg,beq_self_eq_true,bne_self_eq_false,Bool.not_true,Bool.not_false,cast_zero,cast_one,List.size_toArray,List.getElem?_toArray,List.getElem?_cons_zero,List.getElem?_cons_succ,H_eta,isTuple,cells_int,cells_bool,cells_slice,cells_ptr,cells_agg,put_one,dopX.f,dopX.t,kept_zero,Nat.add_zero,ge_iff_le,gt_iff_lt,Ops.callvV,callvV.mk,List.nil_append,List.cons_append,List.append_nil,List.toList_toArray,Option.map_none,optNat_n,optNat_s,H.up_zero,gateV.und,dgateV.und,Dps.callvV,dcallvV.mk]
      repeat rw [if_neg (by omega)]
  · exact .mk 0 S (Nat.zero_le _) t s g68 g69
end Go.Proofs.Ytkhfcljkpjgljaa
