/-
  One act, done to both.
-/
import Derived.Test.YtnejnaoehcahbaaAeInv
import Derived.Test.YtnejnaoehcahbaaR5
namespace Go.Proofs.Ytnejnaoehcahbaa.q
open Go Go.Ae
set_option linter.unusedSimpArgs false

theorem bump_out {b : Blks} {h : H} {q : QS} {v : Int} (r : QR b h q) (hs : q.step ≠ 0) (h1 : ¬ (1 ≤ v ∧ v < q.S.length)) : AF E 23 [wv b, int v] h fun e h' => e = int 2 ∧ h' = h := by
  refine AF.walk (E_fn comp23) (E_spec (by decide) _ _) ?_
  simp only [At.skip,At.reg,At.regDu,At.seq,At.cond,At.block,At.exit,At.ret,On.nil,On.seq,On.seqE,On.seqR,On.out,On.outR,On.outE,condV.t,condV.f,Ops.nil,Ops.op,Ops.call,opV.mk,Ops.gate,gateV.tt,gateV.ff,gateV.tf,gateV.ft,gateV.un,Dps.nil,Dps.newSl,Dps.op,Dps.call,Dps.gate,dopV.mk,dopV.new,dgateV.tt,dgateV.ff,dgateV.tf,dgateV.ft,dgateV.un,Go.Ae.I.isLoad,resQ.r,resQ.n,stepQ.n,stepQ.e,stepQ.r,set_some,set_none,of_nil,of_cons,rho_tmp,rho_const,rho_func,g_put,g_nil,evI,Ae.bin,binI,Ae.un,nilEq,lenOf,if_true,if_false,Nat.reduceEqDiff,Nat.reduceAdd,Nat.zero_add,reduceIte,List.map_cons,List.map_nil,Option.map_some,Option.bind_some,evRs,evR,one,Option.some.injEq,exists_eq_left',exists_eq_left,List.all_nil,reduceCtorEq,true_and,and_true,parts',fill_int,fill_bool,fill_slice,fill_ptr,fill_nil,reps_one,List.replicate,List.length_cons,List.length_nil,Nat.reduceLeDiff,List.set_cons_zero,List.set_cons_succ,List.length_set,List.length_replicate,adr,Nat.mul_one,decide_true,decide_false,Int.reduceBEq,Int.reduceBNe,Int.reduceLT,Int.reduceLE,Int.reduceNeg,beq_self_eq_true,bne_self_eq_false,Bool.not_true,Bool.not_false,cast_zero,cast_one,List.size_toArray,List.getElem?_toArray,List.getElem?_cons_zero,List.getElem?_cons_succ,H_eta,isTuple,cells_int,cells_bool,cells_slice,cells_ptr,cells_agg,put_one,dopX.f,dopX.t,kept_zero,Nat.add_zero,ge_iff_le,gt_iff_lt,Ops.callvV,callvV.mk,List.nil_append,List.cons_append,List.append_nil,List.toList_toArray,Option.map_none,optNat_n,optNat_s,H.up_zero,gateV.und,dgateV.und,Dps.callvV,dcallvV.mk,Ops.invV,invV.mk,findV.mk, c23, c23_0, c23_1]
  refine callV.of (asked_ok r hs) fun w h2 hv => ?_
  obtain ⟨rfl, e⟩ := hv
  rw [if_neg h1, e]
  simp only [At.skip,At.reg,At.regDu,At.seq,At.cond,At.block,At.exit,At.ret,On.nil,On.seq,On.seqE,On.seqR,On.out,On.outR,On.outE,condV.t,condV.f,Ops.nil,Ops.op,Ops.call,opV.mk,Ops.gate,gateV.tt,gateV.ff,gateV.tf,gateV.ft,gateV.un,Dps.nil,Dps.newSl,Dps.op,Dps.call,Dps.gate,dopV.mk,dopV.new,dgateV.tt,dgateV.ff,dgateV.tf,dgateV.ft,dgateV.un,Go.Ae.I.isLoad,resQ.r,resQ.n,stepQ.n,stepQ.e,stepQ.r,set_some,set_none,of_nil,of_cons,rho_tmp,rho_const,rho_func,g_put,g_nil,evI,Ae.bin,binI,Ae.un,nilEq,lenOf,if_true,if_false,Nat.reduceEqDiff,Nat.reduceAdd,Nat.zero_add,reduceIte,List.map_cons,List.map_nil,Option.map_some,Option.bind_some,evRs,evR,one,Option.some.injEq,exists_eq_left',exists_eq_left,List.all_nil,reduceCtorEq,true_and,and_true,parts',fill_int,fill_bool,fill_slice,fill_ptr,fill_nil,reps_one,List.replicate,List.length_cons,List.length_nil,Nat.reduceLeDiff,List.set_cons_zero,List.set_cons_succ,List.length_set,List.length_replicate,adr,Nat.mul_one,decide_true,decide_false,Int.reduceBEq,Int.reduceBNe,Int.reduceLT,Int.reduceLE,Int.reduceNeg,beq_self_eq_true,bne_self_eq_false,Bool.not_true,Bool.not_false,cast_zero,cast_one,List.size_toArray,List.getElem?_toArray,List.getElem?_cons_zero,List.getElem?_cons_succ,H_eta,isTuple,cells_int,cells_bool,cells_slice,cells_ptr,cells_agg,put_one,dopX.f,dopX.t,kept_zero,Nat.add_zero,ge_iff_le,gt_iff_lt,Ops.callvV,callvV.mk,List.nil_append,List.cons_append,List.append_nil,List.toList_toArray,Option.map_none,optNat_n,optNat_s,H.up_zero,gateV.und,dgateV.und,Dps.callvV,dcallvV.mk,Ops.invV,invV.mk,findV.mk, c23_2, c23_3]

theorem w_set {r : RS} {x v : Int} {y : Bool} (hx : 0 ≤ x) (hx2 : x < r.W.length) (hv : 0 ≤ v) : RS.w { r with W := r.W.set x.toNat y } v = if v = x then y else r.w v := by
  unfold RS.w
  simp only
  by_cases hal : v.toNat < r.W.length
  · rw [getB_at (by simpa using hal), List.getElem_set]
    by_cases e : v = x
    · rw [if_pos (by rw [e]), if_pos e]
    · rw [if_neg (by omega), if_neg e, getB_at hal]
  · rw [if_neg (by omega)]
    simp [List.getD_eq_getElem?_getD, show r.W.length ≤ v.toNat by omega]

theorem St.pop {b : Blks} {rb : RB} {h h' h'' : H} {n : Nat} {q q' : QS} {r : RS} (s : St b rb h n q r) (o' : Ok b h' q') (P : Popped q q') (h0 : 0 < q.L.length)
    (R' : RR rb h'' { r with W := r.W.set (q.l 0).toNat false }) (f' : Fr' rb h' h'') (hn : h.next ≤ h'.next) : St b rb h'' n q' { r with W := r.W.set (q.l 0).toNat false } := by
  have I := s.k.o.i
  have h1 := I.l h0
  have ln := s.R.ln
  have rl := s.rl
  have pl := s.pl
  have hsc : q'.sc = q.sc := by funext v; unfold QS.sc; rw [P.s]
  have k' : Qi b h' q' := ⟨o', by rw [hsc]; exact P.hp, by rw [P.s]; exact s.k.sb, by rw [P.st]; exact s.k.st⟩
  refine ⟨k'.qr (s.ds.mono hn) f', R', ⟨s.rel.s.trans P.s.symm, s.rel.st.trans P.st.symm, fun v v1 v2 => ?_⟩, by rw [P.s]; exact s.sl, s.n1, by rw [P.cap, P.pl]; exact s.cap, (s.ds.mono hn).mono (Nat.le_of_eq f'.1.symm)⟩
  rw [P.pl] at v2
  rw [w_set (by omega) (by omega) (by omega)]
  by_cases e : v = q.l 0
  · rw [if_pos e, e, P.gone]
    simp
  · rw [if_neg e, s.rel.wt v v1 v2, P.wt v v1 v2 e]

theorem St.upd {b : Blks} {rb : RB} {h h' h'' : H} {n : Nat} {q q' : QS} {r : RS} {S : List Int} {step : Int} (s : St b rb h n q r) (k' : Qi b h' q') (u : Upd q S step q')
    (R' : RR rb h'' { r with S := S, step := step }) (f' : Fr' rb h' h'') (hn : h.next ≤ h'.next) : St b rb h'' n q' { r with S := S, step := step } := by
  refine ⟨k'.qr (s.ds.mono hn) f', R', ⟨u.s.symm, u.st.symm, fun v v1 v2 => ?_⟩, by rw [← k'.o.i.ps, u.pl]; exact s.pl, s.n1, by rw [u.ll, u.j, u.pl]; exact s.cap, (s.ds.mono hn).mono (Nat.le_of_eq f'.1.symm)⟩
  rw [u.pl] at v2
  exact (s.rel.wt v v1 v2).trans (u.wt v v1 v2).symm

theorem St.back {b : Blks} {rb : RB} {h h' h'' : H} {n : Nat} {q q' : QS} {r : RS} {v : Int} (s : St b rb h n q r) (k' : Qi b h' q') (u : Backed q v q') (v1 : 1 ≤ v) (v2 : v < q.S.length)
    (R' : RR rb h'' { r with W := r.W.set v.toNat true }) (f' : Fr' rb h' h'') (hn : h.next ≤ h'.next) : St b rb h'' n q' { r with W := r.W.set v.toNat true } := by
  have ln := s.R.ln
  have rl := s.rl
  have sl := s.sl
  refine ⟨k'.qr (s.ds.mono hn) f', R', ⟨s.rel.s.trans u.s.symm, s.rel.st.trans u.st.symm, fun a a1 a2 => ?_⟩, by rw [u.s]; exact s.sl, s.n1, by rw [u.cap, u.pl]; exact s.cap, (s.ds.mono hn).mono (Nat.le_of_eq f'.1.symm)⟩
  rw [u.pl] at a2
  rw [w_set (by omega) (by omega) (by omega), u.wt a a1 a2]
  by_cases e : a = v
  · rw [if_pos e]; simp [e]
  · rw [if_neg e, s.rel.wt a a1 a2]; simp [e]

theorem St.bd {b : Blks} {rb : RB} {h : H} {n : Nat} {q : QS} {r : RS} (s : St b rb h n q r) : RBd r := ⟨by rw [s.rel.s]; exact s.k.sb, by rw [s.rel.st]; exact s.k.st⟩

/-- The first of the heap is the document's best. -/
theorem St.best {b : Blks} {rb : RB} {h : H} {n : Nat} {q : QS} {r : RS} (s : St b rb h n q r) {x : Nat} (hb : Best r r.S.length x) : (q.L.length = 0 ↔ x = 0) ∧ (0 < q.L.length → q.l 0 = x) := by
  have I := s.k.o.i
  have p := s.k.o.p
  have rl := s.rl
  have pl := s.pl
  have esc : ∀ v : Nat, r.S.getD v 0 = q.sc v := fun v => by unfold QS.sc; rw [s.rel.s, Int.toNat_natCast]
  have ew : ∀ v : Nat, r.W.getD v false = r.w v := fun v => by unfold RS.w; rw [Int.toNat_natCast]
  have first : 0 < q.L.length → 1 ≤ q.l 0 ∧ q.l 0 < n ∧ r.W.getD (q.l 0).toNat false = true := fun h0 => by
    have h1 := I.l h0
    have h2 := p.at_ 0 h0
    refine ⟨h1.1, by omega, ?_⟩
    exact (s.rel.wt _ h1.1 h1.2).2 (by omega)
  rcases hb with ⟨rfl, hb⟩ | ⟨h1, h2, h3, hb⟩
  · have h0 : q.L.length = 0 := by
      rcases Nat.eq_zero_or_pos q.L.length with h | h
      · exact h
      · obtain ⟨a1, a2, a3⟩ := first h
        rw [hb _ (by omega) (by omega)] at a3
        cases a3
    exact ⟨⟨fun _ => rfl, fun _ => h0⟩, fun h => by omega⟩
  · rw [ew] at h3
    have h4 := (s.rel.wt x (by omega) (by omega)).1 h3
    rcases p.of x (by omega) (by omega) with h5 | ⟨_, h5, h6⟩
    · omega
    · have hp0 : 0 < q.L.length := by omega
      obtain ⟨a1, a2, a3⟩ := first hp0
      refine ⟨⟨fun h => by omega, fun h => by omega⟩, fun _ => ?_⟩
      have c1 := hb (q.l 0).toNat (by omega) (by omega) a3
      have c2 := s.k.hp.root (q.pi x).toNat (by omega)
      rw [h6] at c2
      rw [esc, esc, Int.toNat_of_nonneg (by omega)] at c1
      unfold le lt at c2
      omega
end Go.Proofs.Ytnejnaoehcahbaa.q
