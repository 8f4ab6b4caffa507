/-
  The queue and the document's: the same who wait, with the same scores.
-/
import Derived.Test.YtnejnaoehcahbaaAeInv
import Derived.Test.YtnejnaoehcahbaaR4
namespace Go.Proofs.Ytnejnaoehcahbaa.q
open Go Go.Ae
set_option linter.unusedSimpArgs false

structure Rel (q : QS) (r : RS) : Prop where
  s : r.S = q.S
  st : r.step = q.step
  wt : ∀ v : Int, 1 ≤ v → v < q.P.length → (r.w v = true ↔ 0 ≤ q.pi v)

theorem QR.keep {b : Blks} {h h' : H} {q : QS} (r : QR b h q) (hn : h.next ≤ h'.next) (k : ∀ i, i = b.p ∨ (b.nil = false ∧ i = b.bl) ∨ i = b.bp ∨ i = b.bs → h'.get i = h.get i) : QR b h' q := by
  refine ⟨r.d, (k _ (.inl rfl)).trans r.gp, ?_, r.nn, (k _ (.inr (.inr (.inl rfl)))).trans r.gpl, (k _ (.inr (.inr (.inr rfl)))).trans r.gs, Nat.lt_of_lt_of_le r.np hn, r.nl.imp_right fun h => Nat.lt_of_lt_of_le h hn, Nat.lt_of_lt_of_le r.npl hn, Nat.lt_of_lt_of_le r.ns hn⟩
  rcases hb : b.nil with _ | _
  · exact .inr ((k _ (.inr (.inl ⟨hb, rfl⟩))).trans (r.gl.resolve_left (by rw [hb]; decide)))
  · exact .inl rfl
theorem Qi.keep {b : Blks} {h h' : H} {q : QS} (r : Qi b h q) (hn : h.next ≤ h'.next) (k : ∀ i, i = b.p ∨ (b.nil = false ∧ i = b.bl) ∨ i = b.bp ∨ i = b.bs → h'.get i = h.get i) : Qi b h' q :=
  ⟨⟨r.o.r.keep hn k, r.o.i, r.o.p⟩, r.hp, r.sb, r.st⟩
theorem RR.keep {b : RB} {h h' : H} {r : RS} (R : RR b h r) (hn : h.next ≤ h'.next) (k : ∀ i, i = b.p ∨ i = b.bs ∨ i = b.bw → h'.get i = h.get i) : RR b h' r :=
  ⟨(k _ (.inl rfl)).trans R.gp, (k _ (.inr (.inl rfl))).trans R.gs, (k _ (.inr (.inr rfl))).trans R.gw, R.d1, R.d2, R.d3, R.ln, R.sz, Nat.lt_of_lt_of_le R.n1 hn, Nat.lt_of_lt_of_le R.n2 hn, Nat.lt_of_lt_of_le R.n3 hn⟩

/-- Blocks of the one and of the other are apart. -/
structure Dis (b : Blks) (rb : RB) (h : H) : Prop where
  d : ∀ i, (i = b.p ∨ i = b.bl ∨ i = b.bp ∨ i = b.bs) → i ≠ rb.p ∧ i ≠ rb.bs ∧ i ≠ rb.bw
  lb : b.bl < h.next
theorem Dis.mono {b : Blks} {rb : RB} {h h' : H} (d : Dis b rb h) (hn : h.next ≤ h'.next) : Dis b rb h' := ⟨d.d, Nat.lt_of_lt_of_le d.lb hn⟩

/-- The queue and the document's. -/
structure St (b : Blks) (rb : RB) (h : H) (n : Nat) (q : QS) (r : RS) : Prop where
  k : Qi b h q
  R : RR rb h r
  rel : Rel q r
  sl : q.S.length = n
  n1 : 1 ≤ n
  cap : q.L.length + q.J.length + 1 = q.P.length
  ds : Dis b rb h

/-- All but the two is as it was. -/
def Fs (b : Blks) (rb : RB) (h h' : H) : Prop := h.next ≤ h'.next ∧ ∀ i, i < h.next → i ≠ b.p → i ≠ b.bl → i ≠ b.bp → i ≠ b.bs → i ≠ rb.p → i ≠ rb.bs → i ≠ rb.bw → h'.get i = h.get i
theorem Fs.refl (b : Blks) (rb : RB) (h : H) : Fs b rb h h := ⟨Nat.le_refl _, fun _ _ _ _ _ _ _ _ _ => rfl⟩
theorem Fs.trans {b : Blks} {rb : RB} {h h' h'' : H} (x : Fs b rb h h') (y : Fs b rb h' h'') : Fs b rb h h'' := ⟨Nat.le_trans x.1 y.1, fun i hi a1 a2 a3 a4 a5 a6 a7 => (y.2 i (Nat.lt_of_lt_of_le hi x.1) a1 a2 a3 a4 a5 a6 a7).trans (x.2 i hi a1 a2 a3 a4 a5 a6 a7)⟩
theorem Fs.q {b : Blks} {rb : RB} {h h' : H} (x : Fq b h h') : Fs b rb h h' := ⟨x.1, fun i hi a1 a2 a3 a4 _ _ _ => x.2 i hi a1 a2 a3 a4⟩
theorem Fs.r {b : Blks} {rb : RB} {h h' : H} (x : Fr' rb h h') : Fs b rb h h' := ⟨Nat.le_of_eq x.1.symm, fun i _ _ _ _ _ a1 a2 a3 => x.2 i a1 a2 a3⟩
theorem Fs.new (b : Blks) (rb : RB) (h : H) (k : Blk) : Fs b rb h (h.new k) := ⟨Nat.le_succ _, fun i hi _ _ _ _ _ _ _ => by rw [H.get_new, if_neg (by omega)]⟩

theorem St.rq {b : Blks} {rb : RB} {h h' : H} {n : Nat} {q : QS} {r : RS} (s : St b rb h n q r) (f : Fq b h h') : RR rb h' r := by
  refine s.R.keep f.1 fun i hi => ?_
  have hd := s.ds.d
  have n1 := s.R.n1
  have n2 := s.R.n2
  have n3 := s.R.n3
  have key : i < h.next ∧ (i = rb.p ∨ i = rb.bs ∨ i = rb.bw) := ⟨by rcases hi with rfl | rfl | rfl <;> assumption, hi⟩
  have ne : ∀ j, (j = b.p ∨ j = b.bl ∨ j = b.bp ∨ j = b.bs) → i ≠ j := fun j hj e => by
    have := hd j hj
    rcases hi with rfl | rfl | rfl
    · exact this.1 e.symm
    · exact this.2.1 e.symm
    · exact this.2.2 e.symm
  exact f.2 i key.1 (ne _ (.inl rfl)) (ne _ (.inr (.inl rfl))) (ne _ (.inr (.inr (.inl rfl)))) (ne _ (.inr (.inr (.inr rfl))))
theorem Qi.qr {b : Blks} {rb : RB} {h h' : H} {q : QS} (k : Qi b h q) (d : Dis b rb h) (f : Fr' rb h h') : Qi b h' q := by
  refine k.keep (Nat.le_of_eq f.1.symm) fun i hi => ?_
  have := d.d i (by rcases hi with h | h | h | h <;> simp [h])
  exact f.2 i this.1 this.2.1 this.2.2
theorem St.new {b : Blks} {rb : RB} {h : H} {n : Nat} {q : QS} {r : RS} (s : St b rb h n q r) (x : Blk) : St b rb (h.new x) n q r := by
  have np := s.k.o.r.np
  have nl := s.k.o.r.nl
  have npl := s.k.o.r.npl
  have ns := s.k.o.r.ns
  have n1 := s.R.n1
  have n2 := s.R.n2
  have n3 := s.R.n3
  have lb := s.ds.lb
  refine ⟨s.k.keep (Nat.le_succ _) fun i hi => ?_, s.R.keep (Nat.le_succ _) fun i hi => ?_, s.rel, s.sl, s.n1, s.cap, s.ds.mono (Nat.le_succ _)⟩
  · rw [H.get_new, if_neg (by rcases hi with h | h | h | h <;> omega)]
  · rw [H.get_new, if_neg (by rcases hi with h | h | h <;> omega)]
theorem St.rl {b : Blks} {rb : RB} {h : H} {n : Nat} {q : QS} {r : RS} (s : St b rb h n q r) : r.S.length = n := by rw [s.rel.s, s.sl]
theorem St.pl {b : Blks} {rb : RB} {h : H} {n : Nat} {q : QS} {r : RS} (s : St b rb h n q r) : q.P.length = n := by rw [s.k.o.i.ps, s.sl]

/-- As many wait. -/
theorem St.cnt {b : Blks} {rb : RB} {h : H} {n : Nat} {q : QS} {r : RS} (s : St b rb h n q r) : rcnt r (r.S.length - 1) = q.L.length := by
  have I := s.k.o.i
  have p := s.k.o.p
  have hat : ∀ i (hi : i < q.L.length), q.l i = q.L[i] := fun i hi => getD_at hi
  have hnd : q.L.Nodup := by
    show q.L.Pairwise (· ≠ ·)
    rw [List.pairwise_iff_getElem]
    intro i j hi hj hij e
    have e1 := p.at_ i (by omega)
    have e2 := p.at_ j hj
    rw [hat i (by omega), e, ← hat j hj, e2] at e1
    omega
  have hrl := s.rl
  have hpl := s.pl
  have hn1 := s.n1
  let F : List Int := ((List.range (r.S.length - 1)).filter fun j => r.W.getD (j + 1) false).map fun j : Nat => (j : Int) + 1
  have hF : F.length = rcnt r (r.S.length - 1) := by simp [F, rcnt]
  have hFn : F.Nodup := by
    refine List.Pairwise.map _ (R := (· ≠ ·)) (fun a b hab e => hab (by omega)) ?_
    exact List.Pairwise.filter _ List.nodup_range
  have hFm : ∀ v, v ∈ F ↔ 1 ≤ v ∧ v < n ∧ r.w v = true := by
    intro v
    simp only [F, List.mem_map, List.mem_filter, List.mem_range]
    constructor
    · rintro ⟨j, ⟨h1, h2⟩, rfl⟩
      refine ⟨by omega, by omega, ?_⟩
      unfold RS.w
      rw [show ((j : Int) + 1).toNat = j + 1 by omega]; exact h2
    · rintro ⟨h1, h2, h3⟩
      unfold RS.w at h3
      refine ⟨v.toNat - 1, ⟨by omega, by rw [show v.toNat - 1 + 1 = v.toNat by omega]; exact h3⟩, by omega⟩
  have a := Go.Ae.Sat13.nodup_sub q.L F hnd fun x hx => by
    have h1 := I.v x hx
    obtain ⟨i, hi, rfl⟩ := List.getElem_of_mem hx
    have e1 := p.at_ i hi
    rw [hat i hi] at e1
    exact (hFm _).2 ⟨h1.1, by omega, (s.rel.wt _ h1.1 h1.2).2 (by omega)⟩
  have c := Go.Ae.Sat13.nodup_sub F q.L hFn fun x hx => by
    obtain ⟨h1, h2, h3⟩ := (hFm x).1 hx
    have h4 := (s.rel.wt x h1 (by omega)).1 h3
    rcases p.of x h1 (by omega) with h5 | ⟨_, h5, h6⟩
    · omega
    · rw [← h6, hat _ (by omega)]; exact List.getElem_mem _
  omega

inductive SInv (b : Blks) (rb : RB) (h0 : H) (n : Nat) : Nat → Tm → H → Prop
  | mk {T : Tm} (v : Int) (hv : -1 ≤ v) (hv2 : v ≤ n + 1) (g0 : g T 0 = wv b) (g1 : g T 1 = rv rb) (g5 : g T 5 = int v) : SInv b rb h0 n (n + 1 - v).toNat T h0

set_option maxHeartbeats 8000000 in
theorem same_ok {b : Blks} {rb : RB} {h : H} {n : Nat} {q : QS} {r : RS} (s : St b rb h n q r) : AF E 22 [wv b, rv rb] h fun v h' => v = .bool true ∧ h' = h := by
  suffices key : ∀ Q : Value → H → Prop, Q (.bool true) h → AF E 22 [wv b, rv rb] h Q from key _ ⟨rfl, rfl⟩
  intro Q hq
  refine AF.walk (E_fn comp22) (E_spec (by decide) _ _) ?_
  have hst := s.k.st
  have hs : q.step ≠ 0 := by omega
  have rl := s.rl
  have pl := s.pl
  have sz := s.R.sz
  simp only [At.skip,At.reg,At.regDu,At.seq,At.cond,At.block,At.exit,At.ret,On.nil,On.seq,On.seqE,On.seqR,On.out,On.outR,On.outE,condV.t,condV.f,Ops.nil,Ops.op,Ops.call,opV.mk,Ops.gate,gateV.tt,gateV.ff,gateV.tf,gateV.ft,gateV.un,Dps.nil,Dps.newSl,Dps.op,Dps.call,Dps.gate,dopV.mk,dopV.new,dgateV.tt,dgateV.ff,dgateV.tf,dgateV.ft,dgateV.un,Go.Ae.I.isLoad,resQ.r,resQ.n,stepQ.n,stepQ.e,stepQ.r,set_some,set_none,of_nil,of_cons,rho_tmp,rho_const,rho_func,g_put,g_nil,evI,Ae.bin,binI,Ae.un,nilEq,lenOf,if_true,if_false,Nat.reduceEqDiff,Nat.reduceAdd,Nat.zero_add,reduceIte,List.map_cons,List.map_nil,Option.map_some,Option.bind_some,evRs,evR,one,Option.some.injEq,exists_eq_left',exists_eq_left,List.all_nil,reduceCtorEq,true_and,and_true,parts',fill_int,fill_bool,fill_slice,fill_ptr,fill_nil,reps_one,List.replicate,List.length_cons,List.length_nil,Nat.reduceLeDiff,List.set_cons_zero,List.set_cons_succ,List.length_set,List.length_replicate,adr,Nat.mul_one,decide_true,decide_false,Int.reduceBEq,Int.reduceBNe,Int.reduceLT,Int.reduceLE,Int.reduceNeg,beq_self_eq_true,bne_self_eq_false,Bool.not_true,Bool.not_false,cast_zero,cast_one,List.size_toArray,List.getElem?_toArray,List.getElem?_cons_zero,List.getElem?_cons_succ,H_eta,isTuple,cells_int,cells_bool,cells_slice,cells_ptr,cells_agg,put_one,dopX.f,dopX.t,kept_zero,Nat.add_zero,ge_iff_le,gt_iff_lt,Ops.callvV,callvV.mk,List.nil_append,List.cons_append,List.append_nil,List.toList_toArray,Option.map_none,optNat_n,optNat_s,H.up_zero,gateV.und,dgateV.und,Dps.callvV,dcallvV.mk,Ops.invV,invV.mk,findV.mk, c22, c22_0, c22_1]
  refine At.loop (SInv b rb h n) ?_ ((n : Int) + 1 - (-1)).toNat ?_
  · rintro w T _ ⟨v, hv, hv2, g0, g1, g5⟩
    simp only [At.skip,At.reg,At.regDu,At.seq,At.cond,At.block,At.exit,At.ret,On.nil,On.seq,On.seqE,On.seqR,On.out,On.outR,On.outE,condV.t,condV.f,Ops.nil,Ops.op,Ops.call,opV.mk,Ops.gate,gateV.tt,gateV.ff,gateV.tf,gateV.ft,gateV.un,Dps.nil,Dps.newSl,Dps.op,Dps.call,Dps.gate,dopV.mk,dopV.new,dgateV.tt,dgateV.ff,dgateV.tf,dgateV.ft,dgateV.un,Go.Ae.I.isLoad,resQ.r,resQ.n,stepQ.n,stepQ.e,stepQ.r,set_some,set_none,of_nil,of_cons,rho_tmp,rho_const,rho_func,g_put,g_nil,evI,Ae.bin,binI,Ae.un,nilEq,lenOf,if_true,if_false,Nat.reduceEqDiff,Nat.reduceAdd,Nat.zero_add,reduceIte,List.map_cons,List.map_nil,Option.map_some,Option.bind_some,evRs,evR,one,Option.some.injEq,exists_eq_left',exists_eq_left,List.all_nil,reduceCtorEq,true_and,and_true,parts',fill_int,fill_bool,fill_slice,fill_ptr,fill_nil,reps_one,List.replicate,List.length_cons,List.length_nil,Nat.reduceLeDiff,List.set_cons_zero,List.set_cons_succ,List.length_set,List.length_replicate,adr,Nat.mul_one,decide_true,decide_false,Int.reduceBEq,Int.reduceBNe,Int.reduceLT,Int.reduceLE,Int.reduceNeg,beq_self_eq_true,bne_self_eq_false,Bool.not_true,Bool.not_false,cast_zero,cast_one,List.size_toArray,List.getElem?_toArray,List.getElem?_cons_zero,List.getElem?_cons_succ,H_eta,isTuple,cells_int,cells_bool,cells_slice,cells_ptr,cells_agg,put_one,dopX.f,dopX.t,kept_zero,Nat.add_zero,ge_iff_le,gt_iff_lt,Ops.callvV,callvV.mk,List.nil_append,List.cons_append,List.append_nil,List.toList_toArray,Option.map_none,optNat_n,optNat_s,H.up_zero,gateV.und,dgateV.und,Dps.callvV,dcallvV.mk,Ops.invV,invV.mk,findV.mk, c22_2, g1, g5, ld_blk s.R.gp]
    by_cases hle : v ≤ r.S.length
    · have wi : IntKind.i64.wrap (v + 1) = v + 1 := wrap_id (by omega) (by omega)
      simp only [At.skip,At.reg,At.regDu,At.seq,At.cond,At.block,At.exit,At.ret,On.nil,On.seq,On.seqE,On.seqR,On.out,On.outR,On.outE,condV.t,condV.f,Ops.nil,Ops.op,Ops.call,opV.mk,Ops.gate,gateV.tt,gateV.ff,gateV.tf,gateV.ft,gateV.un,Dps.nil,Dps.newSl,Dps.op,Dps.call,Dps.gate,dopV.mk,dopV.new,dgateV.tt,dgateV.ff,dgateV.tf,dgateV.ft,dgateV.un,Go.Ae.I.isLoad,resQ.r,resQ.n,stepQ.n,stepQ.e,stepQ.r,set_some,set_none,of_nil,of_cons,rho_tmp,rho_const,rho_func,g_put,g_nil,evI,Ae.bin,binI,Ae.un,nilEq,lenOf,if_true,if_false,Nat.reduceEqDiff,Nat.reduceAdd,Nat.zero_add,reduceIte,List.map_cons,List.map_nil,Option.map_some,Option.bind_some,evRs,evR,one,Option.some.injEq,exists_eq_left',exists_eq_left,List.all_nil,reduceCtorEq,true_and,and_true,parts',fill_int,fill_bool,fill_slice,fill_ptr,fill_nil,reps_one,List.replicate,List.length_cons,List.length_nil,Nat.reduceLeDiff,List.set_cons_zero,List.set_cons_succ,List.length_set,List.length_replicate,adr,Nat.mul_one,decide_true,decide_false,Int.reduceBEq,Int.reduceBNe,Int.reduceLT,Int.reduceLE,Int.reduceNeg,beq_self_eq_true,bne_self_eq_false,Bool.not_true,Bool.not_false,cast_zero,cast_one,List.size_toArray,List.getElem?_toArray,List.getElem?_cons_zero,List.getElem?_cons_succ,H_eta,isTuple,cells_int,cells_bool,cells_slice,cells_ptr,cells_agg,put_one,dopX.f,dopX.t,kept_zero,Nat.add_zero,ge_iff_le,gt_iff_lt,Ops.callvV,callvV.mk,List.nil_append,List.cons_append,List.append_nil,List.toList_toArray,Option.map_none,optNat_n,optNat_s,H.up_zero,gateV.und,dgateV.und,Dps.callvV,dcallvV.mk,Ops.invV,invV.mk,findV.mk, hle, c22_3, g0, g1, g5]
      refine callV.of (score_ok s.k.o hs) fun e h1 hv => ?_
      obtain ⟨rfl, eh⟩ := hv
      subst eh
      simp only [At.skip,At.reg,At.regDu,At.seq,At.cond,At.block,At.exit,At.ret,On.nil,On.seq,On.seqE,On.seqR,On.out,On.outR,On.outE,condV.t,condV.f,Ops.nil,Ops.op,Ops.call,opV.mk,Ops.gate,gateV.tt,gateV.ff,gateV.tf,gateV.ft,gateV.un,Dps.nil,Dps.newSl,Dps.op,Dps.call,Dps.gate,dopV.mk,dopV.new,dgateV.tt,dgateV.ff,dgateV.tf,dgateV.ft,dgateV.un,Go.Ae.I.isLoad,resQ.r,resQ.n,stepQ.n,stepQ.e,stepQ.r,set_some,set_none,of_nil,of_cons,rho_tmp,rho_const,rho_func,g_put,g_nil,evI,Ae.bin,binI,Ae.un,nilEq,lenOf,if_true,if_false,Nat.reduceEqDiff,Nat.reduceAdd,Nat.zero_add,reduceIte,List.map_cons,List.map_nil,Option.map_some,Option.bind_some,evRs,evR,one,Option.some.injEq,exists_eq_left',exists_eq_left,List.all_nil,reduceCtorEq,true_and,and_true,parts',fill_int,fill_bool,fill_slice,fill_ptr,fill_nil,reps_one,List.replicate,List.length_cons,List.length_nil,Nat.reduceLeDiff,List.set_cons_zero,List.set_cons_succ,List.length_set,List.length_replicate,adr,Nat.mul_one,decide_true,decide_false,Int.reduceBEq,Int.reduceBNe,Int.reduceLT,Int.reduceLE,Int.reduceNeg,beq_self_eq_true,bne_self_eq_false,Bool.not_true,Bool.not_false,cast_zero,cast_one,List.size_toArray,List.getElem?_toArray,List.getElem?_cons_zero,List.getElem?_cons_succ,H_eta,isTuple,cells_int,cells_bool,cells_slice,cells_ptr,cells_agg,put_one,dopX.f,dopX.t,kept_zero,Nat.add_zero,ge_iff_le,gt_iff_lt,Ops.callvV,callvV.mk,List.nil_append,List.cons_append,List.append_nil,List.toList_toArray,Option.map_none,optNat_n,optNat_s,H.up_zero,gateV.und,dgateV.und,Dps.callvV,dcallvV.mk,Ops.invV,invV.mk,findV.mk, g0, g1, g5]
      refine callV.of (rscore_ok s.R) fun e h1 hv => ?_
      obtain ⟨rfl, eh⟩ := hv
      subst eh
      have e1 : (if 1 ≤ v ∧ v < q.S.length then q.sc v else 0) = (if 1 ≤ v ∧ v < r.S.length then r.sc v else 0) := by
        unfold QS.sc RS.sc; rw [s.rel.s]
      rw [e1]
      simp only [At.skip,At.reg,At.regDu,At.seq,At.cond,At.block,At.exit,At.ret,On.nil,On.seq,On.seqE,On.seqR,On.out,On.outR,On.outE,condV.t,condV.f,Ops.nil,Ops.op,Ops.call,opV.mk,Ops.gate,gateV.tt,gateV.ff,gateV.tf,gateV.ft,gateV.un,Dps.nil,Dps.newSl,Dps.op,Dps.call,Dps.gate,dopV.mk,dopV.new,dgateV.tt,dgateV.ff,dgateV.tf,dgateV.ft,dgateV.un,Go.Ae.I.isLoad,resQ.r,resQ.n,stepQ.n,stepQ.e,stepQ.r,set_some,set_none,of_nil,of_cons,rho_tmp,rho_const,rho_func,g_put,g_nil,evI,Ae.bin,binI,Ae.un,nilEq,lenOf,if_true,if_false,Nat.reduceEqDiff,Nat.reduceAdd,Nat.zero_add,reduceIte,List.map_cons,List.map_nil,Option.map_some,Option.bind_some,evRs,evR,one,Option.some.injEq,exists_eq_left',exists_eq_left,List.all_nil,reduceCtorEq,true_and,and_true,parts',fill_int,fill_bool,fill_slice,fill_ptr,fill_nil,reps_one,List.replicate,List.length_cons,List.length_nil,Nat.reduceLeDiff,List.set_cons_zero,List.set_cons_succ,List.length_set,List.length_replicate,adr,Nat.mul_one,decide_true,decide_false,Int.reduceBEq,Int.reduceBNe,Int.reduceLT,Int.reduceLE,Int.reduceNeg,beq_self_eq_true,bne_self_eq_false,Bool.not_true,Bool.not_false,cast_zero,cast_one,List.size_toArray,List.getElem?_toArray,List.getElem?_cons_zero,List.getElem?_cons_succ,H_eta,isTuple,cells_int,cells_bool,cells_slice,cells_ptr,cells_agg,put_one,dopX.f,dopX.t,kept_zero,Nat.add_zero,ge_iff_le,gt_iff_lt,Ops.callvV,callvV.mk,List.nil_append,List.cons_append,List.append_nil,List.toList_toArray,Option.map_none,optNat_n,optNat_s,H.up_zero,gateV.und,dgateV.und,Dps.callvV,dcallvV.mk,Ops.invV,invV.mk,findV.mk, bne_self_eq_false, g0, g1, g5]
      refine callV.of (waits_ok s.k.o hs) fun e h1 hv => ?_
      obtain ⟨rfl, eh⟩ := hv
      subst eh
      simp only [At.skip,At.reg,At.regDu,At.seq,At.cond,At.block,At.exit,At.ret,On.nil,On.seq,On.seqE,On.seqR,On.out,On.outR,On.outE,condV.t,condV.f,Ops.nil,Ops.op,Ops.call,opV.mk,Ops.gate,gateV.tt,gateV.ff,gateV.tf,gateV.ft,gateV.un,Dps.nil,Dps.newSl,Dps.op,Dps.call,Dps.gate,dopV.mk,dopV.new,dgateV.tt,dgateV.ff,dgateV.tf,dgateV.ft,dgateV.un,Go.Ae.I.isLoad,resQ.r,resQ.n,stepQ.n,stepQ.e,stepQ.r,set_some,set_none,of_nil,of_cons,rho_tmp,rho_const,rho_func,g_put,g_nil,evI,Ae.bin,binI,Ae.un,nilEq,lenOf,if_true,if_false,Nat.reduceEqDiff,Nat.reduceAdd,Nat.zero_add,reduceIte,List.map_cons,List.map_nil,Option.map_some,Option.bind_some,evRs,evR,one,Option.some.injEq,exists_eq_left',exists_eq_left,List.all_nil,reduceCtorEq,true_and,and_true,parts',fill_int,fill_bool,fill_slice,fill_ptr,fill_nil,reps_one,List.replicate,List.length_cons,List.length_nil,Nat.reduceLeDiff,List.set_cons_zero,List.set_cons_succ,List.length_set,List.length_replicate,adr,Nat.mul_one,decide_true,decide_false,Int.reduceBEq,Int.reduceBNe,Int.reduceLT,Int.reduceLE,Int.reduceNeg,beq_self_eq_true,bne_self_eq_false,Bool.not_true,Bool.not_false,cast_zero,cast_one,List.size_toArray,List.getElem?_toArray,List.getElem?_cons_zero,List.getElem?_cons_succ,H_eta,isTuple,cells_int,cells_bool,cells_slice,cells_ptr,cells_agg,put_one,dopX.f,dopX.t,kept_zero,Nat.add_zero,ge_iff_le,gt_iff_lt,Ops.callvV,callvV.mk,List.nil_append,List.cons_append,List.append_nil,List.toList_toArray,Option.map_none,optNat_n,optNat_s,H.up_zero,gateV.und,dgateV.und,Dps.callvV,dcallvV.mk,Ops.invV,invV.mk,findV.mk, g0, g1, g5]
      refine callV.of (rwaits_ok s.R) fun e h1 hv => ?_
      obtain ⟨rfl, eh⟩ := hv
      subst eh
      have e2 : decide (1 ≤ v ∧ v < q.S.length ∧ 0 ≤ q.pi v) = (decide (1 ≤ v ∧ v < r.S.length) && r.w v) := by
        rw [s.rel.s]
        by_cases h1 : 1 ≤ v ∧ v < q.S.length
        · have h3 := s.rel.wt v h1.1 (by rw [s.k.o.i.ps]; exact h1.2)
          rw [decide_eq_true h1, Bool.true_and]
          cases hw : r.w v
          · rw [decide_eq_false]
            intro h4
            rw [h3.2 h4.2.2] at hw
            cases hw
          · exact decide_eq_true ⟨h1.1, h1.2, h3.1 hw⟩
        · rw [decide_eq_false h1, Bool.false_and, decide_eq_false (by omega)]
      rw [e2]
      simp only [At.skip,At.reg,At.regDu,At.seq,At.cond,At.block,At.exit,At.ret,On.nil,On.seq,On.seqE,On.seqR,On.out,On.outR,On.outE,condV.t,condV.f,Ops.nil,Ops.op,Ops.call,opV.mk,Ops.gate,gateV.tt,gateV.ff,gateV.tf,gateV.ft,gateV.un,Dps.nil,Dps.newSl,Dps.op,Dps.call,Dps.gate,dopV.mk,dopV.new,dgateV.tt,dgateV.ff,dgateV.tf,dgateV.ft,dgateV.un,Go.Ae.I.isLoad,resQ.r,resQ.n,stepQ.n,stepQ.e,stepQ.r,set_some,set_none,of_nil,of_cons,rho_tmp,rho_const,rho_func,g_put,g_nil,evI,Ae.bin,binI,Ae.un,nilEq,lenOf,if_true,if_false,Nat.reduceEqDiff,Nat.reduceAdd,Nat.zero_add,reduceIte,List.map_cons,List.map_nil,Option.map_some,Option.bind_some,evRs,evR,one,Option.some.injEq,exists_eq_left',exists_eq_left,List.all_nil,reduceCtorEq,true_and,and_true,parts',fill_int,fill_bool,fill_slice,fill_ptr,fill_nil,reps_one,List.replicate,List.length_cons,List.length_nil,Nat.reduceLeDiff,List.set_cons_zero,List.set_cons_succ,List.length_set,List.length_replicate,adr,Nat.mul_one,decide_true,decide_false,Int.reduceBEq,Int.reduceBNe,Int.reduceLT,Int.reduceLE,Int.reduceNeg,beq_self_eq_true,bne_self_eq_false,Bool.not_true,Bool.not_false,cast_zero,cast_one,List.size_toArray,List.getElem?_toArray,List.getElem?_cons_zero,List.getElem?_cons_succ,H_eta,isTuple,cells_int,cells_bool,cells_slice,cells_ptr,cells_agg,put_one,dopX.f,dopX.t,kept_zero,Nat.add_zero,ge_iff_le,gt_iff_lt,Ops.callvV,callvV.mk,List.nil_append,List.cons_append,List.append_nil,List.toList_toArray,Option.map_none,optNat_n,optNat_s,H.up_zero,gateV.und,dgateV.und,Dps.callvV,dcallvV.mk,Ops.invV,invV.mk,findV.mk, bne_self_eq_false, c22_5, g5, wi]
      refine ⟨_, ?_, .mk (v + 1) (by omega) (by omega) ?_ ?_ ?_⟩
      · omega
      · simp only [At.skip,At.reg,At.regDu,At.seq,At.cond,At.block,At.exit,At.ret,On.nil,On.seq,On.seqE,On.seqR,On.out,On.outR,On.outE,condV.t,condV.f,Ops.nil,Ops.op,Ops.call,opV.mk,Ops.gate,gateV.tt,gateV.ff,gateV.tf,gateV.ft,gateV.un,Dps.nil,Dps.newSl,Dps.op,Dps.call,Dps.gate,dopV.mk,dopV.new,dgateV.tt,dgateV.ff,dgateV.tf,dgateV.ft,dgateV.un,Go.Ae.I.isLoad,resQ.r,resQ.n,stepQ.n,stepQ.e,stepQ.r,set_some,set_none,of_nil,of_cons,rho_tmp,rho_const,rho_func,g_put,g_nil,evI,Ae.bin,binI,Ae.un,nilEq,lenOf,if_true,if_false,Nat.reduceEqDiff,Nat.reduceAdd,Nat.zero_add,reduceIte,List.map_cons,List.map_nil,Option.map_some,Option.bind_some,evRs,evR,one,Option.some.injEq,exists_eq_left',exists_eq_left,List.all_nil,reduceCtorEq,true_and,and_true,parts',fill_int,fill_bool,fill_slice,fill_ptr,fill_nil,reps_one,List.replicate,List.length_cons,List.length_nil,Nat.reduceLeDiff,List.set_cons_zero,List.set_cons_succ,List.length_set,List.length_replicate,adr,Nat.mul_one,decide_true,decide_false,Int.reduceBEq,Int.reduceBNe,Int.reduceLT,Int.reduceLE,Int.reduceNeg,beq_self_eq_true,bne_self_eq_false,Bool.not_true,Bool.not_false,cast_zero,cast_one,List.size_toArray,List.getElem?_toArray,List.getElem?_cons_zero,List.getElem?_cons_succ,H_eta,isTuple,cells_int,cells_bool,cells_slice,cells_ptr,cells_agg,put_one,dopX.f,dopX.t,kept_zero,Nat.add_zero,ge_iff_le,gt_iff_lt,Ops.callvV,callvV.mk,List.nil_append,List.cons_append,List.append_nil,List.toList_toArray,Option.map_none,optNat_n,optNat_s,H.up_zero,gateV.und,dgateV.und,Dps.callvV,dcallvV.mk,Ops.invV,invV.mk,findV.mk, g0]
      · simp only [At.skip,At.reg,At.regDu,At.seq,At.cond,At.block,At.exit,At.ret,On.nil,On.seq,On.seqE,On.seqR,On.out,On.outR,On.outE,condV.t,condV.f,Ops.nil,Ops.op,Ops.call,opV.mk,Ops.gate,gateV.tt,gateV.ff,gateV.tf,gateV.ft,gateV.un,Dps.nil,Dps.newSl,Dps.op,Dps.call,Dps.gate,dopV.mk,dopV.new,dgateV.tt,dgateV.ff,dgateV.tf,dgateV.ft,dgateV.un,Go.Ae.I.isLoad,resQ.r,resQ.n,stepQ.n,stepQ.e,stepQ.r,set_some,set_none,of_nil,of_cons,rho_tmp,rho_const,rho_func,g_put,g_nil,evI,Ae.bin,binI,Ae.un,nilEq,lenOf,if_true,if_false,Nat.reduceEqDiff,Nat.reduceAdd,Nat.zero_add,reduceIte,List.map_cons,List.map_nil,Option.map_some,Option.bind_some,evRs,evR,one,Option.some.injEq,exists_eq_left',exists_eq_left,List.all_nil,reduceCtorEq,true_and,and_true,parts',fill_int,fill_bool,fill_slice,fill_ptr,fill_nil,reps_one,List.replicate,List.length_cons,List.length_nil,Nat.reduceLeDiff,List.set_cons_zero,List.set_cons_succ,List.length_set,List.length_replicate,adr,Nat.mul_one,decide_true,decide_false,Int.reduceBEq,Int.reduceBNe,Int.reduceLT,Int.reduceLE,Int.reduceNeg,beq_self_eq_true,bne_self_eq_false,Bool.not_true,Bool.not_false,cast_zero,cast_one,List.size_toArray,List.getElem?_toArray,List.getElem?_cons_zero,List.getElem?_cons_succ,H_eta,isTuple,cells_int,cells_bool,cells_slice,cells_ptr,cells_agg,put_one,dopX.f,dopX.t,kept_zero,Nat.add_zero,ge_iff_le,gt_iff_lt,Ops.callvV,callvV.mk,List.nil_append,List.cons_append,List.append_nil,List.toList_toArray,Option.map_none,optNat_n,optNat_s,H.up_zero,gateV.und,dgateV.und,Dps.callvV,dcallvV.mk,Ops.invV,invV.mk,findV.mk, g1]
      · simp only [At.skip,At.reg,At.regDu,At.seq,At.cond,At.block,At.exit,At.ret,On.nil,On.seq,On.seqE,On.seqR,On.out,On.outR,On.outE,condV.t,condV.f,Ops.nil,Ops.op,Ops.call,opV.mk,Ops.gate,gateV.tt,gateV.ff,gateV.tf,gateV.ft,gateV.un,Dps.nil,Dps.newSl,Dps.op,Dps.call,Dps.gate,dopV.mk,dopV.new,dgateV.tt,dgateV.ff,dgateV.tf,dgateV.ft,dgateV.un,Go.Ae.I.isLoad,resQ.r,resQ.n,stepQ.n,stepQ.e,stepQ.r,set_some,set_none,of_nil,of_cons,rho_tmp,rho_const,rho_func,g_put,g_nil,evI,Ae.bin,binI,Ae.un,nilEq,lenOf,if_true,if_false,Nat.reduceEqDiff,Nat.reduceAdd,Nat.zero_add,reduceIte,List.map_cons,List.map_nil,Option.map_some,Option.bind_some,evRs,evR,one,Option.some.injEq,exists_eq_left',exists_eq_left,List.all_nil,reduceCtorEq,true_and,and_true,parts',fill_int,fill_bool,fill_slice,fill_ptr,fill_nil,reps_one,List.replicate,List.length_cons,List.length_nil,Nat.reduceLeDiff,List.set_cons_zero,List.set_cons_succ,List.length_set,List.length_replicate,adr,Nat.mul_one,decide_true,decide_false,Int.reduceBEq,Int.reduceBNe,Int.reduceLT,Int.reduceLE,Int.reduceNeg,beq_self_eq_true,bne_self_eq_false,Bool.not_true,Bool.not_false,cast_zero,cast_one,List.size_toArray,List.getElem?_toArray,List.getElem?_cons_zero,List.getElem?_cons_succ,H_eta,isTuple,cells_int,cells_bool,cells_slice,cells_ptr,cells_agg,put_one,dopX.f,dopX.t,kept_zero,Nat.add_zero,ge_iff_le,gt_iff_lt,Ops.callvV,callvV.mk,List.nil_append,List.cons_append,List.append_nil,List.toList_toArray,Option.map_none,optNat_n,optNat_s,H.up_zero,gateV.und,dgateV.und,Dps.callvV,dcallvV.mk,Ops.invV,invV.mk,findV.mk]
    · simp only [At.skip,At.reg,At.regDu,At.seq,At.cond,At.block,At.exit,At.ret,On.nil,On.seq,On.seqE,On.seqR,On.out,On.outR,On.outE,condV.t,condV.f,Ops.nil,Ops.op,Ops.call,opV.mk,Ops.gate,gateV.tt,gateV.ff,gateV.tf,gateV.ft,gateV.un,Dps.nil,Dps.newSl,Dps.op,Dps.call,Dps.gate,dopV.mk,dopV.new,dgateV.tt,dgateV.ff,dgateV.tf,dgateV.ft,dgateV.un,Go.Ae.I.isLoad,resQ.r,resQ.n,stepQ.n,stepQ.e,stepQ.r,set_some,set_none,of_nil,of_cons,rho_tmp,rho_const,rho_func,g_put,g_nil,evI,Ae.bin,binI,Ae.un,nilEq,lenOf,if_true,if_false,Nat.reduceEqDiff,Nat.reduceAdd,Nat.zero_add,reduceIte,List.map_cons,List.map_nil,Option.map_some,Option.bind_some,evRs,evR,one,Option.some.injEq,exists_eq_left',exists_eq_left,List.all_nil,reduceCtorEq,true_and,and_true,parts',fill_int,fill_bool,fill_slice,fill_ptr,fill_nil,reps_one,List.replicate,List.length_cons,List.length_nil,Nat.reduceLeDiff,List.set_cons_zero,List.set_cons_succ,List.length_set,List.length_replicate,adr,Nat.mul_one,decide_true,decide_false,Int.reduceBEq,Int.reduceBNe,Int.reduceLT,Int.reduceLE,Int.reduceNeg,beq_self_eq_true,bne_self_eq_false,Bool.not_true,Bool.not_false,cast_zero,cast_one,List.size_toArray,List.getElem?_toArray,List.getElem?_cons_zero,List.getElem?_cons_succ,H_eta,isTuple,cells_int,cells_bool,cells_slice,cells_ptr,cells_agg,put_one,dopX.f,dopX.t,kept_zero,Nat.add_zero,ge_iff_le,gt_iff_lt,Ops.callvV,callvV.mk,List.nil_append,List.cons_append,List.append_nil,List.toList_toArray,Option.map_none,optNat_n,optNat_s,H.up_zero,gateV.und,dgateV.und,Dps.callvV,dcallvV.mk,Ops.invV,invV.mk,findV.mk, hle, c22_6, g0, g1]
      refine callV.of (qlen_ok s.k.o.r hs) fun e h1 hv => ?_
      obtain ⟨rfl, eh⟩ := hv
      subst eh
      simp only [At.skip,At.reg,At.regDu,At.seq,At.cond,At.block,At.exit,At.ret,On.nil,On.seq,On.seqE,On.seqR,On.out,On.outR,On.outE,condV.t,condV.f,Ops.nil,Ops.op,Ops.call,opV.mk,Ops.gate,gateV.tt,gateV.ff,gateV.tf,gateV.ft,gateV.un,Dps.nil,Dps.newSl,Dps.op,Dps.call,Dps.gate,dopV.mk,dopV.new,dgateV.tt,dgateV.ff,dgateV.tf,dgateV.ft,dgateV.un,Go.Ae.I.isLoad,resQ.r,resQ.n,stepQ.n,stepQ.e,stepQ.r,set_some,set_none,of_nil,of_cons,rho_tmp,rho_const,rho_func,g_put,g_nil,evI,Ae.bin,binI,Ae.un,nilEq,lenOf,if_true,if_false,Nat.reduceEqDiff,Nat.reduceAdd,Nat.zero_add,reduceIte,List.map_cons,List.map_nil,Option.map_some,Option.bind_some,evRs,evR,one,Option.some.injEq,exists_eq_left',exists_eq_left,List.all_nil,reduceCtorEq,true_and,and_true,parts',fill_int,fill_bool,fill_slice,fill_ptr,fill_nil,reps_one,List.replicate,List.length_cons,List.length_nil,Nat.reduceLeDiff,List.set_cons_zero,List.set_cons_succ,List.length_set,List.length_replicate,adr,Nat.mul_one,decide_true,decide_false,Int.reduceBEq,Int.reduceBNe,Int.reduceLT,Int.reduceLE,Int.reduceNeg,beq_self_eq_true,bne_self_eq_false,Bool.not_true,Bool.not_false,cast_zero,cast_one,List.size_toArray,List.getElem?_toArray,List.getElem?_cons_zero,List.getElem?_cons_succ,H_eta,isTuple,cells_int,cells_bool,cells_slice,cells_ptr,cells_agg,put_one,dopX.f,dopX.t,kept_zero,Nat.add_zero,ge_iff_le,gt_iff_lt,Ops.callvV,callvV.mk,List.nil_append,List.cons_append,List.append_nil,List.toList_toArray,Option.map_none,optNat_n,optNat_s,H.up_zero,gateV.und,dgateV.und,Dps.callvV,dcallvV.mk,Ops.invV,invV.mk,findV.mk, g0, g1]
      refine callV.of (rlen_ok s.R (by have := s.n1; omega)) fun e h1 hv => ?_
      obtain ⟨rfl, eh⟩ := hv
      subst eh
      rw [s.cnt]
      simp only [At.skip,At.reg,At.regDu,At.seq,At.cond,At.block,At.exit,At.ret,On.nil,On.seq,On.seqE,On.seqR,On.out,On.outR,On.outE,condV.t,condV.f,Ops.nil,Ops.op,Ops.call,opV.mk,Ops.gate,gateV.tt,gateV.ff,gateV.tf,gateV.ft,gateV.un,Dps.nil,Dps.newSl,Dps.op,Dps.call,Dps.gate,dopV.mk,dopV.new,dgateV.tt,dgateV.ff,dgateV.tf,dgateV.ft,dgateV.un,Go.Ae.I.isLoad,resQ.r,resQ.n,stepQ.n,stepQ.e,stepQ.r,set_some,set_none,of_nil,of_cons,rho_tmp,rho_const,rho_func,g_put,g_nil,evI,Ae.bin,binI,Ae.un,nilEq,lenOf,if_true,if_false,Nat.reduceEqDiff,Nat.reduceAdd,Nat.zero_add,reduceIte,List.map_cons,List.map_nil,Option.map_some,Option.bind_some,evRs,evR,one,Option.some.injEq,exists_eq_left',exists_eq_left,List.all_nil,reduceCtorEq,true_and,and_true,parts',fill_int,fill_bool,fill_slice,fill_ptr,fill_nil,reps_one,List.replicate,List.length_cons,List.length_nil,Nat.reduceLeDiff,List.set_cons_zero,List.set_cons_succ,List.length_set,List.length_replicate,adr,Nat.mul_one,decide_true,decide_false,Int.reduceBEq,Int.reduceBNe,Int.reduceLT,Int.reduceLE,Int.reduceNeg,beq_self_eq_true,bne_self_eq_false,Bool.not_true,Bool.not_false,cast_zero,cast_one,List.size_toArray,List.getElem?_toArray,List.getElem?_cons_zero,List.getElem?_cons_succ,H_eta,isTuple,cells_int,cells_bool,cells_slice,cells_ptr,cells_agg,put_one,dopX.f,dopX.t,kept_zero,Nat.add_zero,ge_iff_le,gt_iff_lt,Ops.callvV,callvV.mk,List.nil_append,List.cons_append,List.append_nil,List.toList_toArray,Option.map_none,optNat_n,optNat_s,H.up_zero,gateV.und,dgateV.und,Dps.callvV,dcallvV.mk,Ops.invV,invV.mk,findV.mk, beq_self_eq_true]
      exact hq
  · refine .mk (-1) (by omega) (by omega) ?_ ?_ ?_
    all_goals simp only [At.skip,At.reg,At.regDu,At.seq,At.cond,At.block,At.exit,At.ret,On.nil,On.seq,On.seqE,On.seqR,On.out,On.outR,On.outE,condV.t,condV.f,Ops.nil,Ops.op,Ops.call,opV.mk,Ops.gate,gateV.tt,gateV.ff,gateV.tf,gateV.ft,gateV.un,Dps.nil,Dps.newSl,Dps.op,Dps.call,Dps.gate,dopV.mk,dopV.new,dgateV.tt,dgateV.ff,dgateV.tf,dgateV.ft,dgateV.un,Go.Ae.I.isLoad,resQ.r,resQ.n,stepQ.n,stepQ.e,stepQ.r,set_some,set_none,of_nil,of_cons,rho_tmp,rho_const,rho_func,g_put,g_nil,evI,Ae.bin,binI,Ae.un,nilEq,lenOf,if_true,if_false,Nat.reduceEqDiff,Nat.reduceAdd,Nat.zero_add,reduceIte,List.map_cons,List.map_nil,Option.map_some,Option.bind_some,evRs,evR,one,Option.some.injEq,exists_eq_left',exists_eq_left,List.all_nil,reduceCtorEq,true_and,and_true,parts',fill_int,fill_bool,fill_slice,fill_ptr,fill_nil,reps_one,List.replicate,List.length_cons,List.length_nil,Nat.reduceLeDiff,List.set_cons_zero,List.set_cons_succ,List.length_set,List.length_replicate,adr,Nat.mul_one,decide_true,decide_false,Int.reduceBEq,Int.reduceBNe,Int.reduceLT,Int.reduceLE,Int.reduceNeg,beq_self_eq_true,bne_self_eq_false,Bool.not_true,Bool.not_false,cast_zero,cast_one,List.size_toArray,List.getElem?_toArray,List.getElem?_cons_zero,List.getElem?_cons_succ,H_eta,isTuple,cells_int,cells_bool,cells_slice,cells_ptr,cells_agg,put_one,dopX.f,dopX.t,kept_zero,Nat.add_zero,ge_iff_le,gt_iff_lt,Ops.callvV,callvV.mk,List.nil_append,List.cons_append,List.append_nil,List.toList_toArray,Option.map_none,optNat_n,optNat_s,H.up_zero,gateV.und,dgateV.und,Dps.callvV,dcallvV.mk,Ops.invV,invV.mk,findV.mk]
end Go.Proofs.Ytnejnaoehcahbaa.q
