/-
  The queue on the heap; Less, Swap, Len.
-/
import Derived.Test.YtnejnaoehcahbaaAeInv
import Derived.Test.YtnejnaoehcahbaaQLives
namespace Go.Proofs.Ytnejnaoehcahbaa.q
open Go Go.Ae
set_option linter.unusedSimpArgs false

/-- A queue: the heap's row, what lies behind it, places, scores, the step. -/
structure QS where
  L : List Int
  J : List Int
  P : List Int
  S : List Int
  step : Int
def QS.l (q : QS) (k : Nat) : Int := q.L.getD k 0
def QS.pi (q : QS) (v : Int) : Int := q.P.getD v.toNat 0
def QS.sc (q : QS) (v : Int) : Int := q.S.getD v.toNat 0

structure Blks where
  p : Nat
  bl : Nat
  bp : Nat
  bs : Nat
  s : Option Nat
  nil : Bool
/-- Where the heap's row lies, if there is one. -/
def Blks.base (b : Blks) : Option Addr := if b.nil = true then none else some ⟨b.bl, 0, b.s⟩
structure BD (b : Blks) : Prop where
  sp : b.s = none ∨ b.s = some 1
  d1 : b.p ≠ b.bl
  d2 : b.p ≠ b.bp
  d3 : b.p ≠ b.bs
  d4 : b.bl ≠ b.bp
  d5 : b.bl ≠ b.bs
  d6 : b.bp ≠ b.bs

abbrev u64s (l : List Int) : List Value := l.map (.int .u64)
abbrev QS.lv (q : QS) (b : Blks) : Value := .slice b.base q.L.length (q.L.length + q.J.length)
abbrev QS.pv (q : QS) (b : Blks) : Value := .slice (some ⟨b.bp, 0, none⟩) q.P.length q.P.length
abbrev QS.sv (q : QS) (b : Blks) : Value := .slice (some ⟨b.bs, 0, none⟩) q.S.length q.S.length
abbrev QS.cells (q : QS) (b : Blks) : List Value := [q.lv b, q.pv b, q.sv b, .int .u64 q.step]

structure QR (b : Blks) (h : H) (q : QS) : Prop where
  d : BD b
  gp : h.get b.p = some ⟨q.cells b, false⟩
  gl : b.nil = true ∨ h.get b.bl = some ⟨ints (q.L ++ q.J), false⟩
  nn : b.nil = true → q.L = [] ∧ q.J = []
  gpl : h.get b.bp = some ⟨ints q.P, false⟩
  gs : h.get b.bs = some ⟨u64s q.S, false⟩
  np : b.p < h.next
  nl : b.nil = true ∨ b.bl < h.next
  npl : b.bp < h.next
  ns : b.bs < h.next

/-- All but the queue is as it was. -/
def Fq (b : Blks) (h h' : H) : Prop := h.next ≤ h'.next ∧ ∀ i, i < h.next → i ≠ b.p → i ≠ b.bl → i ≠ b.bp → i ≠ b.bs → h'.get i = h.get i
theorem Fq.refl (b : Blks) (h : H) : Fq b h h := ⟨Nat.le_refl _, fun _ _ _ _ _ _ => rfl⟩
theorem Fq.trans {b : Blks} {h h' h'' : H} (x : Fq b h h') (y : Fq b h' h'') : Fq b h h'' := ⟨Nat.le_trans x.1 y.1, fun i hi h1 h2 h3 h4 => (y.2 i (Nat.lt_of_lt_of_le hi x.1) h1 h2 h3 h4).trans (x.2 i hi h1 h2 h3 h4)⟩

/-- Variables are of places that there are. -/
structure In (q : QS) : Prop where
  ps : q.P.length = q.S.length
  v : ∀ x ∈ q.L, 1 ≤ x ∧ x < q.P.length
  sz : q.P.length ≤ 100000000
  ln : q.L.length ≤ 100000000

theorem In.l {q : QS} (I : In q) {k : Nat} (hk : k < q.L.length) : 1 ≤ q.l k ∧ q.l k < q.P.length := by
  have : q.l k = q.L[k] := by unfold QS.l; rw [List.getD_eq_getElem?_getD, List.getElem?_eq_getElem hk, Option.getD_some]
  rw [this]; exact I.v _ (List.getElem_mem hk)

theorem getD_at {l : List Int} {k : Nat} (hk : k < l.length) : l.getD k 0 = l[k] := by rw [List.getD_eq_getElem?_getD, List.getElem?_eq_getElem hk, Option.getD_some]
/-- Where somebody waits there is a row. -/
theorem QR.row {b : Blks} {h : H} {q : QS} (r : QR b h q) (h0 : 0 < q.L.length) : b.nil = false ∧ b.base = some ⟨b.bl, 0, b.s⟩ ∧ h.get b.bl = some ⟨ints (q.L ++ q.J), false⟩ ∧ b.bl < h.next := by
  have hn : ¬ b.nil = true := fun e => by rw [(r.nn e).1] at h0; simp at h0
  exact ⟨by simpa using hn, by unfold Blks.base; rw [if_neg hn], r.gl.resolve_left hn, r.nl.resolve_left hn⟩
theorem lv_of {q : QS} {b : Blks} (hb : b.base = some ⟨b.bl, 0, b.s⟩) : q.lv b = .slice (some ⟨b.bl, 0, b.s⟩) q.L.length (q.L.length + q.J.length) := by unfold QS.lv; rw [hb]
theorem QR.ldl {b : Blks} {h : H} {q : QS} (r : QR b h q) {k : Nat} (hk : k < q.L.length) : h.ld b.bl k = some (int (q.l k)) := by
  rw [ld_blk (r.row (by omega)).2.2.1, List.getElem?_map, List.getElem?_append_left hk, List.getElem?_eq_getElem hk]
  unfold QS.l
  rw [getD_at hk]; rfl
theorem QR.lds {b : Blks} {h : H} {q : QS} (r : QR b h q) {k : Nat} (hk : k < q.S.length) : h.ld b.bs k = some (.int .u64 (q.S.getD k 0)) := by
  rw [ld_blk r.gs, List.getElem?_map, List.getElem?_eq_getElem hk, getD_at hk]; rfl
theorem QR.ldp {b : Blks} {h : H} {q : QS} (r : QR b h q) {k : Nat} (hk : k < q.P.length) : h.ld b.bp k = some (int (q.P.getD k 0)) := by
  rw [ld_blk r.gpl, List.getElem?_map, List.getElem?_eq_getElem hk, getD_at hk]; rfl

/-- Does a come ahead of c? -/
def lessB (q : QS) (a c : Int) : Bool := decide (q.sc c < q.sc a ∨ (q.sc a = q.sc c ∧ a < c))

theorem less_ok {b : Blks} {h : H} {q : QS} {i k : Nat} (r : QR b h q) (I : In q) (hi : i < q.L.length) (hk : k < q.L.length) :
    AF E 88 [.pointer (some ⟨b.p, 0, none⟩), int i, int k] h fun v h' => v = .bool (lessB q (q.l i) (q.l k)) ∧ h' = h := by
  refine AF.walk (E_fn comp88) (E_spec (by decide) _ _) ?_
  have h1 := I.l hi
  have h2 := I.l hk
  have hs := I.ps
  obtain ⟨_, hbase, _⟩ := r.row (by omega)
  have n1 := natOf_int (k := .i64) (show 0 ≤ q.l i by omega)
  have n2 := natOf_int (k := .i64) (show 0 ≤ q.l k by omega)
  have s1 : (q.l i).toNat < q.S.length := by omega
  have s2 : (q.l k).toNat < q.S.length := by omega
  simp only [At.skip,At.reg,At.regDu,At.seq,At.cond,At.block,At.exit,At.ret,On.nil,On.seq,On.seqE,On.seqR,On.out,On.outR,On.outE,condV.t,condV.f,Ops.nil,Ops.op,Ops.call,opV.mk,Ops.gate,gateV.tt,gateV.ff,gateV.tf,gateV.ft,gateV.un,Dps.nil,Dps.newSl,Dps.op,Dps.call,Dps.gate,dopV.mk,dopV.new,dgateV.tt,dgateV.ff,dgateV.tf,dgateV.ft,dgateV.un,Go.Ae.I.isLoad,resQ.r,resQ.n,stepQ.n,stepQ.e,stepQ.r,set_some,set_none,of_nil,of_cons,rho_tmp,rho_const,rho_func,g_put,g_nil,evI,Ae.bin,binI,Ae.un,nilEq,lenOf,if_true,if_false,Nat.reduceEqDiff,Nat.reduceAdd,Nat.zero_add,reduceIte,List.map_cons,List.map_nil,Option.map_some,Option.bind_some,evRs,evR,one,Option.some.injEq,exists_eq_left',exists_eq_left,List.all_nil,reduceCtorEq,true_and,and_true,parts',fill_int,fill_bool,fill_slice,fill_ptr,fill_nil,reps_one,List.replicate,List.length_cons,List.length_nil,Nat.reduceLeDiff,List.set_cons_zero,List.set_cons_succ,List.length_set,List.length_replicate,adr,Nat.mul_one,decide_true,decide_false,Int.reduceBEq,Int.reduceBNe,Int.reduceLT,Int.reduceLE,Int.reduceNeg,beq_self_eq_true,bne_self_eq_false,Bool.not_true,Bool.not_false,cast_zero,cast_one,List.size_toArray,List.getElem?_toArray,List.getElem?_cons_zero,List.getElem?_cons_succ,H_eta,isTuple,cells_int,cells_bool,cells_slice,cells_ptr,cells_agg,put_one,dopX.f,dopX.t,kept_zero,Nat.add_zero,ge_iff_le,gt_iff_lt,Ops.callvV,callvV.mk,List.nil_append,List.cons_append,List.append_nil,List.toList_toArray,Option.map_none,optNat_n,optNat_s,H.up_zero,gateV.und,dgateV.und,Dps.callvV,dcallvV.mk, c88, c88_0, c88_1, ld_blk r.gp, lv_of (q := q) hbase, natOf_int (Int.natCast_nonneg i), natOf_int (Int.natCast_nonneg k), Int.toNat_natCast, hi, hk, r.ldl hi, r.ldl hk, c88_2, n1, n2, s1, s2, r.lds s1, r.lds s2]
  have e1 : q.S.getD (q.l i).toNat 0 = q.sc (q.l i) := rfl
  have e2 : q.S.getD (q.l k).toNat 0 = q.sc (q.l k) := rfl
  rw [e1, e2]
  unfold lessB
  by_cases he : q.sc (q.l i) = q.sc (q.l k)
  · simp only [At.skip,At.reg,At.regDu,At.seq,At.cond,At.block,At.exit,At.ret,On.nil,On.seq,On.seqE,On.seqR,On.out,On.outR,On.outE,condV.t,condV.f,Ops.nil,Ops.op,Ops.call,opV.mk,Ops.gate,gateV.tt,gateV.ff,gateV.tf,gateV.ft,gateV.un,Dps.nil,Dps.newSl,Dps.op,Dps.call,Dps.gate,dopV.mk,dopV.new,dgateV.tt,dgateV.ff,dgateV.tf,dgateV.ft,dgateV.un,Go.Ae.I.isLoad,resQ.r,resQ.n,stepQ.n,stepQ.e,stepQ.r,set_some,set_none,of_nil,of_cons,rho_tmp,rho_const,rho_func,g_put,g_nil,evI,Ae.bin,binI,Ae.un,nilEq,lenOf,if_true,if_false,Nat.reduceEqDiff,Nat.reduceAdd,Nat.zero_add,reduceIte,List.map_cons,List.map_nil,Option.map_some,Option.bind_some,evRs,evR,one,Option.some.injEq,exists_eq_left',exists_eq_left,List.all_nil,reduceCtorEq,true_and,and_true,parts',fill_int,fill_bool,fill_slice,fill_ptr,fill_nil,reps_one,List.replicate,List.length_cons,List.length_nil,Nat.reduceLeDiff,List.set_cons_zero,List.set_cons_succ,List.length_set,List.length_replicate,adr,Nat.mul_one,decide_true,decide_false,Int.reduceBEq,Int.reduceBNe,Int.reduceLT,Int.reduceLE,Int.reduceNeg,beq_self_eq_true,bne_self_eq_false,Bool.not_true,Bool.not_false,cast_zero,cast_one,List.size_toArray,List.getElem?_toArray,List.getElem?_cons_zero,List.getElem?_cons_succ,H_eta,isTuple,cells_int,cells_bool,cells_slice,cells_ptr,cells_agg,put_one,dopX.f,dopX.t,kept_zero,Nat.add_zero,ge_iff_le,gt_iff_lt,Ops.callvV,callvV.mk,List.nil_append,List.cons_append,List.append_nil,List.toList_toArray,Option.map_none,optNat_n,optNat_s,H.up_zero,gateV.und,dgateV.und,Dps.callvV,dcallvV.mk, he, bne_self_eq_false, c88_4]
    congr 1
    rw [decide_eq_decide]; omega
  · have hne : (q.sc (q.l i) != q.sc (q.l k)) = true := by simpa using he
    simp only [At.skip,At.reg,At.regDu,At.seq,At.cond,At.block,At.exit,At.ret,On.nil,On.seq,On.seqE,On.seqR,On.out,On.outR,On.outE,condV.t,condV.f,Ops.nil,Ops.op,Ops.call,opV.mk,Ops.gate,gateV.tt,gateV.ff,gateV.tf,gateV.ft,gateV.un,Dps.nil,Dps.newSl,Dps.op,Dps.call,Dps.gate,dopV.mk,dopV.new,dgateV.tt,dgateV.ff,dgateV.tf,dgateV.ft,dgateV.un,Go.Ae.I.isLoad,resQ.r,resQ.n,stepQ.n,stepQ.e,stepQ.r,set_some,set_none,of_nil,of_cons,rho_tmp,rho_const,rho_func,g_put,g_nil,evI,Ae.bin,binI,Ae.un,nilEq,lenOf,if_true,if_false,Nat.reduceEqDiff,Nat.reduceAdd,Nat.zero_add,reduceIte,List.map_cons,List.map_nil,Option.map_some,Option.bind_some,evRs,evR,one,Option.some.injEq,exists_eq_left',exists_eq_left,List.all_nil,reduceCtorEq,true_and,and_true,parts',fill_int,fill_bool,fill_slice,fill_ptr,fill_nil,reps_one,List.replicate,List.length_cons,List.length_nil,Nat.reduceLeDiff,List.set_cons_zero,List.set_cons_succ,List.length_set,List.length_replicate,adr,Nat.mul_one,decide_true,decide_false,Int.reduceBEq,Int.reduceBNe,Int.reduceLT,Int.reduceLE,Int.reduceNeg,beq_self_eq_true,bne_self_eq_false,Bool.not_true,Bool.not_false,cast_zero,cast_one,List.size_toArray,List.getElem?_toArray,List.getElem?_cons_zero,List.getElem?_cons_succ,H_eta,isTuple,cells_int,cells_bool,cells_slice,cells_ptr,cells_agg,put_one,dopX.f,dopX.t,kept_zero,Nat.add_zero,ge_iff_le,gt_iff_lt,Ops.callvV,callvV.mk,List.nil_append,List.cons_append,List.append_nil,List.toList_toArray,Option.map_none,optNat_n,optNat_s,H.up_zero,gateV.und,dgateV.und,Dps.callvV,dcallvV.mk, hne, c88_3, ld_blk r.gp, n1, n2, s1, s2, r.lds s1, r.lds s2, e1, e2]
    congr 1
    rw [decide_eq_decide]; omega

/-- What a swap makes. -/
def QS.swap (q : QS) (i k : Nat) : QS := { q with L := (q.L.set i (q.l k)).set k (q.l i), P := (q.P.set (q.l k).toNat i).set (q.l i).toNat k }

set_option maxHeartbeats 8000000 in
theorem swap_ok {b : Blks} {h : H} {q : QS} {i k : Nat} (r : QR b h q) (I : In q) (hi : i < q.L.length) (hk : k < q.L.length) :
    AF E 90 [.pointer (some ⟨b.p, 0, none⟩), int i, int k] h fun _ h' => QR b h' (q.swap i k) ∧ Fq b h h' ∧ h'.next = h.next := by
  refine AF.walk (E_fn comp90) (E_spec (by decide) _ _) ?_
  have d := r.d
  obtain ⟨hnil, hbase, rgl, rnl⟩ := r.row (by omega)
  have h1 := I.l hi
  have h2 := I.l hk
  have ni := natOf_int (k := .i64) (Int.natCast_nonneg i)
  have nk := natOf_int (k := .i64) (Int.natCast_nonneg k)
  have n1 := natOf_int (k := .i64) (show 0 ≤ q.l i by omega)
  have n2 := natOf_int (k := .i64) (show 0 ≤ q.l k by omega)
  have p1 : (q.l i).toNat < q.P.length := by omega
  have p2 : (q.l k).toNat < q.P.length := by omega
  -- the row
  have st1 : h.sts b.bl i [int (q.l k)] = some (h.set b.bl (some ⟨ints (q.L.set i (q.l k) ++ q.J), false⟩)) := by
    rw [sts_of rgl rfl (by simp; omega) rfl, put_one]
    congr 4
    simp only [ints, List.map_append, List.map_set]
    rw [List.set_append_left _ _ (by simpa using hi)]
  generalize hh1 : h.set b.bl (some ⟨ints (q.L.set i (q.l k) ++ q.J), false⟩) = h1' at st1
  have g1 : h1'.get b.bl = some ⟨ints (q.L.set i (q.l k) ++ q.J), false⟩ := by rw [← hh1, H.get_set, if_pos rfl]
  have st2 : h1'.sts b.bl k [int (q.l i)] = some (h1'.set b.bl (some ⟨ints ((q.L.set i (q.l k)).set k (q.l i) ++ q.J), false⟩)) := by
    rw [sts_of g1 rfl (by simp; omega) rfl, put_one]
    congr 4
    simp only [ints, List.map_append, List.map_set]
    rw [List.set_append_left _ _ (by simpa using hk)]
  generalize hh2 : h1'.set b.bl (some ⟨ints ((q.L.set i (q.l k)).set k (q.l i) ++ q.J), false⟩) = h2' at st2
  have g2 : h2'.get b.bl = some ⟨ints ((q.L.set i (q.l k)).set k (q.l i) ++ q.J), false⟩ := by rw [← hh2, H.get_set, if_pos rfl]
  have o2 : ∀ j, j ≠ b.bl → h2'.get j = h.get j := fun j hj => by rw [← hh2, H.get_set, if_neg hj, ← hh1, H.get_set, if_neg hj]
  have gp2 : h2'.get b.p = some ⟨q.cells b, false⟩ := (o2 _ d.d1).trans r.gp
  have gpl2 : h2'.get b.bp = some ⟨ints q.P, false⟩ := (o2 _ (Ne.symm d.d4)).trans r.gpl
  have hL2 : ((q.L.set i (q.l k)).set k (q.l i)).length = q.L.length := by simp
  have e1 : ((q.L.set i (q.l k)).set k (q.l i)).getD i 0 = q.l k := by
    rw [getD_at (by simpa using hi), List.getElem_set]
    split
    · rename_i e; subst e; rfl
    · rw [List.getElem_set, if_pos rfl]
  have e2 : ((q.L.set i (q.l k)).set k (q.l i)).getD k 0 = q.l i := by rw [getD_at (by simpa using hk), List.getElem_set, if_pos rfl]
  have ld1 : h2'.ld b.bl i = some (int (q.l k)) := by
    rw [ld_blk g2, List.getElem?_map, List.getElem?_append_left (by omega), List.getElem?_eq_getElem (by omega), ← getD_at, e1]; rfl
  have ld2 : h2'.ld b.bl k = some (int (q.l i)) := by
    rw [ld_blk g2, List.getElem?_map, List.getElem?_append_left (by omega), List.getElem?_eq_getElem (by omega), ← getD_at, e2]; rfl
  -- the places
  have st3 : h2'.sts b.bp (q.l k).toNat [int i] = some (h2'.set b.bp (some ⟨ints (q.P.set (q.l k).toNat i), false⟩)) := by
    rw [sts_of gpl2 rfl (by simp; omega) rfl, put_one]; simp only [ints, List.map_set]
  generalize hh3 : h2'.set b.bp (some ⟨ints (q.P.set (q.l k).toNat i), false⟩) = h3' at st3
  have g3 : h3'.get b.bp = some ⟨ints (q.P.set (q.l k).toNat i), false⟩ := by rw [← hh3, H.get_set, if_pos rfl]
  have st4 : h3'.sts b.bp (q.l i).toNat [int k] = some (h3'.set b.bp (some ⟨ints ((q.P.set (q.l k).toNat i).set (q.l i).toNat k), false⟩)) := by
    rw [sts_of g3 rfl (by simp; omega) rfl, put_one]; simp only [ints, List.map_set]
  generalize hh4 : h3'.set b.bp (some ⟨ints ((q.P.set (q.l k).toNat i).set (q.l i).toNat k), false⟩) = h4' at st4
  have o4 : ∀ j, j ≠ b.bp → h4'.get j = h2'.get j := fun j hj => by rw [← hh4, H.get_set, if_neg hj, ← hh3, H.get_set, if_neg hj]
  have n4 : h4'.next = h.next := by rw [← hh4, ← hh3, ← hh2, ← hh1]; rfl
  simp only [At.skip,At.reg,At.regDu,At.seq,At.cond,At.block,At.exit,At.ret,On.nil,On.seq,On.seqE,On.seqR,On.out,On.outR,On.outE,condV.t,condV.f,Ops.nil,Ops.op,Ops.call,opV.mk,Ops.gate,gateV.tt,gateV.ff,gateV.tf,gateV.ft,gateV.un,Dps.nil,Dps.newSl,Dps.op,Dps.call,Dps.gate,dopV.mk,dopV.new,dgateV.tt,dgateV.ff,dgateV.tf,dgateV.ft,dgateV.un,Go.Ae.I.isLoad,resQ.r,resQ.n,stepQ.n,stepQ.e,stepQ.r,set_some,set_none,of_nil,of_cons,rho_tmp,rho_const,rho_func,g_put,g_nil,evI,Ae.bin,binI,Ae.un,nilEq,lenOf,if_true,if_false,Nat.reduceEqDiff,Nat.reduceAdd,Nat.zero_add,reduceIte,List.map_cons,List.map_nil,Option.map_some,Option.bind_some,evRs,evR,one,Option.some.injEq,exists_eq_left',exists_eq_left,List.all_nil,reduceCtorEq,true_and,and_true,parts',fill_int,fill_bool,fill_slice,fill_ptr,fill_nil,reps_one,List.replicate,List.length_cons,List.length_nil,Nat.reduceLeDiff,List.set_cons_zero,List.set_cons_succ,List.length_set,List.length_replicate,adr,Nat.mul_one,decide_true,decide_false,Int.reduceBEq,Int.reduceBNe,Int.reduceLT,Int.reduceLE,Int.reduceNeg,beq_self_eq_true,bne_self_eq_false,Bool.not_true,Bool.not_false,cast_zero,cast_one,List.size_toArray,List.getElem?_toArray,List.getElem?_cons_zero,List.getElem?_cons_succ,H_eta,isTuple,cells_int,cells_bool,cells_slice,cells_ptr,cells_agg,put_one,dopX.f,dopX.t,kept_zero,Nat.add_zero,ge_iff_le,gt_iff_lt,Ops.callvV,callvV.mk,List.nil_append,List.cons_append,List.append_nil,List.toList_toArray,Option.map_none,optNat_n,optNat_s,H.up_zero,gateV.und,dgateV.und,Dps.callvV,dcallvV.mk, c90, c90_0, ld_blk r.gp, lv_of (q := q) hbase, ni, nk, Int.toNat_natCast, hi, hk, r.ldl hi, r.ldl hk, st1, st2, c90_1, ld_blk gp2, lv_of (q := q) hbase, ld1, ld2, n1, n2, p1, p2, st3, st4]
  refine ⟨⟨d, ?_, ?_, fun e => (by rw [hnil] at e; cases e), ?_, ?_, by rw [n4]; exact r.np, .inr (by rw [n4]; exact rnl), by rw [n4]; exact r.npl, by rw [n4]; exact r.ns⟩, ⟨by rw [n4]; exact Nat.le_refl _, fun j hj a1 a2 a3 a4 => ?_⟩, n4⟩
  · rw [o4 _ d.d2, gp2]
    simp [QS.swap]
  · right; rw [o4 _ d.d4, g2]; rfl
  · rw [← hh4, H.get_set, if_pos rfl]; rfl
  · rw [o4 _ (Ne.symm d.d6), o2 _ (Ne.symm d.d5), r.gs]; rfl
  · rw [o4 _ a3, o2 _ a2]
end Go.Proofs.Ytnejnaoehcahbaa.q
