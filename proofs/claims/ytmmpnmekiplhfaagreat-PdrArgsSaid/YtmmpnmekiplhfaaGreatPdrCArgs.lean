/-
  cert.Check of what may not be asked; a certificate that is handed in.
-/
import Derived.Test.YtmmpnmekiplhfaaGreatPdrCMay
import Derived.Test.YtmmpnmekiplhfaaGreatPdrCirOpen
namespace Go.Proofs.YtmmpnmekiplhfaaGreat
open Go Go.Ae
set_option linter.unusedSimpArgs false

theorem gate_un {E : Env} {T : Tm} {h : H} {fs : List Fm} {Q : Ex → Tm → H → Prop} {d : Option Nat} {want : Bool} {k : K} {os : List O} : gateV E undef want d k os T h fs Q = Ops E os (T.set d undef) h fs Q := gateV.un

def cargsP (c : Cir) (lss : List (List Int)) (bad budget : Int) : Prop := cmayP c lss = true ∧ 0 ≤ bad ∧ bad < (c.bads.length : Int) ∧ 0 ≤ budget ∧ budget ≤ 1048576

set_option maxHeartbeats 8000000 in
/-- cert.Check of what may not be asked. -/
theorem check_args {c : Cir} {h : H} {u : Value} {lss : List (List Int)} {bad budget : Int} (k : CirOk h.next h c) (s : Small c) (x : CrtOk h.next h u lss) (hno : ¬ cargsP c lss bad budget) :
    AF E 35 [.agg c.cells.toArray, int bad, .agg #[u], int budget] h fun v h' => v = .tuple #[.int .u8 0, int 0, .slice none 0 0, .slice none 0 0, int 2] ∧ Ext h.next h h' := by
  refine AF.walk (E_fn comp35) (E_spec (by decide) _ _) ?_
  obtain ⟨⟨a1, m1, e1⟩, ⟨a2, m2, e2⟩, ⟨a3, m3, e3⟩, ⟨a4, m4, e4⟩, ⟨a5, m5, e5⟩⟩ := k.sl
  have hx1 : Ext h.next h (h.new ⟨c.cells, false⟩) := Ext.new _
  have hb1 : (h.new ⟨c.cells, false⟩).get h.next = some ⟨c.cells, false⟩ := by rw [H.get_new, if_pos rfl]
  have hn1 : (h.new ⟨c.cells, false⟩).next = h.next + 1 := rfl
  simp only [At.regD,Dps.new,go_sem,Nat.reduceEqDiff,Nat.reduceAdd,reduceIte,reduceCtorEq,Nat.reduceLeDiff,Int.reduceBEq,Int.reduceBNe,Int.reduceEq,Int.reduceLT,Int.reduceLE,Int.reduceNeg, c35, c35_0, cells_agg]
  generalize h.new ⟨c.cells, false⟩ = h1 at hx1 hb1 hn1
  have hx2 : Ext h1.next h1 (h1.new ⟨[u], false⟩) := Ext.new _
  have hb2 : (h1.new ⟨[u], false⟩).get h1.next = some ⟨[u], false⟩ := by rw [H.get_new, if_pos rfl]
  have hn2 : (h1.new ⟨[u], false⟩).next = h1.next + 1 := rfl
  generalize h1.new ⟨[u], false⟩ = h2 at hx2 hb2 hn2
  have hc2 : h2.get h.next = some ⟨c.cells, false⟩ := (hx2.2 _ (by omega)).trans hb1
  have hx02 := hx1.trans (hx2.le hx1.1)
  simp only [At.regD,Dps.new,go_sem,Nat.reduceEqDiff,Nat.reduceAdd,reduceIte,reduceCtorEq,Nat.reduceLeDiff,Int.reduceBEq,Int.reduceBNe,Int.reduceEq,Int.reduceLT,Int.reduceLE,Int.reduceNeg, c35_1, ld6 hc2, lds1 hb2]
  refine callV.of (cmay_ok (k.to (Nat.le_refl _) hx02) s (x.to (Nat.le_refl _) hx02)) fun v h3 hv => ?_
  obtain ⟨rfl, hx3⟩ := hv
  have hx03 := hx02.trans (hx3.le hx02.1)
  have hc3 : h3.get h.next = some ⟨c.cells, false⟩ := (hx3.2 _ (by omega)).trans hc2
  cases hm : cmayP c lss
  · simp only [At.regD,Dps.new,go_sem,Nat.reduceEqDiff,Nat.reduceAdd,reduceIte,reduceCtorEq,Nat.reduceLeDiff,Int.reduceBEq,Int.reduceBNe,Int.reduceEq,Int.reduceLT,Int.reduceLE,Int.reduceNeg, c35_2]
    exact hx03
  simp only [At.regD,Dps.new,go_sem,Nat.reduceEqDiff,Nat.reduceAdd,reduceIte,reduceCtorEq,Nat.reduceLeDiff,Int.reduceBEq,Int.reduceBNe,Int.reduceEq,Int.reduceLT,Int.reduceLE,Int.reduceNeg]
  by_cases y1 : bad < 0
  · simp only [At.regD,Dps.new,go_sem,Nat.reduceEqDiff,Nat.reduceAdd,reduceIte,reduceCtorEq,Nat.reduceLeDiff,Int.reduceBEq,Int.reduceBNe,Int.reduceEq,Int.reduceLT,Int.reduceLE,Int.reduceNeg, y1, c35_2]
    exact hx03
  simp only [At.regD,Dps.new,go_sem,Nat.reduceEqDiff,Nat.reduceAdd,reduceIte,reduceCtorEq,Nat.reduceLeDiff,Int.reduceBEq,Int.reduceBNe,Int.reduceEq,Int.reduceLT,Int.reduceLE,Int.reduceNeg, y1, ld_blk hc3, at4, e4]
  by_cases y2 : (c.bads.length : Int) ≤ bad
  · simp only [At.regD,Dps.new,go_sem,Nat.reduceEqDiff,Nat.reduceAdd,reduceIte,reduceCtorEq,Nat.reduceLeDiff,Int.reduceBEq,Int.reduceBNe,Int.reduceEq,Int.reduceLT,Int.reduceLE,Int.reduceNeg, y2, c35_2]
    exact hx03
  simp only [At.regD,Dps.new,go_sem,Nat.reduceEqDiff,Nat.reduceAdd,reduceIte,reduceCtorEq,Nat.reduceLeDiff,Int.reduceBEq,Int.reduceBNe,Int.reduceEq,Int.reduceLT,Int.reduceLE,Int.reduceNeg, y2]
  by_cases y3 : budget < 0
  · simp only [At.regD,Dps.new,go_sem,Nat.reduceEqDiff,Nat.reduceAdd,reduceIte,reduceCtorEq,Nat.reduceLeDiff,Int.reduceBEq,Int.reduceBNe,Int.reduceEq,Int.reduceLT,Int.reduceLE,Int.reduceNeg, y3, c35_2]
    exact hx03
  simp only [At.regD,Dps.new,go_sem,Nat.reduceEqDiff,Nat.reduceAdd,reduceIte,reduceCtorEq,Nat.reduceLeDiff,Int.reduceBEq,Int.reduceBNe,Int.reduceEq,Int.reduceLT,Int.reduceLE,Int.reduceNeg, y3]
  by_cases y4 : 1048576 < budget
  · simp only [At.regD,Dps.new,go_sem,Nat.reduceEqDiff,Nat.reduceAdd,reduceIte,reduceCtorEq,Nat.reduceLeDiff,Int.reduceBEq,Int.reduceBNe,Int.reduceEq,Int.reduceLT,Int.reduceLE,Int.reduceNeg, y4, c35_2]
    exact hx03
  exact absurd ⟨hm, by omega, by omega, by omega, by omega⟩ hno


open Go.RowKit Go.ChangeShapes Go.WideShapes Go.ChangeAt
theorem tcells63 : Tryz.prog.cellsOf 63 = 1 := by kernel_rfl
theorem tcells65 : Tryz.prog.cellsOf 65 = 1 := by kernel_rfl

set_option maxRecDepth 100000 in
/-- A certificate among the arguments. -/
theorem open_crt {H : Type} {enc : TypeId × Value → H} {W : World} {v : Value} {d : DataW H} {p : List MemPlace} {r : Reach} {b0 : Nat} (hval : Value.okWide Tryz.prog W r b0 65 v) (hd : DataW.Trod enc Tryz.prog W 0 (fun _ => true) true 65 v d p) :
    ∃ (u : Value) (lss : List (List Int)), VR (emb W) (.agg #[u]) v ∧ CrtOk (ofWorld W).next (ofWorld W) u lss := by
  obtain ⟨cs, rfl, hsz⟩ := okWide_struct Tryz.underlying65 hval
  rw [tcells65] at hsz
  obtain ⟨fuel, hf⟩ := hd
  obtain ⟨xs, n, _, _, hl, hlen, hfs⟩ := DataW.trod_struct Tryz.underlying65 hf
  have e : (Value.agg cs).cells.toList = cs.toList := by simp [Value.cells]
  rw [e] at hfs
  have hcl : cs.toList.length = 1 := by simpa using hsz
  have hxl : xs.length = 1 := hlen
  obtain ⟨L, hL⟩ : ∃ L, L = cs.toList := ⟨_, rfl⟩
  rw [← hL] at hfs hcl
  match L, hcl, xs, hxl, hL, hfs with
  | [x0], _, [y0], _, hL, hfs =>
    have t0 := hfs 0 ⟨"Clauses", 63, 0, false, "", "", 0⟩ rfl
    simp only [tcells63, List.drop_zero, List.take_succ_cons, List.take_zero, List.getElem?_cons_zero] at t0
    obtain ⟨lss, hr, hw, hb⟩ := cells_lists Tryz.underlying63 Tryz.underlying60 Tryz.underlying75 tcells60 tcells75 t0
    refine ⟨cln W x0, lss, VR.agg' ?_, ⟨hr, fun l hl => ⟨(hw l hl).1, fun z hz => wf_u32 ((hw l hl).2 z hz)⟩, hb⟩⟩
    rw [← hL]
    exact .cons (cln_vr _ _) (.nil _)
end Go.Proofs.YtmmpnmekiplhfaaGreat
