/-
  A circuit that is handed in.
-/
import Derived.Test.YtkhfcljkpjgljaaAeOpen2
import Derived.Test.YtkhfcljkpjgljaaCir
namespace Go.Proofs.Ytkhfcljkpjgljaa
open Go Go.Ae Go.RowKit Go.ChangeShapes Go.WideShapes Go.ChangeAt
set_option linter.unusedSimpArgs false

theorem tcells3 : Try.prog.cellsOf 3 = 1 := by kernel_rfl
theorem tcells5 : Try.prog.cellsOf 5 = 1 := by kernel_rfl
theorem tcells39 : Try.prog.cellsOf 39 = 1 := by kernel_rfl
theorem tcells22 : Try.prog.cellsOf 22 = 1 := by kernel_rfl
theorem tcells23 : Try.prog.cellsOf 23 = 1 := by kernel_rfl
theorem tcells24 : Try.prog.cellsOf 24 = 1 := by kernel_rfl
theorem tcells26 : Try.prog.cellsOf 26 = 6 := by kernel_rfl
theorem tcells51 : Try.prog.cellsOf 51 = 2 := by kernel_rfl
theorem tcells56 : Try.prog.cellsOf 56 = 2 := by kernel_rfl

theorem wf_u32 {n : Int} (h : (Lit.int .u32 n).wf = true) : U32 n := by
  unfold Lit.wf at h
  rw [Bool.and_eq_true, decide_eq_true_eq, decide_eq_true_eq] at h
  have h1 : IntKind.u32.min = 0 := by decide
  have h2 : IntKind.u32.max = 4294967295 := by decide
  unfold U32; omega
theorem wf_u8 {n : Int} (h : (Lit.int .u8 n).wf = true) : 0 ≤ n ∧ n < 256 := by
  unfold Lit.wf at h
  rw [Bool.and_eq_true, decide_eq_true_eq, decide_eq_true_eq] at h
  have h1 : IntKind.u8.min = 0 := by decide
  have h2 : IntKind.u8.max = 255 := by decide
  omega

set_option maxRecDepth 100000 in
/-- A circuit among the arguments. -/
theorem open_cir {H : Type} {enc : TypeId × Value → H} {W : World} {v : Value} {d : DataW H} {p : List MemPlace} {r : Reach} {b0 : Nat} (hval : Value.okWide Try.prog W r b0 26 v) (hd : DataW.Trod enc Try.prog W 0 (fun _ => true) true 26 v d p) :
    ∃ c : Cir, VR (emb W) (.agg c.cells.toArray) v ∧ CirOk (ofWorld W).next (ofWorld W) c := by
  obtain ⟨cs, rfl, hsz⟩ := okWide_struct Try.underlying26 hval
  rw [tcells26] at hsz
  obtain ⟨fuel, hf⟩ := hd
  obtain ⟨xs, n, _, _, hl, hlen, hfs⟩ := DataW.trod_struct Try.underlying26 hf
  have e : (Value.agg cs).cells.toList = cs.toList := by simp [Value.cells]
  rw [e] at hfs
  have hcl : cs.toList.length = 6 := by simpa using hsz
  have hxl : xs.length = 6 := hlen
  obtain ⟨L, hL⟩ : ∃ L, L = cs.toList := ⟨_, rfl⟩
  rw [← hL] at hfs hcl
  match L, hcl, xs, hxl, hL, hfs with
  | [x0, x1, x2, x3, x4, x5], _, [y0, y1, y2, y3, y4, y5], _, hL, hfs =>
    have t0 := hfs 0 ⟨"Inputs", 3, 0, false, "", "", 0⟩ rfl
    have t1 := hfs 1 ⟨"Latches", 22, 1, false, "", "", 8⟩ rfl
    have t2 := hfs 2 ⟨"Gates", 23, 2, false, "", "", 32⟩ rfl
    have t3 := hfs 3 ⟨"Outputs", 24, 3, false, "", "", 56⟩ rfl
    have t4 := hfs 4 ⟨"Bads", 24, 4, false, "", "", 80⟩ rfl
    have t5 := hfs 5 ⟨"Constraints", 24, 5, false, "", "", 104⟩ rfl
    simp only [tcells3, tcells22, tcells23, tcells24, List.drop_zero, List.drop_succ_cons, List.take_succ_cons, List.take_zero, List.getElem?_cons_zero, List.getElem?_cons_succ] at t0 t1 t2 t3 t4 t5
    obtain ⟨inp, e0, _, w0⟩ := DataW.trod_int Try.underlying3 t0
    simp only [List.cons.injEq, and_true] at e0
    subst e0
    obtain ⟨lats, rl, wl⟩ := cells_pairs Try.underlying22 Try.underlying56 tcells56 Try.underlying39 Try.underlying5 tcells39 tcells5 rfl rfl t1
    obtain ⟨gats, rg, wg⟩ := cells_pairs Try.underlying23 Try.underlying51 tcells51 Try.underlying39 Try.underlying39 tcells39 tcells39 rfl rfl t2
    obtain ⟨outs, ro, wo, _⟩ := cells_ints Try.underlying24 Try.underlying39 tcells39 t3
    obtain ⟨bads, rb, wb, _⟩ := cells_ints Try.underlying24 Try.underlying39 tcells39 t4
    obtain ⟨cons, rk, wk, _⟩ := cells_ints Try.underlying24 Try.underlying39 tcells39 t5
    refine ⟨⟨inp, lats, gats, outs, bads, cons, cln W x1, cln W x2, cln W x3, cln W x4, cln W x5⟩, VR.agg' ?_, ⟨rl, rg, ro, rb, rk, cln_old _ _, cln_old _ _, cln_old _ _, cln_old _ _, cln_old _ _, fun p hp => ⟨wf_u32 (wl p hp).1, wf_u8 (wl p hp).2⟩, fun p hp => ⟨wf_u32 (wg p hp).1, wf_u32 (wg p hp).2⟩, fun x hx => wf_u32 (wo x hx), fun x hx => wf_u32 (wb x hx), fun x hx => wf_u32 (wk x hx)⟩⟩
    rw [← hL]
    simp only [Cir.cells, List.toList_toArray]
    exact .cons (.int _ _) (.cons (cln_vr _ _) (.cons (cln_vr _ _) (.cons (cln_vr _ _) (.cons (cln_vr _ _) (.cons (cln_vr _ _) (.nil _))))))
end Go.Proofs.Ytkhfcljkpjgljaa
