/-
  A circuit that is handed in.
-/
import Derived.Test.YtmmpnmekiplhfaaGreatAeOpen2
import Derived.Test.YtmmpnmekiplhfaaGreatPdrCir
import Derived.SizedLaws
namespace Go.Proofs.YtmmpnmekiplhfaaGreat
open Go Go.Ae Go.RowKit Go.ChangeShapes Go.WideShapes Go.ChangeAt
set_option linter.unusedSimpArgs false

theorem tcells3 : Tryz.prog.cellsOf 3 = 1 := by kernel_rfl
theorem tcells5 : Tryz.prog.cellsOf 5 = 1 := by kernel_rfl
theorem tcells75 : Tryz.prog.cellsOf 75 = 1 := by kernel_rfl
theorem tcells58 : Tryz.prog.cellsOf 58 = 1 := by kernel_rfl
theorem tcells59 : Tryz.prog.cellsOf 59 = 1 := by kernel_rfl
theorem tcells60 : Tryz.prog.cellsOf 60 = 1 := by kernel_rfl
theorem tcells62 : Tryz.prog.cellsOf 62 = 6 := by kernel_rfl
theorem tcells140 : Tryz.prog.cellsOf 140 = 2 := by kernel_rfl
theorem tcells130 : Tryz.prog.cellsOf 130 = 2 := by kernel_rfl

theorem wf_u32 {n : Int} (h : (Lit.int .u32 n).wf = true) : U32 n := by
  unfold Lit.wf at h
  rw [Bool.and_eq_true, decide_eq_true_eq, decide_eq_true_eq] at h
  have h1 : IntKind.u32.min = 0 := by decide
  have h2 : IntKind.u32.max = 4294967295 := by decide
  unfold U32; omega
theorem wf_u8 {n : Int} (h : (Lit.int .u8 n).wf = true) : 0 ≤ n ∧ n < 256 := by
  unfold Lit.wf at h
  rw [Bool.and_eq_true, decide_eq_true_eq, decide_eq_true_eq] at h
  have h1 : IntKind.u8.min = 0 := by decide
  have h2 : IntKind.u8.max = 255 := by decide
  omega

theorem wf_i64 {n : Int} (h : (Lit.int .i64 n).wf = true) : -9223372036854775808 ≤ n ∧ n ≤ 9223372036854775807 := by
  unfold Lit.wf at h
  rw [Bool.and_eq_true, decide_eq_true_eq, decide_eq_true_eq] at h
  have h1 : IntKind.i64.min = -9223372036854775808 := by decide
  have h2 : IntKind.i64.max = 9223372036854775807 := by decide
  omega

theorem cells_sized {P : Program} {H : Type} {enc : TypeId × Value → H} {W : World} {t e : TypeId} {fuel B : Nat} {x : Value} {y : DataW H × List MemPlace} (ht : P.underlying t = some (.slice e)) (h : DataW.trod enc P W 0 (fun _ => true) true fuel t [x] = some y)
    {a : Option Addr} {n c : Nat} (hx : cln W x = .slice a n c) (hb : 1 ≤ P.bytesOf e) (hw : ∀ m ∈ y.1.weights P t, m ≤ B) : n ≤ B := by
  rcases DataW.trod_slice ht h with ⟨hcs, _⟩ | ⟨a', len, cap, elems, rest, m, _, hcs, hy, _, hl, hm, hle, _⟩
  · simp only [List.cons.injEq, and_true] at hcs
    subst hcs
    simp only [cln, plain, if_true] at hx
    cases hx
    exact Nat.zero_le _
  · simp only [List.cons.injEq, and_true] at hcs
    subst hcs
    have h1 : (elems.length + rest.length) * P.bytesOf e ≤ B := hw _ (by rw [hy]; simp [DataW.weights, ht])
    have h2 : elems.length + rest.length ≤ (elems.length + rest.length) * P.bytesOf e := Nat.le_mul_of_pos_right _ hb
    have h3 : len ≤ B := by omega
    simp only [cln] at hx
    split at hx
    · cases hx; exact h3
    · split at hx
      · cases hx; exact Nat.zero_le _
      · cases hx

theorem tbytes130 : Tryz.prog.bytesOf 130 = 8 := by kernel_rfl
theorem tbytes140 : Tryz.prog.bytesOf 140 = 8 := by kernel_rfl

set_option maxRecDepth 100000 in
/-- A circuit among the arguments. -/
theorem open_cir {H : Type} {enc : TypeId × Value → H} {W : World} {v : Value} {d : DataW H} {p : List MemPlace} {r : Reach} {b0 : Nat} (hval : Value.okWide Tryz.prog W r b0 62 v) (hd : DataW.Trod enc Tryz.prog W 0 (fun _ => true) true 62 v d p) :
    ∃ c : Cir, VR (emb W) (.agg c.cells.toArray) v ∧ CirOk (ofWorld W).next (ofWorld W) c ∧ (-9223372036854775808 ≤ c.inputs ∧ c.inputs ≤ 9223372036854775807) ∧ ((∀ m ∈ d.weights Tryz.prog 62, m ≤ 140737488355328) → c.lats.length ≤ 140737488355328 ∧ c.gats.length ≤ 140737488355328) := by
  obtain ⟨cs, rfl, hsz⟩ := okWide_struct Tryz.underlying62 hval
  rw [tcells62] at hsz
  obtain ⟨fuel, hf⟩ := hd
  obtain ⟨xs, n, _, hxd, hl, hlen, hfs⟩ := DataW.trod_struct Tryz.underlying62 hf
  have e : (Value.agg cs).cells.toList = cs.toList := by simp [Value.cells]
  rw [e] at hfs
  have hcl : cs.toList.length = 6 := by simpa using hsz
  have hxl : xs.length = 6 := hlen
  obtain ⟨L, hL⟩ : ∃ L, L = cs.toList := ⟨_, rfl⟩
  rw [← hL] at hfs hcl
  match L, hcl, xs, hxl, hL, hfs, hxd with
  | [x0, x1, x2, x3, x4, x5], _, [y0, y1, y2, y3, y4, y5], _, hL, hfs, hxd =>
    have t0 := hfs 0 ⟨"Inputs", 3, 0, false, "", "", 0⟩ rfl
    have t1 := hfs 1 ⟨"Latches", 58, 1, false, "", "", 8⟩ rfl
    have t2 := hfs 2 ⟨"Gates", 59, 2, false, "", "", 32⟩ rfl
    have t3 := hfs 3 ⟨"Outputs", 60, 3, false, "", "", 56⟩ rfl
    have t4 := hfs 4 ⟨"Bads", 60, 4, false, "", "", 80⟩ rfl
    have t5 := hfs 5 ⟨"Constraints", 60, 5, false, "", "", 104⟩ rfl
    simp only [tcells3, tcells58, tcells59, tcells60, List.drop_zero, List.drop_succ_cons, List.take_succ_cons, List.take_zero, List.getElem?_cons_zero, List.getElem?_cons_succ] at t0 t1 t2 t3 t4 t5
    obtain ⟨inp, e0, _, w0⟩ := DataW.trod_int Tryz.underlying3 t0
    simp only [List.cons.injEq, and_true] at e0
    subst e0
    obtain ⟨lats, rl, wl⟩ := cells_pairs Tryz.underlying58 Tryz.underlying130 tcells130 Tryz.underlying75 Tryz.underlying5 tcells75 tcells5 rfl rfl t1
    obtain ⟨gats, rg, wg⟩ := cells_pairs Tryz.underlying59 Tryz.underlying140 tcells140 Tryz.underlying75 Tryz.underlying75 tcells75 tcells75 rfl rfl t2
    obtain ⟨outs, ro, wo, _⟩ := cells_ints Tryz.underlying60 Tryz.underlying75 tcells75 t3
    obtain ⟨bads, rb, wb, _⟩ := cells_ints Tryz.underlying60 Tryz.underlying75 tcells75 t4
    obtain ⟨cons, rk, wk, _⟩ := cells_ints Tryz.underlying60 Tryz.underlying75 tcells75 t5
    refine ⟨⟨inp, lats, gats, outs, bads, cons, cln W x1, cln W x2, cln W x3, cln W x4, cln W x5⟩, VR.agg' ?_, ⟨rl, rg, ro, rb, rk, cln_old _ _, cln_old _ _, cln_old _ _, cln_old _ _, cln_old _ _, fun p hp => ⟨wf_u32 (wl p hp).1, wf_u8 (wl p hp).2⟩, fun p hp => ⟨wf_u32 (wg p hp).1, wf_u32 (wg p hp).2⟩, fun x hx => wf_u32 (wo x hx), fun x hx => wf_u32 (wb x hx), fun x hx => wf_u32 (wk x hx), ?_, ?_, ?_, ?_, ?_⟩, wf_i64 w0, fun hw => ?_⟩
    rotate_right 6
    · obtain ⟨a, m, e⟩ := rl.len; exact cells_le Tryz.underlying58 t1 e
    · obtain ⟨a, m, e⟩ := rg.len; exact cells_le Tryz.underlying59 t2 e
    · obtain ⟨a, m, e⟩ := ro.len; rw [List.length_map] at e; exact cells_le Tryz.underlying60 t3 e
    · obtain ⟨a, m, e⟩ := rb.len; rw [List.length_map] at e; exact cells_le Tryz.underlying60 t4 e
    · obtain ⟨a, m, e⟩ := rk.len; rw [List.length_map] at e; exact cells_le Tryz.underlying60 t5 e
    · have hd : d = .agg [y0.1, y1.1, y2.1, y3.1, y4.1, y5.1] := congrArg Prod.fst hxd
      rw [hd] at hw
      simp only [DataW.weights, Tryz.underlying62] at hw
      obtain ⟨a, m, e⟩ := rl.len
      obtain ⟨a', m', e'⟩ := rg.len
      exact ⟨cells_sized Tryz.underlying58 t1 e (by rw [tbytes130]; decide) fun m hm => hw m (DataW.weights_mem_each (j := 1) rfl rfl m hm), cells_sized Tryz.underlying59 t2 e' (by rw [tbytes140]; decide) fun m hm => hw m (DataW.weights_mem_each (j := 2) rfl rfl m hm)⟩
    rw [← hL]
    simp only [Cir.cells, List.toList_toArray]
    exact .cons (.int _ _) (.cons (cln_vr _ _) (.cons (cln_vr _ _) (.cons (cln_vr _ _) (.cons (cln_vr _ _) (.cons (cln_vr _ _) (.nil _))))))
end Go.Proofs.YtmmpnmekiplhfaaGreat
