/-
  THE LAW QueueFalls: taken one by one, those that wait come by falling scores, of equal ones the least first, each once. For every number, slice and number. No condition.
-/
import Derived.Test.YtnejnaoehcahbaaAeOpen2
import Derived.Test.YtnejnaoehcahbaaQ7
import Derived.SizedLaws
namespace Go.Proofs.Ytnejnaoehcahbaa.queueFalls
open Go Go.Ae Go.Proofs.Ytnejnaoehcahbaa.q Go.ChangeShapes Go.WideShapes Go.ChangeAt Go.RowKit

theorem own : ownKnob Try.prog.godebug = none := by kernel_rfl
theorem cells5 : Try.prog.cellsOf 5 = 1 := by kernel_rfl
theorem wf_u8 {n : Int} (h : (Lit.int .u8 n).wf = true) : 0 ≤ n ∧ n < 256 := by
  unfold Lit.wf at h
  rw [Bool.and_eq_true, decide_eq_true_eq, decide_eq_true_eq] at h
  have h1 : IntKind.u8.min = 0 := by decide
  have h2 : IntKind.u8.max = 255 := by decide
  omega
theorem laidOut : laidOutB Try.prog = true := by kernel_rfl

set_option maxRecDepth 100000 in
theorem lifted (os : Os) (started : os.Started) (H : Type) (enc : TypeId × Value → H) :
    ReturnsInHanded {} Try.checked os 7 .any (Rows.queueFallsSpec.pre6 enc Try.prog Try.f7 Rows.queueFallsRow.domain false) (Rows.queueFallsSpec.post enc Try.prog Try.f7 false true false false) := by
  refine returnsInHanded_of_change (C := Try.checked) own started (by kernel_rfl) Try.func7
    (ChangeSpec.witness6 (enc := enc) (C := Try.checked) false ⟨#[], #[.int .u8 0, .slice none 0 0, .int .u8 0], []⟩ 8 (by kernel_rfl) (by kernel_rfl) (by kernel_rfl) (by kernel_rfl)) ?_
  intro W base args ds gs before hval0 hW hcnd _
  have hval : ∀ (j : Nat) t v, Try.f7.params[j]? = some t → args[j]? = some v → Value.okWide Try.prog W .any base t v := hval0
  have hW' := hW
  obtain ⟨p, q, hA0, hV, rfl, hfz, hnd⟩ := hW
  have hA : DataW.TrodAll enc Try.prog W 0 (fun _ => true) true Try.f7.params.toList args.toList ds p := hA0
  obtain ⟨rfl, rfl⟩ := trodVars_none hV
  simp only [List.append_nil] at hW'
  have hlt : ∀ x ∈ p, x.block < W.heap.size := fun x hx => by simpa using hW'.lt x hx
  have hkeep := fun (W' : World) (hb : Below W.heap.size W W') => Ae.trodAll_below laidOut hb _ _ _ _ (by kernel_rfl) hA hlt
  rw [Try.params7] at hA hval hkeep
  obtain ⟨v0, vs0, d0, ds0, p0, q0, hargs, rfl, rfl, h0, r0⟩ := trodAll_cons hA
  obtain ⟨v1, vs1, d1, ds1, p1, q1, rfl, rfl, rfl, h1, r1⟩ := trodAll_cons r0
  obtain ⟨v2, vs2, d2, ds2, p2, q2, rfl, rfl, rfl, h2, r2⟩ := trodAll_cons r1
  obtain ⟨rfl, rfl, rfl⟩ := trodAll_nil r2
  obtain rfl : args = #[v0, v1, v2] := by cases args; simp_all
  obtain ⟨a0, rfl, rfl, rfl, w0⟩ := open_int Try.underlying5 (hval 0 5 v0 rfl rfl) h0
  obtain ⟨a2, rfl, rfl, rfl, w2⟩ := open_int Try.underlying5 (hval 2 5 v2 rfl rfl) h2
  obtain ⟨sa, len, cap, rfl⟩ := okWide_slice Try.underlying53 (hval 1 53 v1 rfl rfl)
  obtain ⟨fuel, hf1⟩ := h1
  obtain ⟨bs, hrd, hwf, _⟩ := cells_ints (H := H) (enc := enc) (W := W) (x := .slice sa len cap) Try.underlying53 Try.underlying5 cells5 hf1
  have walk := law_true lives_ok (f := 7) (args := [.int .u8 a0, cln W (.slice sa len cap), .int .u8 a2]) (args' := [.int .u8 a0, .slice sa len cap, .int .u8 a2]) (W := W) (falls_says hrd (cln_old W _) (fun x hx => wf_u8 (hwf x hx)) (wf_u8 w0) (wf_u8 w2)) (.cons (.int _ _) (.cons (cln_vr W _) (.cons (.int _ _) (.nil _))))
  refine walk.mono fun e W' ⟨he, hb⟩ => ?_
  subst he
  exact ⟨_, rfl, _, _, _, [], _, [], hW', trodAll_cons_mk (shut_bool Try.underlying4 _) trodAll_mk0, hkeep W' hb, rfl, hb.frame _, fun h => by cases h⟩

theorem over : Rows.queueFallsRow.holds Try.pinned (OpenSpec.ofChange Rows.queueFallsSpec) :=
  OpenClaim.holds_of_wide 7 Try.f7 rfl rfl rfl rfl rfl rfl rfl ⟨rfl, rfl, rfl, rfl, rfl⟩ rfl rfl rfl rfl rfl (by kernel_rfl) Try.func7 (by kernel_rfl)
    (of_decide_eq_true (by kernel_rfl)) (by unfold Func.isWrapper; first | (rw [if_pos (by decide +kernel)]; kernel_rfl) | (rw [if_neg (by decide +kernel)]; exact ⟨rfl, rfl⟩))
    (fun os started H enc _ => lifted os started H enc)

theorem proved : Rows.QueueFallsSaid := over
#print axioms proved
end Go.Proofs.Ytnejnaoehcahbaa.queueFalls
