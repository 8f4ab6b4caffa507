/-
  THE LAW PdrArgs: what may not be asked is ErrArg; then nothing else is told. For every circuit, number, certificate and budget. No condition.
-/
import Derived.Test.YtmmpnmekiplhfaaGreatPdrPLaw
import Derived.Test.YtmmpnmekiplhfaaGreatPdrPdrJ
import Derived.SizedLaws
namespace Go.Proofs.YtmmpnmekiplhfaaGreat
open Go Go.Ae Go.RowKit Go.ChangeShapes Go.WideShapes Go.ChangeAt

namespace pdrArgs
set_option maxRecDepth 100000 in
theorem lifted (os : Os) (started : os.Started) (H : Type) (enc : TypeId × Value → H) :
    ReturnsInHanded {} Tryz.checked os 16 .any (Rows.pdrArgsSpec.pre6 enc Tryz.prog Tryz.f16 Rows.pdrArgsRow.domain false) (Rows.pdrArgsSpec.post enc Tryz.prog Tryz.f16 false true false false) := by
  refine returnsInHanded_of_change_sized (C := Tryz.checked) own started (by kernel_rfl) Tryz.func16
    (ChangeSpec.witness6 (enc := enc) (C := Tryz.checked) false ⟨#[], #[.agg #[.int .i64 0, .slice none 0 0, .slice none 0 0, .slice none 0 0, .slice none 0 0, .slice none 0 0], .int .i64 0, .agg #[.slice none 0 0], .int .i64 0], []⟩ 8 (by kernel_rfl) (by kernel_rfl) (by kernel_rfl) (by kernel_rfl)) ?_
  intro W base args ds gs before hval0 hW hcnd hwt _
  have hval : ∀ (j : Nat) t v, Tryz.f16.params[j]? = some t → args[j]? = some v → Value.okWide Tryz.prog W .any base t v := hval0
  have hW' := hW
  obtain ⟨p, q, hA0, hV, rfl, hfz, hnd⟩ := hW
  have hA : DataW.TrodAll enc Tryz.prog W 0 (fun _ => true) true Tryz.f16.params.toList args.toList ds p := hA0
  obtain ⟨rfl, rfl⟩ := trodVars_none hV
  simp only [List.append_nil] at hW'
  have hlt : ∀ x ∈ p, x.block < W.heap.size := fun x hx => by simpa using hW'.lt x hx
  have hkeep := fun (W' : World) (hb : Below W.heap.size W W') => Ae.trodAll_below laidOut hb _ _ _ _ (by kernel_rfl) hA hlt
  rw [Tryz.params16] at hA hval hkeep
  obtain ⟨v0, vs0, d0, ds0, p0, q0, hargs, rfl, rfl, h0, r0⟩ := trodAll_cons hA
  obtain ⟨v1, vs1, d1, ds1, p1, q1, rfl, rfl, rfl, h1, r1⟩ := trodAll_cons r0
  obtain ⟨v2, vs2, d2, ds2, p2, q2, rfl, rfl, rfl, h2, r2⟩ := trodAll_cons r1
  obtain ⟨v3, vs3, d3, ds3, p3, q3, rfl, rfl, rfl, h3, r3⟩ := trodAll_cons r2
  obtain ⟨rfl, rfl, rfl⟩ := trodAll_nil r3
  obtain rfl : args = #[v0, v1, v2, v3] := by cases args; simp_all
  obtain ⟨c, hvr, hck, hin, hsm⟩ := open_cir (hval 0 62 v0 rfl rfl) h0
  obtain ⟨a1, rfl, rfl, rfl, w1⟩ := open_int Tryz.underlying3 (hval 1 3 v1 rfl rfl) h1
  obtain ⟨u, lss, hur, hcr⟩ := open_crt (hval 2 65 v2 rfl rfl) h2
  obtain ⟨a3, rfl, rfl, rfl, w3⟩ := open_int Tryz.underlying3 (hval 3 3 v3 rfl rfl) h3
  have hs := hsm fun m hm => by
    have h1 := List.all_eq_true.1 hwt m (DataW.weights_mem_each (j := 0) (t := 62) (d := d0) rfl rfl m hm)
    have h2 : m ≤ reachBytes := by simpa using h1
    have h3 := reachBytes_lt
    omega
  have walk := law_true lives_ok (f := 16) (args := [.agg c.cells.toArray, .int .i64 a1, .agg #[u], .int .i64 a3]) (args' := [v0, .int .i64 a1, v2, .int .i64 a3]) (W := W) (pargs_says hck ⟨hs.1, hs.2⟩ hcr) (.cons hvr (.cons (.int _ _) (.cons hur (.cons (.int _ _) (.nil _)))))
  refine walk.mono fun e W' ⟨he, hb⟩ => ?_
  subst he
  exact ⟨_, rfl, _, _, _, [], _, [], hW', trodAll_cons_mk (shut_bool Tryz.underlying4 _) trodAll_mk0, hkeep W' hb, rfl, hb.frame _, fun h => by cases h⟩

theorem over : Rows.pdrArgsRow.holds Tryz.pinned (OpenSpec.ofChange Rows.pdrArgsSpec) :=
  OpenClaim.holds_of_wide 16 Tryz.f16 rfl rfl rfl rfl rfl rfl rfl ⟨rfl, rfl, rfl, rfl, rfl⟩ rfl rfl rfl rfl rfl (by kernel_rfl) Tryz.func16 closed
    (of_decide_eq_true (by kernel_rfl)) (by unfold Func.isWrapper; first | (rw [if_pos (by decide +kernel)]; kernel_rfl) | (rw [if_neg (by decide +kernel)]; exact ⟨rfl, rfl⟩))
    (fun os started H enc _ => lifted os started H enc)

theorem proved : Rows.PdrArgsSaid := over
#print axioms proved
end pdrArgs
end Go.Proofs.YtmmpnmekiplhfaaGreat
