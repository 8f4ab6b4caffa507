/-
  THE LAW CertArgs: what may not be is ErrArg; then nothing else is told. For every circuit, number, certificate and budget. No condition.
-/
import Derived.Test.YtmmpnmekiplhfaaGreatCertCLaw
import Derived.Test.YtmmpnmekiplhfaaGreatCertCirOpen
import Derived.Test.YtmmpnmekiplhfaaGreatCertCertJ
import Derived.SizedLaws
namespace Go.Proofs.YtmmpnmekiplhfaaGreat
open Go Go.Ae Go.RowKit Go.ChangeShapes Go.WideShapes Go.ChangeAt

theorem tcells63 : Tryz.prog.cellsOf 63 = 1 := by kernel_rfl
theorem tcells65 : Tryz.prog.cellsOf 65 = 1 := by kernel_rfl

set_option maxRecDepth 100000 in
/-- A certificate among the arguments. -/
theorem open_crt {H : Type} {enc : TypeId × Value → H} {W : World} {v : Value} {d : DataW H} {p : List MemPlace} {r : Reach} {b0 : Nat} (hval : Value.okWide Tryz.prog W r b0 65 v) (hd : DataW.Trod enc Tryz.prog W 0 (fun _ => true) true 65 v d p) :
    ∃ (u : Value) (lss : List (List Int)), VR (emb W) (.agg #[u]) v ∧ CrtOk (ofWorld W).next (ofWorld W) u lss := by
  obtain ⟨cs, rfl, hsz⟩ := okWide_struct Tryz.underlying65 hval
  rw [tcells65] at hsz
  obtain ⟨fuel, hf⟩ := hd
  obtain ⟨xs, n, _, _, hl, hlen, hfs⟩ := DataW.trod_struct Tryz.underlying65 hf
  have e : (Value.agg cs).cells.toList = cs.toList := by simp [Value.cells]
  rw [e] at hfs
  have hcl : cs.toList.length = 1 := by simpa using hsz
  have hxl : xs.length = 1 := hlen
  obtain ⟨L, hL⟩ : ∃ L, L = cs.toList := ⟨_, rfl⟩
  rw [← hL] at hfs hcl
  match L, hcl, xs, hxl, hL, hfs with
  | [x0], _, [y0], _, hL, hfs =>
    have t0 := hfs 0 ⟨"Clauses", 63, 0, false, "", "", 0⟩ rfl
    simp only [tcells63, List.drop_zero, List.take_succ_cons, List.take_zero, List.getElem?_cons_zero] at t0
    obtain ⟨lss, hr, hw, hb⟩ := cells_lists Tryz.underlying63 Tryz.underlying60 Tryz.underlying75 tcells60 tcells75 t0
    refine ⟨cln W x0, lss, VR.agg' ?_, ⟨hr, fun l hl => ⟨(hw l hl).1, fun z hz => wf_u32 ((hw l hl).2 z hz)⟩, hb⟩⟩
    rw [← hL]
    exact .cons (cln_vr _ _) (.nil _)

namespace certArgs
set_option maxRecDepth 100000 in
theorem lifted (os : Os) (started : os.Started) (H : Type) (enc : TypeId × Value → H) :
    ReturnsInHanded {} Tryz.checked os 10 .any (Rows.certArgsSpec.pre6 enc Tryz.prog Tryz.f10 Rows.certArgsRow.domain false) (Rows.certArgsSpec.post enc Tryz.prog Tryz.f10 false true false false) := by
  refine returnsInHanded_of_change (C := Tryz.checked) own started (by kernel_rfl) Tryz.func10
    (ChangeSpec.witness6 (enc := enc) (C := Tryz.checked) false ⟨#[], #[.agg #[.int .i64 0, .slice none 0 0, .slice none 0 0, .slice none 0 0, .slice none 0 0, .slice none 0 0], .int .i64 0, .agg #[.slice none 0 0], .int .i64 0], []⟩ 8 (by kernel_rfl) (by kernel_rfl) (by kernel_rfl) (by kernel_rfl)) ?_
  intro W base args ds gs before hval0 hW hcnd _
  have hval : ∀ (j : Nat) t v, Tryz.f10.params[j]? = some t → args[j]? = some v → Value.okWide Tryz.prog W .any base t v := hval0
  have hW' := hW
  obtain ⟨p, q, hA0, hV, rfl, hfz, hnd⟩ := hW
  have hA : DataW.TrodAll enc Tryz.prog W 0 (fun _ => true) true Tryz.f10.params.toList args.toList ds p := hA0
  obtain ⟨rfl, rfl⟩ := trodVars_none hV
  simp only [List.append_nil] at hW'
  have hlt : ∀ x ∈ p, x.block < W.heap.size := fun x hx => by simpa using hW'.lt x hx
  have hkeep := fun (W' : World) (hb : Below W.heap.size W W') => Ae.trodAll_below laidOut hb _ _ _ _ (by kernel_rfl) hA hlt
  rw [Tryz.params10] at hA hval hkeep
  obtain ⟨v0, vs0, d0, ds0, p0, q0, hargs, rfl, rfl, h0, r0⟩ := trodAll_cons hA
  obtain ⟨v1, vs1, d1, ds1, p1, q1, rfl, rfl, rfl, h1, r1⟩ := trodAll_cons r0
  obtain ⟨v2, vs2, d2, ds2, p2, q2, rfl, rfl, rfl, h2, r2⟩ := trodAll_cons r1
  obtain ⟨v3, vs3, d3, ds3, p3, q3, rfl, rfl, rfl, h3, r3⟩ := trodAll_cons r2
  obtain ⟨rfl, rfl, rfl⟩ := trodAll_nil r3
  obtain rfl : args = #[v0, v1, v2, v3] := by cases args; simp_all
  obtain ⟨c, hvr, hck, hin⟩ := open_cir (hval 0 62 v0 rfl rfl) h0
  obtain ⟨a1, rfl, rfl, rfl, w1⟩ := open_int Tryz.underlying3 (hval 1 3 v1 rfl rfl) h1
  obtain ⟨u, lss, hur, hcr⟩ := open_crt (hval 2 65 v2 rfl rfl) h2
  obtain ⟨a3, rfl, rfl, rfl, w3⟩ := open_int Tryz.underlying3 (hval 3 3 v3 rfl rfl) h3
  have walk := law_true lives_ok (f := 10) (args := [.agg c.cells.toArray, .int .i64 a1, .agg #[u], .int .i64 a3]) (args' := [v0, .int .i64 a1, v2, .int .i64 a3]) (W := W) (args_says hck hin hcr) (.cons hvr (.cons (.int _ _) (.cons hur (.cons (.int _ _) (.nil _)))))
  refine walk.mono fun e W' ⟨he, hb⟩ => ?_
  subst he
  exact ⟨_, rfl, _, _, _, [], _, [], hW', trodAll_cons_mk (shut_bool Tryz.underlying4 _) trodAll_mk0, hkeep W' hb, rfl, hb.frame _, fun h => by cases h⟩

theorem over : Rows.certArgsRow.holds Tryz.pinned (OpenSpec.ofChange Rows.certArgsSpec) :=
  OpenClaim.holds_of_wide 10 Tryz.f10 rfl rfl rfl rfl rfl rfl rfl ⟨rfl, rfl, rfl, rfl, rfl⟩ rfl rfl rfl rfl rfl (by kernel_rfl) Tryz.func10 closed
    (of_decide_eq_true (by kernel_rfl)) (by unfold Func.isWrapper; first | (rw [if_pos (by decide +kernel)]; kernel_rfl) | (rw [if_neg (by decide +kernel)]; exact ⟨rfl, rfl⟩))
    (fun os started H enc _ => lifted os started H enc)

theorem proved : Rows.CertArgsSaid := over
#print axioms proved
end certArgs
end Go.Proofs.YtmmpnmekiplhfaaGreat
