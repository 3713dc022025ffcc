/- ModelMade: whatever is handed in, the law answers true, and what was handed in reads as before. -/
import Derived.Test.YtdimacffjdpkfaaGreatRows
import Derived.Test.YtdimacffjdpkfaaGreatHkQ43
set_option linter.unusedSimpArgs false
set_option linter.unusedVariables false
namespace Go.Hk.MZ
open Go.Proofs

end Go.Hk.MZ
namespace Go.Proofs.YtdimacffjdpkfaaGreat.ModelMadeRow
open Go.Hk.MZ Go.Hk Go.ChangeShapes Go.WideShapes Go.ChangeAt Go.RowKit
theorem own : ownKnob Tryz.prog.godebug = none := by kernel_rfl
theorem laidOut : laidOutB Tryz.prog = true := by kernel_rfl
theorem types : [5, 22].all (tyOK Tryz.prog [5, 22]) = true := by kernel_rfl
set_option maxRecDepth 100000 in
theorem lifted (os : Os) (started : os.Started) (H : Type) (enc : TypeId × Value → H) :
    ReturnsInHanded {} Tryz.checked os 3 .any (Rows.modelMadeSpec.pre6 enc Tryz.prog Tryz.f3 Rows.modelMadeRow.domain false) (Rows.modelMadeSpec.post enc Tryz.prog Tryz.f3 false true false false) := by
  refine returnsInHanded_of_change_sized (C := Tryz.checked) own started (by kernel_rfl) Tryz.func3
    (ChangeSpec.witness6 (enc := enc) (C := Tryz.checked) false ⟨#[], #[.slice none 0 0, .slice none 0 0, .int .u8 0, .int .u8 0], []⟩ 8 (by kernel_rfl) (by kernel_rfl) (by kernel_rfl) (by kernel_rfl)) ?_
  intro W base args ds gs before hval0 hW hcnd hsz0 _
  have hval : ∀ (j : Nat) t v, Tryz.f3.params[j]? = some t → args[j]? = some v → Value.okWide Tryz.prog W .any base t v := hval0
  have hW' := hW
  obtain ⟨p, q, hA0, hV, rfl, hfz, hnd⟩ := hW
  have hA : DataW.TrodAll enc Tryz.prog W 0 (fun _ => true) true Tryz.f3.params.toList args.toList ds p := hA0
  have hst : ∀ W' : World, Below W.heap.size W W' → DataW.TrodAll enc Tryz.prog W' 0 (fun b => decide (b < W.heap.size)) true Tryz.f3.params.toList args.toList ds p := fun W' hb => trodAll_stays laidOut hb (by kernel_rfl) hA
  rw [Tryz.params3] at hA hval
  obtain ⟨rfl, rfl⟩ := trodVars_none hV
  obtain ⟨v0, vs0, d0, ds0, p0, q0, hargs, rfl, rfl, h0, r0⟩ := trodAll_cons hA
  obtain ⟨v1, vs1, d1, ds1, p1, q1, rfl, rfl, rfl, h1, r1⟩ := trodAll_cons r0
  obtain ⟨v2, vs2, d2, ds2, p2, q2, rfl, rfl, rfl, h2, r2⟩ := trodAll_cons r1
  obtain ⟨v3, vs3, d3, ds3, p3, q3, rfl, rfl, rfl, h3, r3⟩ := trodAll_cons r2
  obtain ⟨rfl, rfl, rfl⟩ := trodAll_nil r3
  obtain rfl : args = #[v0, v1, v2, v3] := by cases args; simp_all
  obtain ⟨n0, s0, hs0, x0⟩ := arg_rd types (t := 22) rfl ti22 (hval 0 22 v0 rfl rfl) h0
  obtain ⟨a0, w0, e0⟩ := rd_cU hs0
  subst e0
  obtain ⟨n1, s1, hs1, x1⟩ := arg_rd types (t := 22) rfl ti22 (hval 1 22 v1 rfl rfl) h1
  obtain ⟨a1, w1, e1⟩ := rd_cU hs1
  subst e1
  obtain ⟨n2, s2, hs2, x2⟩ := arg_rd types (t := 5) rfl ti5 (hval 2 5 v2 rfl rfl) h2
  obtain ⟨a2, w2, e2⟩ := rd_u8 hs2
  subst e2
  obtain ⟨n3, s3, hs3, x3⟩ := arg_rd types (t := 5) rfl ti5 (hval 3 5 v3 rfl rfl) h3
  obtain ⟨a3, w3, e3⟩ := rd_u8 hs3
  subst e3
  have hcall := w_ModelMade a0 a1 a2 a3 w0 w1 w2 w3
  have hvr : VRs (g0 W).cx _ #[v0, v1, v2, v3] := VRL.vrs (.cons x0 (.cons x1 (.cons x2 (.cons x3 .nil))))
  refine (PCall.law hcall hvr).mono fun e W' ⟨he, bel⟩ => ?_
  subst he
  exact ⟨_, rfl, _, _, _, [], _, [], hW', trodAll_mk1 (shut_bool Tryz.underlying4 _), hst W' bel, rfl, bel.frame _, fun h => by cases h⟩
end Go.Proofs.YtdimacffjdpkfaaGreat.ModelMadeRow
namespace Go.Proofs.YtdimacffjdpkfaaGreat
open Go.Hk
/-- The row. -/
theorem modelMade_holds : Rows.ModelMadeSaid :=
  OpenClaim.holds_of_wide 3 Tryz.f3 rfl rfl rfl rfl rfl rfl rfl ⟨rfl, rfl, rfl, rfl, rfl⟩ rfl rfl rfl rfl rfl (by kernel_rfl) Tryz.func3 (by kernel_rfl)
    (of_decide_eq_true (by kernel_rfl)) (by unfold Func.isWrapper; first | (rw [if_pos (by decide +kernel)]; kernel_rfl) | (rw [if_neg (by decide +kernel)]; exact ⟨rfl, rfl⟩))
    (fun os started H enc _ => ModelMadeRow.lifted os started H enc)
end Go.Proofs.YtdimacffjdpkfaaGreat
