/- CodecAny: whatever is handed in, the law answers true, and what was handed in reads as before. -/
import Derived.Test.YtojahfdjfacgaaaRows
import Derived.Test.YtojahfdjfacgaaaHkQ40
set_option linter.unusedSimpArgs false
set_option linter.unusedVariables false
namespace Go.Hk.N
open Go.Proofs

end Go.Hk.N
namespace Go.Proofs.Ytojahfdjfacgaaa.CodecAnyRow
open Go.Hk.N Go.Hk Go.ChangeShapes Go.WideShapes Go.ChangeAt Go.RowKit
theorem own : ownKnob Try.prog.godebug = none := by kernel_rfl
theorem laidOut : laidOutB Try.prog = true := by kernel_rfl
theorem types : [3, 9, 22, 24].all (tyOK Try.prog [3, 9, 22, 24]) = true := by kernel_rfl
set_option maxRecDepth 100000 in
theorem lifted (os : Os) (started : os.Started) (H : Type) (enc : TypeId × Value → H) :
    ReturnsInHanded {} Try.checked os 3 .any (Rows.codecAnySpec.pre6 enc Try.prog Try.f3 Rows.codecAnyRow.domain false) (Rows.codecAnySpec.post enc Try.prog Try.f3 false true false false) := by
  refine returnsInHanded_of_change_sized (C := Try.checked) own started (by kernel_rfl) Try.func3
    (ChangeSpec.witness6 (enc := enc) (C := Try.checked) false ⟨#[], #[.agg #[.slice none 0 0, .int .i64 0, .slice none 0 0, .slice none 0 0, .slice none 0 0, .slice none 0 0, .slice none 0 0, .slice none 0 0], .string ⟨#[]⟩], []⟩ 8 (by kernel_rfl) (by kernel_rfl) (by kernel_rfl) (by kernel_rfl)) ?_
  intro W base args ds gs before hval0 hW hcnd hsz0 _
  have hval : ∀ (j : Nat) t v, Try.f3.params[j]? = some t → args[j]? = some v → Value.okWide Try.prog W .any base t v := hval0
  have hW' := hW
  obtain ⟨p, q, hA0, hV, rfl, hfz, hnd⟩ := hW
  have hA : DataW.TrodAll enc Try.prog W 0 (fun _ => true) true Try.f3.params.toList args.toList ds p := hA0
  have hst : ∀ W' : World, Below W.heap.size W W' → DataW.TrodAll enc Try.prog W' 0 (fun b => decide (b < W.heap.size)) true Try.f3.params.toList args.toList ds p := fun W' hb => trodAll_stays laidOut hb (by kernel_rfl) hA
  rw [Try.params3] at hA hval
  obtain ⟨rfl, rfl⟩ := trodVars_none hV
  obtain ⟨v0, vs0, d0, ds0, p0, q0, hargs, rfl, rfl, h0, r0⟩ := trodAll_cons hA
  obtain ⟨v1, vs1, d1, ds1, p1, q1, rfl, rfl, rfl, h1, r1⟩ := trodAll_cons r0
  obtain ⟨rfl, rfl, rfl⟩ := trodAll_nil r1
  obtain rfl : args = #[v0, v1] := by cases args; simp_all
  obtain ⟨n0, s0, hs0, x0⟩ := arg_rd types (t := 24) rfl ti24 (hval 0 24 v0 rfl rfl) h0
  obtain ⟨a0, w0, e0⟩ := rd_pk hs0
  subst e0
  obtain ⟨n1, s1, hs1, x1⟩ := arg_rd types (t := 9) rfl ti9 (hval 1 9 v1 rfl rfl) h1
  obtain ⟨a1, w1, e1⟩ := rd_strI hs1
  subst e1
  have hcall := w_CodecAny a0 a1 w0 w1
  have hvr : VRs (g0 W).cx _ #[v0, v1] := VRL.vrs (.cons x0 (.cons x1 .nil))
  refine (PCall.law hcall hvr).mono fun e W' ⟨he, bel⟩ => ?_
  subst he
  exact ⟨_, rfl, _, _, _, [], _, [], hW', trodAll_mk1 (shut_bool Try.underlying4 _), hst W' bel, rfl, bel.frame _, fun h => by cases h⟩
end Go.Proofs.Ytojahfdjfacgaaa.CodecAnyRow
namespace Go.Proofs.Ytojahfdjfacgaaa
open Go.Hk
/-- The row. -/
theorem codecAny_holds : Rows.CodecAnySaid :=
  OpenClaim.holds_of_wide 3 Try.f3 rfl rfl rfl rfl rfl rfl rfl ⟨rfl, rfl, rfl, rfl, rfl⟩ rfl rfl rfl rfl rfl (by kernel_rfl) Try.func3 (by kernel_rfl)
    (of_decide_eq_true (by kernel_rfl)) (by unfold Func.isWrapper; first | (rw [if_pos (by decide +kernel)]; kernel_rfl) | (rw [if_neg (by decide +kernel)]; exact ⟨rfl, rfl⟩))
    (fun os started H enc _ => CodecAnyRow.lifted os started H enc)
end Go.Proofs.Ytojahfdjfacgaaa
