/- SpecSpoilt: whatever is handed in, the law answers true, and what was handed in reads as before. -/
import Derived.Test.YtpbepclmcjmlbaaGreatDoorRows
import Derived.Test.YtpbepclmcjmlbaaGreatDoorCards
import Derived.Test.YtpbepclmcjmlbaaGreatDoorTie
import Derived.SevenTiedAt
import Derived.LaidMore
import Derived.Test.YtpbepclmcjmlbaaGreatDoorHkDZDS16
set_option linter.unusedSimpArgs false
set_option linter.unusedVariables false
namespace Go.Hk.DZD
open Go.Proofs

end Go.Hk.DZD
namespace Go.Proofs.YtpbepclmcjmlbaaGreatDoor.SpecSpoiltRow
open Go.Hk.DZD Go.Hk Go.ChangeShapes Go.WideShapes Go.ChangeAt Go.RowKit
theorem own : ownKnob Tryz.prog.godebug = none := by kernel_rfl
theorem laidOut : laidOutB Tryz.prog = true := by kernel_rfl
theorem types : [3, 5, 9, 22].all (tyOK Tryz.prog [3, 5, 9, 22]) = true := by kernel_rfl
set_option maxRecDepth 100000 in
theorem door_met (os : Os) (args : Array Value) : laidMetH Tryz.prog Rows.specSpoiltRow.laid ((World.doorLaid Tryz.prog 24 os).forCall (fun _ _ => 0) ⟨#[], args, []⟩).memory :=
  laidMetH_of_parts3 (fuel := 8) (laidMet_of_run' 8 (by kernel_rfl) (by kernel_rfl)) (by kernel_rfl) (by kernel_rfl)
set_option maxRecDepth 100000 in
theorem lifted (os : Os) (started : os.Started) (H : Type) (enc : TypeId × Value → H) :
    ReturnsInHanded {} Tryz.checked os 4 .any (fun w args => (Rows.specSpoiltSpec.pre enc Tryz.prog Tryz.f4 [] false w args ∧ laidMetH Tryz.prog Rows.specSpoiltRow.laid w) ∧ sizedMet enc Tryz.prog Tryz.f4 (OpenSpec.ofChange Rows.specSpoiltSpec) false w args) (Rows.specSpoiltSpec.post enc Tryz.prog Tryz.f4 false true false false) := by
  refine returnsInHanded_of_change_and (C := Tryz.checked) (X := fun w _ => laidMetH Tryz.prog Rows.specSpoiltRow.laid w) (fun _ _ _ hh h => h.of_heap hh) own started (by kernel_rfl) Tryz.func4
    (ChangeSpec.witness_shaped (enc := enc) (C := Tryz.checked) (os := os) (X := fun w _ => laidMetH Tryz.prog Rows.specSpoiltRow.laid w) false (World.doorLaid Tryz.prog 24 os) #[.slice none 0 0, .int .u8 0, .int .u8 0, .int .i64 0, .string ⟨#[]⟩] 8 rfl (World.shaped_of_RefB (by kernel_rfl) (by kernel_rfl)) (by kernel_rfl) (by kernel_rfl) (by kernel_rfl) (door_met os _)) ?_
  intro W base args ds gs before hval0 hW _ _ hL _
  have hval : ∀ (j : Nat) t v, Tryz.f4.params[j]? = some t → args[j]? = some v → Value.okWide Tryz.prog W .any base t v := hval0
  have hW' := hW
  obtain ⟨p, q, hA0, hV, rfl, hfz, hnd⟩ := hW
  have hA : DataW.TrodAll enc Tryz.prog W 0 (fun _ => true) true Tryz.f4.params.toList args.toList ds p := hA0
  have hst : ∀ W' : World, Below W.heap.size W W' → DataW.TrodAll enc Tryz.prog W' 0 (fun b => decide (b < W.heap.size)) true Tryz.f4.params.toList args.toList ds p := fun W' hb => trodAll_stays laidOut hb (by kernel_rfl) hA
  rw [Tryz.params4] at hA hval
  obtain ⟨rfl, rfl⟩ := trodVars_none hV
  obtain ⟨v0, vs0, d0, ds0, p0, q0, hargs, rfl, rfl, h0, r0⟩ := trodAll_cons hA
  obtain ⟨v1, vs1, d1, ds1, p1, q1, rfl, rfl, rfl, h1, r1⟩ := trodAll_cons r0
  obtain ⟨v2, vs2, d2, ds2, p2, q2, rfl, rfl, rfl, h2, r2⟩ := trodAll_cons r1
  obtain ⟨v3, vs3, d3, ds3, p3, q3, rfl, rfl, rfl, h3, r3⟩ := trodAll_cons r2
  obtain ⟨v4, vs4, d4, ds4, p4, q4, rfl, rfl, rfl, h4, r4⟩ := trodAll_cons r3
  obtain ⟨rfl, rfl, rfl⟩ := trodAll_nil r4
  obtain rfl : args = #[v0, v1, v2, v3, v4] := by cases args; simp_all
  obtain ⟨n0, s0, hs0, x0⟩ := arg_rd types (t := 22) rfl ti22 (hval 0 22 v0 rfl rfl) h0
  obtain ⟨a0, w0, e0⟩ := rd_cU hs0
  subst e0
  obtain ⟨n1, s1, hs1, x1⟩ := arg_rd types (t := 5) rfl ti5 (hval 1 5 v1 rfl rfl) h1
  obtain ⟨a1, w1, e1⟩ := rd_u8 hs1
  subst e1
  obtain ⟨n2, s2, hs2, x2⟩ := arg_rd types (t := 5) rfl ti5 (hval 2 5 v2 rfl rfl) h2
  obtain ⟨a2, w2, e2⟩ := rd_u8 hs2
  subst e2
  obtain ⟨n3, s3, hs3, x3⟩ := arg_rd types (t := 3) rfl ti3 (hval 3 3 v3 rfl rfl) h3
  obtain ⟨a3, w3, e3⟩ := rd_int hs3
  subst e3
  obtain ⟨n4, s4, hs4, x4⟩ := arg_rd types (t := 9) rfl ti9 (hval 4 9 v4 rfl rfl) h4
  obtain ⟨a4, w4, e4⟩ := rd_str hs4
  subst e4
  have hcall := w_SpecSpoilt a0 a1 a2 a3 a4 w0 w1 w2 w3 w4
  have hvr : VRs (g0 W).cx _ #[v0, v1, v2, v3, v4] := VRL.vrs (.cons x0 (.cons x1 (.cons x2 (.cons x3 (.cons x4 .nil)))))
  refine (PCall.law hcall hvr).mono fun e W' ⟨he, bel⟩ => ?_
  subst he
  exact ⟨_, rfl, _, _, _, [], _, [], hW', trodAll_mk1 (shut_bool Tryz.underlying4 _), hst W' bel, rfl, bel.frame _, fun h => by cases h⟩
end Go.Proofs.YtpbepclmcjmlbaaGreatDoor.SpecSpoiltRow
namespace Go.Proofs.YtpbepclmcjmlbaaGreatDoor
open Go.Hk
/-- The row. -/
theorem specSpoilt_holds0 : Rows.SpecSpoiltSaid :=
  OpenClaim.holds_of_wide 4 Tryz.f4 rfl rfl rfl rfl rfl rfl rfl ⟨rfl, rfl, rfl, rfl, rfl⟩ rfl rfl rfl rfl rfl (by kernel_rfl) Tryz.func4 (by kernel_rfl)
    (of_decide_eq_true (by kernel_rfl)) (by unfold Func.isWrapper; first | (rw [if_pos (by decide +kernel)]; kernel_rfl) | (rw [if_neg (by decide +kernel)]; exact ⟨rfl, rfl⟩))
    (fun os started H enc _ => SpecSpoiltRow.lifted os started H enc)
/-- The tied card. -/
theorem specSpoilt_holds : Rows.SpecSpoiltCardSaid :=
  Claim7.holds_tied_plain_at .later [] [.data, .data, .data] true (true, "bf18a564efef1c13adcbbbde0be7728ef8669c185545035822477d0f8d15f968") false
    specSpoilt_holds0 (fun _ h => by cases h) (by kernel_rfl) (fun _ h => by cases h) specSpoilt_row_tie rfl ⟨rfl, rfl⟩ (by kernel_rfl) rfl
    (fun f fn hf hfn => by
      obtain rfl : f = 4 := Option.some.inj ((show Tryz.prog.funcNamed "heckle/hecklelaw06.SpecSpoilt" = some 4 by kernel_rfl).symm.trans hf) |>.symm
      obtain rfl : fn = Tryz.f4 := (Option.some.inj (Tryz.func4.symm.trans hfn)).symm
      exact ⟨by kernel_rfl, fun j t ht => by
        rw [Tryz.params4] at ht
        have hm : t ∈ [22, 5, 5, 3, 9] := by simpa using Array.mem_of_getElem? ht
        have hall : ([22, 5, 5, 3, 9].all fun u => !Tryz.prog.wantsStandIn u) = true := by kernel_rfl
        exact (show Tryz.prog.wantsStandIn t = false by simpa using List.all_eq_true.1 hall t hm)⟩)
    (by kernel_rfl)
end Go.Proofs.YtpbepclmcjmlbaaGreatDoor
