/- SpecApart: whatever is handed in, the law answers true, and what was handed in reads as before. -/
import Derived.Test.YtpbepclmcjmlbaaDoorRows
import Derived.Test.YtpbepclmcjmlbaaDoorCards
import Derived.Test.YtpbepclmcjmlbaaDoorTie
import Derived.SevenTiedAt
import Derived.LaidMore
import Derived.Test.YtpbepclmcjmlbaaDoorHkDDRD
import Derived.Test.YtpbepclmcjmlbaaDoorHkDDS14
set_option linter.unusedSimpArgs false
set_option linter.unusedVariables false
namespace Go.Hk.DD
open Go.Proofs

end Go.Hk.DD
namespace Go.Proofs.YtpbepclmcjmlbaaDoor.SpecApartRow
open Go.Hk.DD Go.Hk Go.ChangeShapes Go.WideShapes Go.ChangeAt Go.RowKit
theorem own : ownKnob Tryd.prog.godebug = none := by kernel_rfl
theorem laidOut : laidOutB Tryd.prog = true := by kernel_rfl
theorem types : [5, 29].all (tyOK Tryd.prog [5, 29]) = true := by kernel_rfl
set_option maxRecDepth 100000 in
theorem door_met (os : Os) (args : Array Value) : laidMetH Tryd.prog Rows.specApartRow.laid ((World.doorLaid Tryd.prog 24 os).forCall (fun _ _ => 0) ⟨#[], args, []⟩).memory :=
  laidMetH_of_parts3 (fuel := 8) (laidMet_of_run' 8 (by kernel_rfl) (by kernel_rfl)) (by kernel_rfl) (by kernel_rfl)
set_option maxRecDepth 100000 in
theorem lifted (os : Os) (started : os.Started) (H : Type) (enc : TypeId × Value → H) :
    ReturnsInHanded {} Tryd.checked os 4 .any (fun w args => (Rows.specApartSpec.pre enc Tryd.prog Tryd.f4 [] false w args ∧ laidMetH Tryd.prog Rows.specApartRow.laid w) ∧ sizedMet enc Tryd.prog Tryd.f4 (OpenSpec.ofChange Rows.specApartSpec) false w args) (Rows.specApartSpec.post enc Tryd.prog Tryd.f4 false true false false) := by
  refine returnsInHanded_of_change_and (C := Tryd.checked) (X := fun w _ => laidMetH Tryd.prog Rows.specApartRow.laid w) (fun _ _ _ hh h => h.of_heap hh) own started (by kernel_rfl) Tryd.func4
    (ChangeSpec.witness_shaped (enc := enc) (C := Tryd.checked) (os := os) (X := fun w _ => laidMetH Tryd.prog Rows.specApartRow.laid w) false (World.doorLaid Tryd.prog 24 os) #[.slice none 0 0, .slice none 0 0] 8 rfl (World.shaped_of_RefB (by kernel_rfl) (by kernel_rfl)) (by kernel_rfl) (by kernel_rfl) (by kernel_rfl) (door_met os _)) ?_
  intro W base args ds gs before hval0 hW _ _ hL _
  have hval : ∀ (j : Nat) t v, Tryd.f4.params[j]? = some t → args[j]? = some v → Value.okWide Tryd.prog W .any base t v := hval0
  have hW' := hW
  obtain ⟨p, q, hA0, hV, rfl, hfz, hnd⟩ := hW
  have hA : DataW.TrodAll enc Tryd.prog W 0 (fun _ => true) true Tryd.f4.params.toList args.toList ds p := hA0
  have hst : ∀ W' : World, Below W.heap.size W W' → DataW.TrodAll enc Tryd.prog W' 0 (fun b => decide (b < W.heap.size)) true Tryd.f4.params.toList args.toList ds p := fun W' hb => trodAll_stays laidOut hb (by kernel_rfl) hA
  rw [Tryd.params4] at hA hval
  obtain ⟨rfl, rfl⟩ := trodVars_none hV
  obtain ⟨v0, vs0, d0, ds0, p0, q0, hargs, rfl, rfl, h0, r0⟩ := trodAll_cons hA
  obtain ⟨v1, vs1, d1, ds1, p1, q1, rfl, rfl, rfl, h1, r1⟩ := trodAll_cons r0
  obtain ⟨rfl, rfl, rfl⟩ := trodAll_nil r1
  obtain rfl : args = #[v0, v1] := by cases args; simp_all
  obtain ⟨n0, s0, hs0, x0⟩ := arg_rd types (t := 29) rfl ti29 (hval 0 29 v0 rfl rfl) h0
  obtain ⟨a0, w0, e0⟩ := rd_cU hs0
  subst e0
  obtain ⟨n1, s1, hs1, x1⟩ := arg_rd types (t := 29) rfl ti29 (hval 1 29 v1 rfl rfl) h1
  obtain ⟨a1, w1, e1⟩ := rd_cU hs1
  subst e1
  have hcall := w_SpecApart a0 a1 w0 w1
  have hvr : VRs (g0 W).cx _ #[v0, v1] := VRL.vrs (.cons x0 (.cons x1 .nil))
  refine (PCall.law hcall hvr).mono fun e W' ⟨he, bel⟩ => ?_
  subst he
  exact ⟨_, rfl, _, _, _, [], _, [], hW', trodAll_mk1 (shut_bool Tryd.underlying4 _), hst W' bel, rfl, bel.frame _, fun h => by cases h⟩
end Go.Proofs.YtpbepclmcjmlbaaDoor.SpecApartRow
namespace Go.Proofs.YtpbepclmcjmlbaaDoor
open Go.Hk
/-- The row. -/
theorem specApart_holds0 : Rows.SpecApartSaid :=
  OpenClaim.holds_of_wide 4 Tryd.f4 rfl rfl rfl rfl rfl rfl rfl ⟨rfl, rfl, rfl, rfl, rfl⟩ rfl rfl rfl rfl rfl (by kernel_rfl) Tryd.func4 (by kernel_rfl)
    (of_decide_eq_true (by kernel_rfl)) (by unfold Func.isWrapper; first | (rw [if_pos (by decide +kernel)]; kernel_rfl) | (rw [if_neg (by decide +kernel)]; exact ⟨rfl, rfl⟩))
    (fun os started H enc _ => SpecApartRow.lifted os started H enc)
/-- The tied card. -/
theorem specApart_holds : Rows.SpecApartCardSaid :=
  Claim7.holds_tied_plain_at .later [] [.data, .data, .data] true (true, "0775b419011d47b2a88b34e9d1cb7ea7bc27ef6ca5d4124bd0ed3d137ffd0788") false
    specApart_holds0 (fun _ h => by cases h) (by kernel_rfl) (fun _ h => by cases h) specApart_row_tie rfl ⟨rfl, rfl⟩ (by kernel_rfl) rfl
    (fun f fn hf hfn => by
      obtain rfl : f = 4 := Option.some.inj ((show Tryd.prog.funcNamed "heckle/hecklelaw06.SpecApart" = some 4 by kernel_rfl).symm.trans hf) |>.symm
      obtain rfl : fn = Tryd.f4 := (Option.some.inj (Tryd.func4.symm.trans hfn)).symm
      exact ⟨by kernel_rfl, fun j t ht => by
        rw [Tryd.params4] at ht
        have hm : t ∈ [29, 29] := by simpa using Array.mem_of_getElem? ht
        have hall : ([29, 29].all fun u => !Tryd.prog.wantsStandIn u) = true := by kernel_rfl
        exact (show Tryd.prog.wantsStandIn t = false by simpa using List.all_eq_true.1 hall t hm)⟩)
    (by kernel_rfl)
end Go.Proofs.YtpbepclmcjmlbaaDoor
