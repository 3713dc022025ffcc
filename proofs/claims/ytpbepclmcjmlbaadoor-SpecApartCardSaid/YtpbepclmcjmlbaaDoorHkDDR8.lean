/- Layer 3: texts of patterns, of the document; what is told of patterns. -/
import Derived.Test.YtpbepclmcjmlbaaDoorHkDDR7
set_option linter.unusedSimpArgs false
set_option linter.unusedVariables false
namespace Go.Hk.DD
open Go.Proofs
theorem ti31 : tiOf Tryd.prog 31 = some { size := 1, bytes := 8, zero := some (.int .i64 0), k := .int .i64 } := by kernel_rfl
attribute [go_sem] ti31
def printV (x : Rx) : AVal := if rightT x then .tup (.str (text x)) [.int .i64 0] else .tup (.str []) [.int .i64 1]
theorem w_Print (x : Rx) (h : okX x) : PCall Tryd.prog 73 [rV x] (printV x) := by
  unfold printV
  refine PCall.of_w (fn := Tryd.f73) (Γ := gam [(49, .pure iRt), (82, .pure iTx)]) (mu := false) (Sound.pure iRt_call (Sound.pure iTx_call Sound.nil)) mixed Tryd.func73 rfl (by kernel_rfl) (by simp) (by kernel_rfl) ?_
  cases hr : rightT x
  · simp (disch := first | assumption | omega | exact okR_new | exact okR_one | exact trivial | (simp only [List.length_append, List.length_cons, List.length_nil]; omega) | (simp only [List.length_append, List.length_cons, List.length_nil, Nat.reduceAdd])) only [go_sem, e_go, e_cond_bool, e_w_bool, e_step_ite, e_reg_ite, e_regW_ite, e_code_ite, e_block_ite, e_evQ_ite, e_fin_ite, e_pair_ite, Tryd.f73, iRt_eq, iTx_eq, hr]
  · have hok : okT x := ⟨⟨h.rt hr, rightT_in hr⟩, by have := text_short hr; omega⟩
    simp (disch := first | assumption | omega | exact okR_new | exact okR_one | exact trivial | (simp only [List.length_append, List.length_cons, List.length_nil]; omega) | (simp only [List.length_append, List.length_cons, List.length_nil, Nat.reduceAdd])) only [go_sem, e_go, e_cond_bool, e_w_bool, e_step_ite, e_reg_ite, e_regW_ite, e_code_ite, e_block_ite, e_evQ_ite, e_fin_ite, e_pair_ite, Tryd.f73, iRt_eq, iTx_eq, hr]
noncomputable def iPr : List AVal → Option AVal := pimp fun xs r => ∃ (x : Rx), (okX x) ∧ xs = [rV x] ∧ r = printV x
theorem iPr_eq {x : Rx} (h : okX x) : iPr [rV x] = some (printV x) := pimp_eq ⟨x, h, rfl, rfl⟩ (by rintro _ ⟨x', h', e, rfl⟩; have e0 := (List.cons.inj e).1; have e0r := (List.cons.inj e).2; have q0 := rV_inj (by first | assumption | exact h | exact h.1 | exact h.1.1 | exact h.1.1.1 | exact h.2 | exact h.2.1 | exact h.2.2 | exact h.2.2.1) (by first | assumption | exact h' | exact h'.1 | exact h'.1.1 | exact h'.1.1.1 | exact h'.2 | exact h'.2.1 | exact h'.2.2 | exact h'.2.2.1) e0; subst q0; first | rfl | exact ⟨rfl, rfl⟩)
theorem iPr_call : ∀ xs v, iPr xs = some v → PCall Tryd.prog 73 xs v := fun xs v h0 => by obtain ⟨x, h, rfl, rfl⟩ := pimp_spec h0; exact w_Print x h
end Go.Hk.DD
