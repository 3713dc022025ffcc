/- Layer 6: what is told of rules. -/
import Derived.Test.YtpbepclmcjmlbaaDoorHkDDS9
import Derived.Test.YtpbepclmcjmlbaaDoorHkPh
set_option linter.unusedSimpArgs false
set_option linter.unusedVariables false
set_option maxRecDepth 20000
namespace Go.Hk.DD
open Go.Proofs

theorem bC1 {m : AMem} {cs : List AVal} (h : cs.length = 2) : abuildSlice Tryd.prog false m 22 1 [(0, .agg cs)] = some (.sl .full 1 cs, m) := build_one ti22 ti45 rfl rfl h rfl (by decide) (by decide)
theorem bRu1 {m : AMem} {cs : List AVal} (h : cs.length = 22) : abuildSlice Tryd.prog false m 23 1 [(0, .agg cs)] = some (.sl .full 1 cs, m) := build_one ti23 ti43 rfl rfl h rfl (by decide) (by decide)
theorem awD_fold : AVal.agg [.int .i64 5, .int .u64 0, .int .u64 0, .int .u64 0, .int .u64 0, .int .i64 1, .int .i64 (-1), .sl .no 1 [.int .i64 2, .int .u64 ((wd (ofN 48 57) 0 : Nat) : Int), .int .u64 ((wd (ofN 48 57) 1 : Nat) : Int), .int .u64 ((wd (ofN 48 57) 2 : Nat) : Int), .int .u64 ((wd (ofN 48 57) 3 : Nat) : Int), .int .i64 0, .int .i64 0, .sl .no 0 []]] = rV awD := rfl
theorem awS_fold : AVal.agg [.sl .no 1 [.str [73, 78, 73, 84, 73, 65, 76], .bool false], .bool true, .sl .no 1 [.sl .no 0 [], .bool true, .bool false, .int .i64 5, .int .u64 0, .int .u64 0, .int .u64 0, .int .u64 0, .int .i64 1, .int .i64 (-1), .sl .no 1 [.int .i64 2, .int .u64 ((wd (ofN 48 57) 0 : Nat) : Int), .int .u64 ((wd (ofN 48 57) 1 : Nat) : Int), .int .u64 ((wd (ofN 48 57) 2 : Nat) : Int), .int .u64 ((wd (ofN 48 57) 3 : Nat) : Int), .int .i64 0, .int .i64 0, .sl .no 0 []], .int .i64 0, .int .u64 0, .int .u64 0, .int .u64 0, .int .u64 0, .int .i64 0, .int .i64 0, .sl .no 0 [], .bool false, .int .i64 1, .int .i64 0]] = sV awS := rfl
theorem noS_fold : AVal.agg [.sl .no 0 [], .bool false, .sl .no 0 []] = sV noS := rfl
theorem w_awake6 : PCall Tryd.prog 5 [] (.bool true) := by
  have h1 := awS_ok
  have h2 := noS_ok
  have h4 : okSp awS ∧ okSp awS := ⟨h1, h1⟩
  have h5 : okSp awS ∧ okSp noS := ⟨h1, h2⟩
  refine PCall.of_w (fn := Tryd.f5) (Γ := gam [(9, .pure iPr6), (10, .pure iAct), (11, .pure iSm6), (12, .pure iOf), (13, .pure iR6)]) (mu := false) (Sound.pure iPr6_call (Sound.pure iAct_call (Sound.pure iSm6_call (Sound.pure iOf_call (Sound.pure iR6_call Sound.nil))))) mixed Tryd.func5 rfl (by kernel_rfl) (by simp) (by kernel_rfl) ?_
  simp (disch := first | assumption | omega | exact okR_new | exact okR_one | exact trivial | (simp only [List.length_append, List.length_cons, List.length_nil]; omega) | (simp only [List.length_append, List.length_cons, List.length_nil, Nat.reduceAdd])) only [go_sem, e_go, e_cond_bool, e_w_bool, e_step_ite, e_reg_ite, e_regW_ite, e_code_ite, e_block_ite, e_evQ_ite, e_fin_ite, e_pair_ite, Tryd.f5, iPr6_eq, iAct_eq, iSm6_eq, iOf_eq, iR6_eq, setL, bA1, bC1, bRu1, awD_fold, awS_fold, noS_fold, pr_awS, pr_noS, awS_right, awS_act0, awS_act1, awS_same, awS_no]
noncomputable def iAw6 : List AVal → Option AVal := pimp fun xs r => (True) ∧ xs = [] ∧ r = .bool true
theorem iAw6_eq  (h : True) : iAw6 [] = some (.bool true) := pimp_eq ⟨h, rfl, rfl⟩ (by rintro _ ⟨h', e, rfl⟩; first | rfl | exact ⟨rfl, rfl⟩)
theorem iAw6_call : ∀ xs v, iAw6 xs = some v → PCall Tryd.prog 5 xs v := fun xs v h0 => by obtain ⟨h, rfl, rfl⟩ := pimp_spec h0; exact w_awake6
end Go.Hk.DD
