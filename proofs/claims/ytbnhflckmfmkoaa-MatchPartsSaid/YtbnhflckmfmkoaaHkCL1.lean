/- Layer 1: what the functions on sets answer. -/
import Derived.Test.YtbnhflckmfmkoaaChecked
import Derived.Test.YtbnhflckmfmkoaaHkPe
import Derived.Test.YtbnhflckmfmkoaaHkPf
import Derived.KernelRfl
set_option linter.unusedSimpArgs false
set_option linter.unusedVariables false
namespace Go.Hk.C
open Go.Proofs
theorem ti3 : tiOf Try.prog 3 = some { size := 1, bytes := 8, zero := some (.int .i64 0), k := .int .i64 } := by kernel_rfl
attribute [go_sem] ti3
theorem ti4 : tiOf Try.prog 4 = some { size := 1, bytes := 1, zero := some (.bool false), k := .bool } := by kernel_rfl
attribute [go_sem] ti4
theorem ti25 : tiOf Try.prog 25 = some { size := 1, bytes := 8, zero := some (.int .u64 0), k := .int .u64 } := by kernel_rfl
attribute [go_sem] ti25
theorem ti27 : tiOf Try.prog 27 = some { size := 4, bytes := 32, zero := some (.agg [.int .u64 0, .int .u64 0, .int .u64 0, .int .u64 0]), k := .arr 4 25 } := by kernel_rfl
attribute [go_sem] ti27
theorem mixed : Try.prog.follows .mixedOrders = true := by kernel_rfl
theorem w_set_Has : ∀ (A : Nat) (n : Int), PCall Try.prog 57 [setV A, .int .i64 n] (.bool (has A n)) := by
  apply has_call <;> intros <;> refine PCall.of_w (fn := Try.f57) (Γ := gam []) (mu := false) Sound.nil mixed Try.func57 rfl (by kernel_rfl) (by simp) (by kernel_rfl) ?_ <;> simp (disch := first | assumption | omega | exact okR_new | exact okR_one | exact trivial | (simp only [List.length_append, List.length_cons, List.length_nil]; omega) | (simp only [List.length_append, List.length_cons, List.length_nil, Nat.reduceAdd])) only [go_sem, e_go, e_cond_bool, e_w_bool, e_step_ite, e_reg_ite, e_regW_ite, e_code_ite, e_block_ite, e_evQ_ite, e_fin_ite, e_pair_ite, Try.f57]
  rename_i A b h
  cases A.testBit b <;> rfl
noncomputable def iHas : List AVal → Option AVal := pimp fun xs r => ∃ (A : Nat) (n : Int), (A < 2 ^ 256) ∧ xs = [setV A, .int .i64 n] ∧ r = .bool (has A n)
theorem iHas_eq {A : Nat} {n : Int} (h : A < 2 ^ 256) : iHas [setV A, .int .i64 n] = some (.bool (has A n)) := pimp_eq ⟨A, n, h, rfl, rfl⟩ (by rintro _ ⟨A', n', h', e, rfl⟩; have e0 := (List.cons.inj e).1; have e0r := (List.cons.inj e).2; have e1 := (List.cons.inj e0r).1; have e1r := (List.cons.inj e0r).2; have q0 := setV_inj (by first | assumption | exact h | exact h.1 | exact h.1.1 | exact h.1.1.1 | exact h.2 | exact h.2.1 | exact h.2.2 | exact h.2.2.1) (by first | assumption | exact h' | exact h'.1 | exact h'.1.1 | exact h'.1.1.1 | exact h'.2 | exact h'.2.1 | exact h'.2.2 | exact h'.2.2.1) e0; have q1 := (AVal.int.inj e1).2; subst q0; subst q1; first | rfl | exact ⟨rfl, rfl⟩)
theorem iHas_call : ∀ xs v, iHas xs = some v → PCall Try.prog 57 xs v := fun xs v h0 => by obtain ⟨A, n, h, rfl, rfl⟩ := pimp_spec h0; exact w_set_Has A n
theorem w_ref_Has : ∀ (A : Nat) (n : Int), PCall Try.prog 46 [setV A, .int .i64 n] (.bool (has A n)) := by
  apply has_call <;> intros <;> refine PCall.of_w (fn := Try.f46) (Γ := gam []) (mu := false) Sound.nil mixed Try.func46 rfl (by kernel_rfl) (by simp) (by kernel_rfl) ?_ <;> simp (disch := first | assumption | omega | exact okR_new | exact okR_one | exact trivial | (simp only [List.length_append, List.length_cons, List.length_nil]; omega) | (simp only [List.length_append, List.length_cons, List.length_nil, Nat.reduceAdd])) only [go_sem, e_go, e_cond_bool, e_w_bool, e_step_ite, e_reg_ite, e_regW_ite, e_code_ite, e_block_ite, e_evQ_ite, e_fin_ite, e_pair_ite, Try.f46]
  rename_i A b h
  cases A.testBit b <;> rfl
noncomputable def iHas' : List AVal → Option AVal := pimp fun xs r => ∃ (A : Nat) (n : Int), (A < 2 ^ 256) ∧ xs = [setV A, .int .i64 n] ∧ r = .bool (has A n)
theorem iHas'_eq {A : Nat} {n : Int} (h : A < 2 ^ 256) : iHas' [setV A, .int .i64 n] = some (.bool (has A n)) := pimp_eq ⟨A, n, h, rfl, rfl⟩ (by rintro _ ⟨A', n', h', e, rfl⟩; have e0 := (List.cons.inj e).1; have e0r := (List.cons.inj e).2; have e1 := (List.cons.inj e0r).1; have e1r := (List.cons.inj e0r).2; have q0 := setV_inj (by first | assumption | exact h | exact h.1 | exact h.1.1 | exact h.1.1.1 | exact h.2 | exact h.2.1 | exact h.2.2 | exact h.2.2.1) (by first | assumption | exact h' | exact h'.1 | exact h'.1.1 | exact h'.1.1.1 | exact h'.2 | exact h'.2.1 | exact h'.2.2 | exact h'.2.2.1) e0; have q1 := (AVal.int.inj e1).2; subst q0; subst q1; first | rfl | exact ⟨rfl, rfl⟩)
theorem iHas'_call : ∀ xs v, iHas' xs = some v → PCall Try.prog 46 xs v := fun xs v h0 => by obtain ⟨A, n, h, rfl, rfl⟩ := pimp_spec h0; exact w_ref_Has A n
theorem w_add (A b : Nat) (h : b < 256) : PCall Try.prog 44 [setV A, .int .i64 b] (setV (A ||| 2 ^ b)) := by
  refine PCall.of_w (fn := Try.f44) (Γ := gam []) (mu := false) Sound.nil mixed Try.func44 rfl (by kernel_rfl) (by simp) (by kernel_rfl) ?_
  simp (disch := first | assumption | omega | exact okR_new | exact okR_one | exact trivial | (simp only [List.length_append, List.length_cons, List.length_nil]; omega) | (simp only [List.length_append, List.length_cons, List.length_nil, Nat.reduceAdd])) only [go_sem, e_go, e_cond_bool, e_w_bool, e_step_ite, e_reg_ite, e_regW_ite, e_code_ite, e_block_ite, e_evQ_ite, e_fin_ite, e_pair_ite, Try.f44]
noncomputable def iAdd : List AVal → Option AVal := pimp fun xs r => ∃ (A : Nat) (b : Nat), (A < 2 ^ 256 ∧ b < 256) ∧ xs = [setV A, .int .i64 (b : Nat)] ∧ r = setV (A ||| 2 ^ b)
theorem iAdd_eq {A : Nat} {b : Nat} (h : A < 2 ^ 256 ∧ b < 256) : iAdd [setV A, .int .i64 (b : Nat)] = some (setV (A ||| 2 ^ b)) := pimp_eq ⟨A, b, h, rfl, rfl⟩ (by rintro _ ⟨A', b', h', e, rfl⟩; have e0 := (List.cons.inj e).1; have e0r := (List.cons.inj e).2; have e1 := (List.cons.inj e0r).1; have e1r := (List.cons.inj e0r).2; have q0 := setV_inj (by first | assumption | exact h | exact h.1 | exact h.1.1 | exact h.1.1.1 | exact h.2 | exact h.2.1 | exact h.2.2 | exact h.2.2.1) (by first | assumption | exact h' | exact h'.1 | exact h'.1.1 | exact h'.1.1.1 | exact h'.2 | exact h'.2.1 | exact h'.2.2 | exact h'.2.2.1) e0; have q1 : b' = b := (by have := (AVal.int.inj e1).2; omega); subst q0; subst q1; first | rfl | exact ⟨rfl, rfl⟩)
theorem iAdd_call : ∀ xs v, iAdd xs = some v → PCall Try.prog 44 xs v := fun xs v h0 => by obtain ⟨A, b, h, rfl, rfl⟩ := pimp_spec h0; exact w_add A b h.2
theorem w_Not (A : Nat) (hA : A < 2 ^ 256) : PCall Try.prog 50 [setV A] (setV (notN A)) := by
  refine PCall.of_w (fn := Try.f50) (Γ := gam [(44, .pure iAdd), (46, .pure iHas')]) (mu := false) (Sound.pure iAdd_call (Sound.pure iHas'_call Sound.nil)) mixed Try.func50 rfl (by kernel_rfl) (by simp) (by kernel_rfl) ?_
  simp (disch := first | assumption | omega | exact okR_new | exact okR_one | exact trivial | (simp only [List.length_append, List.length_cons, List.length_nil]; omega) | (simp only [List.length_append, List.length_cons, List.length_nil, Nat.reduceAdd])) only [go_sem, e_go, e_cond_bool, e_w_bool, e_step_ite, e_reg_ite, e_regW_ite, e_code_ite, e_block_ite, e_evQ_ite, e_fin_ite, e_pair_ite, Try.f50, iAdd_eq, iHas'_eq]
  refine w_loop [] [4] (fun i : Nat => 256 - i) (fun i => i ≤ 256) (fun i => ⟨[.cells 0 (setL A), .cells 0 (setL 0), .cells 0 (setL (mk (fun i => !A.testBit i) i))], []⟩)
    (fun i => [(4, .int .i64 (i : Nat))]) 0 (fun _ => rfl) (by kernel_rfl) (by omega) rfl (by simp [HasE, lk]) ?_
  rintro i hi
  by_cases h : i < 256
  · have hR := mk_lt256 (fun i => !A.testBit i) i hi
    cases h1 : A.testBit i <;>
    · simp (disch := first | assumption | omega | exact okR_new | exact okR_one | exact trivial | (simp only [List.length_append, List.length_cons, List.length_nil]; omega) | (simp only [List.length_append, List.length_cons, List.length_nil, Nat.reduceAdd])) only [go_sem, e_go, e_cond_bool, e_w_bool, e_step_ite, e_reg_ite, e_regW_ite, e_code_ite, e_block_ite, e_evQ_ite, e_fin_ite, e_pair_ite, Try.f50, iAdd_eq, iHas'_eq, has_nat, h1]
      exact ⟨i + 1, dn h, h, by simp [mk_step, h1], by simp [HasE, lk]⟩
  · have h4 : i = 256 := by omega
    subst h4
    simp (disch := first | assumption | omega | exact okR_new | exact okR_one | exact trivial | (simp only [List.length_append, List.length_cons, List.length_nil]; omega) | (simp only [List.length_append, List.length_cons, List.length_nil, Nat.reduceAdd])) only [go_sem, e_go, e_cond_bool, e_w_bool, e_step_ite, e_reg_ite, e_regW_ite, e_code_ite, e_block_ite, e_evQ_ite, e_fin_ite, e_pair_ite, Try.f50, iAdd_eq, iHas'_eq, notN]
noncomputable def iNot : List AVal → Option AVal := pimp fun xs r => ∃ (A : Nat), (A < 2 ^ 256) ∧ xs = [setV A] ∧ r = setV (notN A)
theorem iNot_eq {A : Nat} (h : A < 2 ^ 256) : iNot [setV A] = some (setV (notN A)) := pimp_eq ⟨A, h, rfl, rfl⟩ (by rintro _ ⟨A', h', e, rfl⟩; have e0 := (List.cons.inj e).1; have e0r := (List.cons.inj e).2; have q0 := setV_inj (by first | assumption | exact h | exact h.1 | exact h.1.1 | exact h.1.1.1 | exact h.2 | exact h.2.1 | exact h.2.2 | exact h.2.2.1) (by first | assumption | exact h' | exact h'.1 | exact h'.1.1 | exact h'.1.1.1 | exact h'.2 | exact h'.2.1 | exact h'.2.2 | exact h'.2.2.1) e0; subst q0; first | rfl | exact ⟨rfl, rfl⟩)
theorem iNot_call : ∀ xs v, iNot xs = some v → PCall Try.prog 50 xs v := fun xs v h0 => by obtain ⟨A, h, rfl, rfl⟩ := pimp_spec h0; exact w_Not A h
theorem w_Of (lo hi : Int) : PCall Try.prog 27 [.int .i64 lo, .int .i64 hi] (setV (ofN lo hi)) := by
  refine PCall.of_w (fn := Try.f27) (Γ := gam [(44, .pure iAdd)]) (mu := false) (Sound.pure iAdd_call Sound.nil) mixed Try.func27 rfl (by kernel_rfl) (by simp) (by kernel_rfl) ?_
  simp (disch := first | assumption | omega | exact okR_new | exact okR_one | exact trivial | (simp only [List.length_append, List.length_cons, List.length_nil]; omega) | (simp only [List.length_append, List.length_cons, List.length_nil, Nat.reduceAdd])) only [go_sem, e_go, e_cond_bool, e_w_bool, e_step_ite, e_reg_ite, e_regW_ite, e_code_ite, e_block_ite, e_evQ_ite, e_fin_ite, e_pair_ite, Try.f27, iAdd_eq]
  refine w_loop [] [6] (fun i : Nat => 256 - i) (fun i => i ≤ 256) (fun i => ⟨[.cells 0 (setL 0), .cells 0 (setL (mk (inOf lo hi) i))], []⟩)
    (fun i => [(6, .int .i64 (i : Nat))]) 0 (fun _ => rfl) (by kernel_rfl) (by omega) rfl (by simp [HasE, lk]) ?_
  rintro i hi'
  by_cases h : i < 256
  · have hR := mk_lt256 (inOf lo hi) i hi'
    by_cases h1 : lo ≤ (i : Int)
    · by_cases h2 : (i : Int) ≤ hi
      · simp (disch := first | assumption | omega | exact okR_new | exact okR_one | exact trivial | (simp only [List.length_append, List.length_cons, List.length_nil]; omega) | (simp only [List.length_append, List.length_cons, List.length_nil, Nat.reduceAdd])) only [go_sem, e_go, e_cond_bool, e_w_bool, e_step_ite, e_reg_ite, e_regW_ite, e_code_ite, e_block_ite, e_evQ_ite, e_fin_ite, e_pair_ite, Try.f27, iAdd_eq]
        exact ⟨i + 1, dn h, h, by simp [mk_step, inOf, h1, h2], by simp [HasE, lk]⟩
      · simp (disch := first | assumption | omega | exact okR_new | exact okR_one | exact trivial | (simp only [List.length_append, List.length_cons, List.length_nil]; omega) | (simp only [List.length_append, List.length_cons, List.length_nil, Nat.reduceAdd])) only [go_sem, e_go, e_cond_bool, e_w_bool, e_step_ite, e_reg_ite, e_regW_ite, e_code_ite, e_block_ite, e_evQ_ite, e_fin_ite, e_pair_ite, Try.f27, iAdd_eq]
        exact ⟨i + 1, dn h, h, by simp [mk_step, inOf, h1, h2], by simp [HasE, lk]⟩
    · simp (disch := first | assumption | omega | exact okR_new | exact okR_one | exact trivial | (simp only [List.length_append, List.length_cons, List.length_nil]; omega) | (simp only [List.length_append, List.length_cons, List.length_nil, Nat.reduceAdd])) only [go_sem, e_go, e_cond_bool, e_w_bool, e_step_ite, e_reg_ite, e_regW_ite, e_code_ite, e_block_ite, e_evQ_ite, e_fin_ite, e_pair_ite, Try.f27, iAdd_eq]
      exact ⟨i + 1, dn h, h, by simp [mk_step, inOf, h1], by simp [HasE, lk]⟩
  · have h4 : i = 256 := by omega
    subst h4
    simp (disch := first | assumption | omega | exact okR_new | exact okR_one | exact trivial | (simp only [List.length_append, List.length_cons, List.length_nil]; omega) | (simp only [List.length_append, List.length_cons, List.length_nil, Nat.reduceAdd])) only [go_sem, e_go, e_cond_bool, e_w_bool, e_step_ite, e_reg_ite, e_regW_ite, e_code_ite, e_block_ite, e_evQ_ite, e_fin_ite, e_pair_ite, Try.f27, iAdd_eq, ofN]
noncomputable def iOf : List AVal → Option AVal := pimp fun xs r => ∃ (lo : Int) (hi : Int), (True) ∧ xs = [.int .i64 lo, .int .i64 hi] ∧ r = setV (ofN lo hi)
theorem iOf_eq {lo : Int} {hi : Int} (h : True) : iOf [.int .i64 lo, .int .i64 hi] = some (setV (ofN lo hi)) := pimp_eq ⟨lo, hi, h, rfl, rfl⟩ (by rintro _ ⟨lo', hi', h', e, rfl⟩; have e0 := (List.cons.inj e).1; have e0r := (List.cons.inj e).2; have e1 := (List.cons.inj e0r).1; have e1r := (List.cons.inj e0r).2; have q0 := (AVal.int.inj e0).2; have q1 := (AVal.int.inj e1).2; subst q0; subst q1; first | rfl | exact ⟨rfl, rfl⟩)
theorem iOf_call : ∀ xs v, iOf xs = some v → PCall Try.prog 27 xs v := fun xs v h0 => by obtain ⟨lo, hi, h, rfl, rfl⟩ := pimp_spec h0; exact w_Of lo hi
end Go.Hk.C
