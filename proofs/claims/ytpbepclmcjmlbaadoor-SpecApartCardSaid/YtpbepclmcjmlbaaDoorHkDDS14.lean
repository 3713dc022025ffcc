/- Layer 6: a text is of one Spec only. -/
import Derived.Test.YtpbepclmcjmlbaaDoorHkDDS13
set_option linter.unusedSimpArgs false
set_option linter.unusedVariables false
set_option maxRecDepth 20000
set_option maxHeartbeats 4000000
namespace Go.Hk.DD
open Go.Proofs

theorem prS_right {s : Sp} (h : rightS s = true) : printSV s = .tup (.str (printS s)) [.int .i64 0] := by rw [printSV, if_pos h]
theorem act_all {s : Sp} {i j : Nat} {q : Ru} {d : Cd} (hi : s.rules[i]? = some q) (hj : s.conds[j]? = some d) : activeS s (i : Nat) (j : Nat) = (q.all || q.conds.any (fun a => decide (((j : Nat) : Int) = a)) || (decide (q.conds.length = 0) && !d.ex)) := by
  obtain ⟨h1, rfl⟩ := List.getElem?_eq_some_iff.1 hi
  obtain ⟨h2, rfl⟩ := List.getElem?_eq_some_iff.1 hj
  unfold activeS
  rw [if_pos ⟨by omega, by omega, by omega, by omega⟩]
  simp [List.getD_eq_getElem?_getD, hi, hj]
theorem w_SpecApart (L M : List UInt8) (hL : L.length < 9223372036854775808) (hM : M.length < 9223372036854775808) : PCall Tryd.prog 4 [slc cU L, slc cU M] (.bool true) := by
  obtain ⟨a1, a2⟩ := madeS_good L false
  obtain ⟨b1, b2⟩ := madeS_good M false
  have hap := apartS a1 b1 a2 b2
  refine PCall.of_w (fn := Tryd.f4) (Γ := gam [(5, .pure iAw6), (8, .pure iMade6), (9, .pure iPr6), (10, .pure iAct), (11, .pure iSm6)]) (mu := false) (Sound.pure iAw6_call (Sound.pure iMade6_call (Sound.pure iPr6_call (Sound.pure iAct_call (Sound.pure iSm6_call Sound.nil))))) mixed Tryd.func4 rfl (by kernel_rfl) (by simp) (by kernel_rfl) ?_
  obtain ⟨A, hA⟩ : ∃ A, madeS L false = A := ⟨_, rfl⟩
  obtain ⟨B, hB⟩ : ∃ B, madeS M false = B := ⟨_, rfl⟩
  rw [hA] at a1 a2 hap
  rw [hB] at b1 b2 hap
  have hab : okSp A ∧ okSp B := ⟨a1, b1⟩
  have q1 := prS_right a2
  have q2 := prS_right b2
  have hcA := cSp_eq A
  have hcB := cSp_eq B
  have hnr := a1.nr
  have hnc := a1.nc
  simp (disch := first | assumption | omega | exact okR_new | exact okR_one | exact trivial | (simp only [List.length_append, List.length_cons, List.length_nil]; omega) | (simp only [List.length_append, List.length_cons, List.length_nil, Nat.reduceAdd])) only [go_sem, e_go, e_cond_bool, e_w_bool, e_step_ite, e_reg_ite, e_regW_ite, e_code_ite, e_block_ite, e_evQ_ite, e_fin_ite, e_pair_ite, Tryd.f4, iAw6_eq, iMade6_eq, iPr6_eq, iAct_eq, iSm6_eq, hA, hB, q1, q2, hcA, hcB]
  refine w_loop [4] [12] (fun i : Nat => A.rules.length - i) (fun i => i ≤ A.rules.length) (fun i => ⟨[.cells 0 (cSp A), .cells 0 (cSp B)], []⟩)
    (fun i => [(12, .int .i64 (i : Nat))]) 0 (fun _ => rfl) (by kernel_rfl) (Nat.zero_le _) (by simp only [hcA, hcB]) (by simp [HasE, lk]) ?_
  intro i hi
  by_cases hlt : i < A.rules.length
  · simp (disch := first | assumption | omega | exact okR_new | exact okR_one | exact trivial | (simp only [List.length_append, List.length_cons, List.length_nil]; omega) | (simp only [List.length_append, List.length_cons, List.length_nil, Nat.reduceAdd])) only [go_sem, e_go, e_cond_bool, e_w_bool, e_step_ite, e_reg_ite, e_regW_ite, e_code_ite, e_block_ite, e_evQ_ite, e_fin_ite, e_pair_ite, Tryd.f4, iAw6_eq, iMade6_eq, iPr6_eq, iAct_eq, iSm6_eq, hcA, hcB]
    refine w_loop [4] [13] (fun j : Nat => A.conds.length - j) (fun j => j ≤ A.conds.length) (fun j => ⟨[.cells 0 (cSp A), .cells 0 (cSp B)], []⟩)
      (fun j => [(13, .int .i64 (j : Nat))]) 0 (fun _ => rfl) (by kernel_rfl) (Nat.zero_le _) (by simp only [hcA, hcB]) (by simp [HasE, lk]) ?_
    intro j hj
    by_cases hltj : j < A.conds.length
    · have hg : A.rules[i]? = some A.rules[i] := by simp [hlt]
      have hgc : A.conds[j]? = some A.conds[j] := by simp [hltj]
      have hact := act_all hg hgc
      have hk0 := fl_get0 cRu_len hg (by decide)
      have hk1 := fl_get cRu_len hg (j := 1) (by decide)
      have hc1 := fl_get cCd_len hgc (j := 1) (by omega)
      simp only [cCd, List.getElem?_cons_zero, List.getElem?_cons_succ] at hc1
      have hle : i * 22 + 22 ≤ A.rules.length * 22 := by omega
      have hle2 : j * 2 + 2 ≤ A.conds.length * 2 := by omega
      have hqn := (a1.ru _ (List.getElem_mem hlt)).nc
      generalize A.rules[i] = q at *
      generalize A.conds[j] = d at *
      rw [cRu_eq] at hk0 hk1
      simp only [List.getElem?_cons_zero, List.getElem?_cons_succ] at hk0 hk1
      cases hall : q.all
      · rw [hall, Bool.false_or] at hact
        by_cases hz : q.conds.length = 0
        · have hcn : q.conds = [] := List.eq_nil_of_length_eq_zero hz
          rw [hcn] at hact
          simp only [List.any_nil, Bool.false_or, List.length_nil, decide_true, Bool.true_and] at hact
          cases hex : d.ex <;> rw [hex] at hact <;>
          · simp only [Bool.not_true, Bool.not_false] at hact
            simp (disch := first | assumption | omega | exact okR_new | exact okR_one | exact trivial | (simp only [List.length_append, List.length_cons, List.length_nil]; omega) | (simp only [List.length_append, List.length_cons, List.length_nil, Nat.reduceAdd])) only [go_sem, e_go, e_cond_bool, e_w_bool, e_step_ite, e_reg_ite, e_regW_ite, e_code_ite, e_block_ite, e_evQ_ite, e_fin_ite, e_pair_ite, Tryd.f4, iAw6_eq, iMade6_eq, iPr6_eq, iAct_eq, iSm6_eq, e_bin_bool, hcA, hcB, hact, hk0, hk1, hc1, hall, hz, hex]
            exact ⟨j + 1, dn hltj, hltj, by simp only [hcA, hcB], by simp [HasE, lk]⟩
        · cases hac : activeS A (i : Nat) (j : Nat) <;>
          · simp (disch := first | assumption | omega | exact okR_new | exact okR_one | exact trivial | (simp only [List.length_append, List.length_cons, List.length_nil]; omega) | (simp only [List.length_append, List.length_cons, List.length_nil, Nat.reduceAdd])) only [go_sem, e_go, e_cond_bool, e_w_bool, e_step_ite, e_reg_ite, e_regW_ite, e_code_ite, e_block_ite, e_evQ_ite, e_fin_ite, e_pair_ite, Tryd.f4, iAw6_eq, iMade6_eq, iPr6_eq, iAct_eq, iSm6_eq, hcA, hcB, hac, hk0, hk1, hc1, hall, hz]
            exact ⟨j + 1, dn hltj, hltj, by simp only [hcA, hcB], by simp [HasE, lk]⟩
      · rw [hall, Bool.true_or, Bool.true_or] at hact
        by_cases hz : q.conds.length = 0 <;>
        · simp (disch := first | assumption | omega | exact okR_new | exact okR_one | exact trivial | (simp only [List.length_append, List.length_cons, List.length_nil]; omega) | (simp only [List.length_append, List.length_cons, List.length_nil, Nat.reduceAdd])) only [go_sem, e_go, e_cond_bool, e_w_bool, e_step_ite, e_reg_ite, e_regW_ite, e_code_ite, e_block_ite, e_evQ_ite, e_fin_ite, e_pair_ite, Tryd.f4, iAw6_eq, iMade6_eq, iPr6_eq, iAct_eq, iSm6_eq, hcA, hcB, hact, hk0, hk1, hc1, hall, hz]
          exact ⟨j + 1, dn hltj, hltj, by simp only [hcA, hcB], by simp [HasE, lk]⟩
    · have hj' : j = A.conds.length := by omega
      subst hj'
      simp (disch := first | assumption | omega | exact okR_new | exact okR_one | exact trivial | (simp only [List.length_append, List.length_cons, List.length_nil]; omega) | (simp only [List.length_append, List.length_cons, List.length_nil, Nat.reduceAdd])) only [go_sem, e_go, e_cond_bool, e_w_bool, e_step_ite, e_reg_ite, e_regW_ite, e_code_ite, e_block_ite, e_evQ_ite, e_fin_ite, e_pair_ite, Tryd.f4, iAw6_eq, iMade6_eq, iPr6_eq, iAct_eq, iSm6_eq, hcA, hcB]
      exact ⟨i + 1, dn hlt, hlt, by simp only [hcA, hcB], by simp [HasE, lk]⟩
  · have hi' : i = A.rules.length := by omega
    subst hi'
    cases hs : sameSp A B
    · rw [hs] at hap
      simp (disch := first | assumption | omega | exact okR_new | exact okR_one | exact trivial | (simp only [List.length_append, List.length_cons, List.length_nil]; omega) | (simp only [List.length_append, List.length_cons, List.length_nil, Nat.reduceAdd])) only [go_sem, e_go, e_cond_bool, e_w_bool, e_step_ite, e_reg_ite, e_regW_ite, e_code_ite, e_block_ite, e_evQ_ite, e_fin_ite, e_pair_ite, Tryd.f4, iAw6_eq, iMade6_eq, iPr6_eq, iAct_eq, iSm6_eq, e_bin_bool, hcA, hcB, hap, hs]
    · rw [hs] at hap
      simp (disch := first | assumption | omega | exact okR_new | exact okR_one | exact trivial | (simp only [List.length_append, List.length_cons, List.length_nil]; omega) | (simp only [List.length_append, List.length_cons, List.length_nil, Nat.reduceAdd])) only [go_sem, e_go, e_cond_bool, e_w_bool, e_step_ite, e_reg_ite, e_regW_ite, e_code_ite, e_block_ite, e_evQ_ite, e_fin_ite, e_pair_ite, Tryd.f4, iAw6_eq, iMade6_eq, iPr6_eq, iAct_eq, iSm6_eq, e_bin_bool, hcA, hcB, hap, hs]
end Go.Hk.DD
