/- Layer 6: where a rule holds; which rules are the same. -/
import Derived.Test.YtpbepclmcjmlbaaGreatDoorHkDZDS4
import Derived.Test.YtpbepclmcjmlbaaGreatDoorHkPh
set_option linter.unusedSimpArgs false
set_option linter.unusedVariables false
set_option maxRecDepth 20000
namespace Go.Hk.DZD
open Go.Proofs

theorem w_EqI (a b : List Int) (h : a.length < 9223372036854775808 ∧ b.length < 9223372036854775808) : PCall Tryz.prog 49 [slc cI a, slc cI b] (.bool (decide (a = b))) := by
  obtain ⟨ha, hb⟩ := h
  refine PCall.of_w (fn := Tryz.f49) (Γ := gam []) (mu := false) Sound.nil mixed Tryz.func49 rfl (by kernel_rfl) (by simp) (by kernel_rfl) ?_
  by_cases hl : a.length = b.length
  · simp (disch := first | assumption | omega | exact okR_new | exact okR_one | exact trivial | (simp only [List.length_append, List.length_cons, List.length_nil]; omega) | (simp only [List.length_append, List.length_cons, List.length_nil, Nat.reduceAdd])) only [go_sem, e_go, e_cond_bool, e_w_bool, e_step_ite, e_reg_ite, e_regW_ite, e_code_ite, e_block_ite, e_evQ_ite, e_fin_ite, e_pair_ite, Tryz.f49]
    refine w_loop [4] [13] (fun i : Nat => a.length - i) (fun i => i ≤ a.length ∧ a.take i = b.take i) (fun i => ⟨[], []⟩)
      (fun i => [(13, .int .i64 (i : Nat))]) 0 (fun _ => rfl) (by kernel_rfl) ⟨Nat.zero_le _, rfl⟩ rfl (by simp [HasE, lk]) ?_
    rintro i ⟨hi, hq⟩
    by_cases h : i < a.length
    · have hg : a[i]? = some a[i] := by simp [h]
      have hg' : b[i]? = some (b[i]'(by omega)) := by simp
      have hat := fl_get1 cI_len hg
      have hat' := fl_get1 cI_len hg'
      by_cases he : a[i] = b[i]'(by omega)
      · simp (disch := first | assumption | omega | exact okR_new | exact okR_one | exact trivial | (simp only [List.length_append, List.length_cons, List.length_nil]; omega) | (simp only [List.length_append, List.length_cons, List.length_nil, Nat.reduceAdd])) only [go_sem, e_go, e_cond_bool, e_w_bool, e_step_ite, e_reg_ite, e_regW_ite, e_code_ite, e_block_ite, e_evQ_ite, e_fin_ite, e_pair_ite, Tryz.f49, hat, hat', cI, he]
        exact ⟨i + 1, dn h, ⟨h, eqTo_step hq hg hg' he⟩, rfl, by simp [HasE, lk]⟩
      · have hn := eqTo_not hg hg' he
        simp (disch := first | assumption | omega | exact okR_new | exact okR_one | exact trivial | (simp only [List.length_append, List.length_cons, List.length_nil]; omega) | (simp only [List.length_append, List.length_cons, List.length_nil, Nat.reduceAdd])) only [go_sem, e_go, e_cond_bool, e_w_bool, e_step_ite, e_reg_ite, e_regW_ite, e_code_ite, e_block_ite, e_evQ_ite, e_fin_ite, e_pair_ite, Tryz.f49, hat, hat', cI, he, hn]
    · have hi' : i = a.length := by omega
      subst hi'
      have := eqTo_all hl hq
      simp (disch := first | assumption | omega | exact okR_new | exact okR_one | exact trivial | (simp only [List.length_append, List.length_cons, List.length_nil]; omega) | (simp only [List.length_append, List.length_cons, List.length_nil, Nat.reduceAdd])) only [go_sem, e_go, e_cond_bool, e_w_bool, e_step_ite, e_reg_ite, e_regW_ite, e_code_ite, e_block_ite, e_evQ_ite, e_fin_ite, e_pair_ite, Tryz.f49]
  · have hn : ¬ a = b := fun e => hl (by rw [e])
    simp (disch := first | assumption | omega | exact okR_new | exact okR_one | exact trivial | (simp only [List.length_append, List.length_cons, List.length_nil]; omega) | (simp only [List.length_append, List.length_cons, List.length_nil, Nat.reduceAdd])) only [go_sem, e_go, e_cond_bool, e_w_bool, e_step_ite, e_reg_ite, e_regW_ite, e_code_ite, e_block_ite, e_evQ_ite, e_fin_ite, e_pair_ite, Tryz.f49, hn]
noncomputable def iEqI : List AVal → Option AVal := pimp fun xs r => ∃ (a : List Int) (b : List Int), (a.length < 9223372036854775808 ∧ b.length < 9223372036854775808) ∧ xs = [slc cI a, slc cI b] ∧ r = .bool (decide (a = b))
theorem iEqI_eq {a : List Int} {b : List Int} (h : a.length < 9223372036854775808 ∧ b.length < 9223372036854775808) : iEqI [slc cI a, slc cI b] = some (.bool (decide (a = b))) := pimp_eq ⟨a, b, h, rfl, rfl⟩ (by rintro _ ⟨a', b', h', e, rfl⟩; have e0 := (List.cons.inj e).1; have e0r := (List.cons.inj e).2; have e1 := (List.cons.inj e0r).1; have e1r := (List.cons.inj e0r).2; have q0 := slc_inj cI_len (fun _ _ _ _ => cI_inj) e0; have q1 := slc_inj cI_len (fun _ _ _ _ => cI_inj) e1; subst q0; subst q1; first | rfl | exact ⟨rfl, rfl⟩)
theorem iEqI_call : ∀ xs v, iEqI xs = some v → PCall Tryz.prog 49 xs v := fun xs v h0 => by obtain ⟨a, b, h, rfl, rfl⟩ := pimp_spec h0; exact w_EqI a b h
theorem cd_neq2 {c d : Cd} : abin Tryz.prog .neq 43 (cdV c) (cdV d) = some (.bool (!decide (c = d))) := by
  have h := cd_neq (c := c) (n := d.name) (b := d.ex)
  have e : (decide (c.name = d.name) && decide (c.ex = d.ex)) = decide (c = d) := by
    obtain ⟨a, b⟩ := c
    obtain ⟨a', b'⟩ := d
    simp only [Cd.mk.injEq, Bool.decide_and]
  rw [e] at h
  exact h
theorem w_EqC (a b : List Cd) (h : a.length < 9223372036854775808 ∧ b.length < 9223372036854775808) : PCall Tryz.prog 31 [slc cCd a, slc cCd b] (.bool (decide (a = b))) := by
  obtain ⟨ha, hb⟩ := h
  refine PCall.of_w (fn := Tryz.f31) (Γ := gam []) (mu := false) Sound.nil mixed Tryz.func31 rfl (by kernel_rfl) (by simp) (by kernel_rfl) ?_
  by_cases hl : a.length = b.length
  · simp (disch := first | assumption | omega | exact okR_new | exact okR_one | exact trivial | (simp only [List.length_append, List.length_cons, List.length_nil]; omega) | (simp only [List.length_append, List.length_cons, List.length_nil, Nat.reduceAdd])) only [go_sem, e_go, e_cond_bool, e_w_bool, e_step_ite, e_reg_ite, e_regW_ite, e_code_ite, e_block_ite, e_evQ_ite, e_fin_ite, e_pair_ite, Tryz.f31]
    refine w_loop [4] [13] (fun i : Nat => a.length - i) (fun i => i ≤ a.length ∧ a.take i = b.take i) (fun i => ⟨[], []⟩)
      (fun i => [(13, .int .i64 (i : Nat))]) 0 (fun _ => rfl) (by kernel_rfl) ⟨Nat.zero_le _, rfl⟩ rfl (by simp [HasE, lk]) ?_
    rintro i ⟨hi, hq⟩
    by_cases h : i < a.length
    · have hg : a[i]? = some a[i] := by simp [h]
      have hg' : b[i]? = some (b[i]'(by omega)) := by simp
      have hat := fl_at cCd_len hg
      have hat' := fl_at cCd_len hg'
      have hle : i * 2 + 2 ≤ a.length * 2 := by omega
      have hle' : i * 2 + 2 ≤ b.length * 2 := by omega
      by_cases he : a[i] = b[i]'(by omega)
      · have hn := eqTo_step hq hg hg' he
        generalize a[i] = c at *
        generalize b[i]'(by omega) = d at *
        have hc := cd_neq2 (c := c) (d := d)
        rw [decide_eq_true he] at hc
        simp (disch := first | assumption | omega | exact okR_new | exact okR_one | exact trivial | (simp only [List.length_append, List.length_cons, List.length_nil]; omega) | (simp only [List.length_append, List.length_cons, List.length_nil, Nat.reduceAdd])) only [go_sem, e_go, e_cond_bool, e_w_bool, e_step_ite, e_reg_ite, e_regW_ite, e_code_ite, e_block_ite, e_evQ_ite, e_fin_ite, e_pair_ite, Tryz.f31, hat, hat', hc]
        exact ⟨i + 1, dn h, ⟨h, hn⟩, rfl, by simp [HasE, lk]⟩
      · have hn := eqTo_not hg hg' he
        generalize a[i] = c at *
        generalize b[i]'(by omega) = d at *
        have hc := cd_neq2 (c := c) (d := d)
        rw [decide_eq_false he] at hc
        simp (disch := first | assumption | omega | exact okR_new | exact okR_one | exact trivial | (simp only [List.length_append, List.length_cons, List.length_nil]; omega) | (simp only [List.length_append, List.length_cons, List.length_nil, Nat.reduceAdd])) only [go_sem, e_go, e_cond_bool, e_w_bool, e_step_ite, e_reg_ite, e_regW_ite, e_code_ite, e_block_ite, e_evQ_ite, e_fin_ite, e_pair_ite, Tryz.f31, hat, hat', hc, hn]
    · have hi' : i = a.length := by omega
      subst hi'
      have := eqTo_all hl hq
      simp (disch := first | assumption | omega | exact okR_new | exact okR_one | exact trivial | (simp only [List.length_append, List.length_cons, List.length_nil]; omega) | (simp only [List.length_append, List.length_cons, List.length_nil, Nat.reduceAdd])) only [go_sem, e_go, e_cond_bool, e_w_bool, e_step_ite, e_reg_ite, e_regW_ite, e_code_ite, e_block_ite, e_evQ_ite, e_fin_ite, e_pair_ite, Tryz.f31]
  · have hn : ¬ a = b := fun e => hl (by rw [e])
    simp (disch := first | assumption | omega | exact okR_new | exact okR_one | exact trivial | (simp only [List.length_append, List.length_cons, List.length_nil]; omega) | (simp only [List.length_append, List.length_cons, List.length_nil, Nat.reduceAdd])) only [go_sem, e_go, e_cond_bool, e_w_bool, e_step_ite, e_reg_ite, e_regW_ite, e_code_ite, e_block_ite, e_evQ_ite, e_fin_ite, e_pair_ite, Tryz.f31, hn]
noncomputable def iEqC : List AVal → Option AVal := pimp fun xs r => ∃ (a : List Cd) (b : List Cd), (a.length < 9223372036854775808 ∧ b.length < 9223372036854775808) ∧ xs = [slc cCd a, slc cCd b] ∧ r = .bool (decide (a = b))
theorem iEqC_eq {a : List Cd} {b : List Cd} (h : a.length < 9223372036854775808 ∧ b.length < 9223372036854775808) : iEqC [slc cCd a, slc cCd b] = some (.bool (decide (a = b))) := pimp_eq ⟨a, b, h, rfl, rfl⟩ (by rintro _ ⟨a', b', h', e, rfl⟩; have e0 := slc_inj cCd_len (fun _ _ _ _ => cCd_inj) (List.cons.inj e).1; have e1 := slc_inj cCd_len (fun _ _ _ _ => cCd_inj) (List.cons.inj (List.cons.inj e).2).1; subst e0 e1; rfl)
theorem iEqC_call : ∀ xs v, iEqC xs = some v → PCall Tryz.prog 31 xs v := fun xs v h0 => by obtain ⟨a, b, h, rfl, rfl⟩ := pimp_spec h0; exact w_EqC a b h
theorem w_sameRu (a b : Ru) (h : okRu a ∧ okRu b) : PCall Tryz.prog 33 [ruV a, ruV b] (.bool (sameRu a b)) := by
  obtain ⟨ha, hb⟩ := h
  have hca := cRu_eq a
  have hcb := cRu_eq b
  have hl : a.conds.length < 9223372036854775808 ∧ b.conds.length < 9223372036854775808 := ⟨ha.nc, hb.nc⟩
  have hx : okX a.rx ∧ okX b.rx := ⟨ha.rx, hb.rx⟩
  have hy : okX a.trail ∧ okX b.trail := ⟨ha.tr, hb.tr⟩
  refine PCall.of_w (fn := Tryz.f33) (Γ := gam [(49, .pure iEqI), (50, .pure iSm)]) (mu := false) (Sound.pure iEqI_call (Sound.pure iSm_call Sound.nil)) mixed Tryz.func33 rfl (by kernel_rfl) (by simp) (by kernel_rfl) ?_
  (simp (disch := first | assumption | omega | exact okR_new | exact okR_one | exact trivial | (simp only [List.length_append, List.length_cons, List.length_nil]; omega) | (simp only [List.length_append, List.length_cons, List.length_nil, Nat.reduceAdd])) only [go_sem, e_bin_bool, Bool.true_and, Bool.and_true, Bool.false_and, Bool.and_false, Bool.true_or, Bool.or_true, Bool.false_or, Bool.or_false, Bool.not_eq_eq_eq_not, Bool.not_not, z_or, z_and, z_beq_t, z_beq_f, decide_eq_true_eq, decide_eq_false_iff_not, ite_not, Bool.not_eq_true', Bool.or_eq_true, Bool.and_eq_true, i_t, i_f, Tryz.f33, iEqI_eq, iSm_eq, hca, hcb] <;> (repeat' ((first | refine w_cond_cases ?_ ?_ | refine w_go_cases ?_ ?_ | refine w_pick_cases ?_ ?_) <;> intro hq <;> (try simp only [decide_eq_true_eq, decide_eq_false_iff_not, Bool.not_eq_true', Bool.not_eq_false', Bool.or_eq_true, Bool.and_eq_true, Bool.or_eq_false_iff, Bool.and_eq_false_iff, Bool.not_eq_eq_eq_not, Bool.not_true, Bool.not_false, Bool.not_not] at hq) <;> (first | simp (disch := first | assumption | omega | exact okR_new | exact okR_one | exact trivial | (simp only [List.length_append, List.length_cons, List.length_nil]; omega) | (simp only [List.length_append, List.length_cons, List.length_nil, Nat.reduceAdd])) only [show (_ : Bool) = true from hq, go_sem, e_bin_bool, Bool.true_and, Bool.and_true, Bool.false_and, Bool.and_false, Bool.true_or, Bool.or_true, Bool.false_or, Bool.or_false, Bool.not_eq_eq_eq_not, Bool.not_not, z_or, z_and, z_beq_t, z_beq_f, decide_eq_true_eq, decide_eq_false_iff_not, ite_not, Bool.not_eq_true', Bool.or_eq_true, Bool.and_eq_true, i_t, i_f, Tryz.f33, iEqI_eq, iSm_eq, hca, hcb] | simp (disch := first | assumption | omega | exact okR_new | exact okR_one | exact trivial | (simp only [List.length_append, List.length_cons, List.length_nil]; omega) | (simp only [List.length_append, List.length_cons, List.length_nil, Nat.reduceAdd])) only [show (_ : Bool) = false from hq, go_sem, e_bin_bool, Bool.true_and, Bool.and_true, Bool.false_and, Bool.and_false, Bool.true_or, Bool.or_true, Bool.false_or, Bool.or_false, Bool.not_eq_eq_eq_not, Bool.not_not, z_or, z_and, z_beq_t, z_beq_f, decide_eq_true_eq, decide_eq_false_iff_not, ite_not, Bool.not_eq_true', Bool.or_eq_true, Bool.and_eq_true, i_t, i_f, Tryz.f33, iEqI_eq, iSm_eq, hca, hcb] | simp (disch := first | assumption | omega | exact okR_new | exact okR_one | exact trivial | (simp only [List.length_append, List.length_cons, List.length_nil]; omega) | (simp only [List.length_append, List.length_cons, List.length_nil, Nat.reduceAdd])) only [go_sem, e_bin_bool, Bool.true_and, Bool.and_true, Bool.false_and, Bool.and_false, Bool.true_or, Bool.or_true, Bool.false_or, Bool.or_false, Bool.not_eq_eq_eq_not, Bool.not_not, z_or, z_and, z_beq_t, z_beq_f, decide_eq_true_eq, decide_eq_false_iff_not, ite_not, Bool.not_eq_true', Bool.or_eq_true, Bool.and_eq_true, i_t, i_f, Tryz.f33, iEqI_eq, iSm_eq, hca, hcb] | skip))))
  all_goals (clear hca hcb ha hb hl hx hy; unfold sameRu; grind)
end Go.Hk.DZD
