/- Layer 6: what is told of rules. -/
import Derived.Test.YtpbepclmcjmlbaaGreatDoorHkDZDS9
import Derived.Test.YtpbepclmcjmlbaaGreatDoorHkPh
set_option linter.unusedSimpArgs false
set_option linter.unusedVariables false
set_option maxRecDepth 20000
namespace Go.Hk.DZD
open Go.Proofs

theorem w_ActR (s : Sp) (i c : Int) (h' : okSp s) : PCall Tryz.prog 18 [sV s, .int .i64 i, .int .i64 c] (.bool (activeS s i c)) := by
  have hl := h'.nc
  have hl2 := h'.nr
  have hcs := cSp_eq s
  refine PCall.of_w (fn := Tryz.f18) (Γ := gam []) (mu := false) Sound.nil mixed Tryz.func18 rfl (by kernel_rfl) (by simp) (by kernel_rfl) ?_
  by_cases hb : 0 ≤ i ∧ i < s.rules.length ∧ 0 ≤ c ∧ c < s.conds.length
  · obtain ⟨h1, h2, h3, h4⟩ := hb
    obtain ⟨k, rfl⟩ : ∃ k : Nat, i = (k : Nat) := ⟨i.toNat, by omega⟩
    obtain ⟨j, rfl⟩ : ∃ j : Nat, c = (j : Nat) := ⟨c.toNat, by omega⟩
    have hk : k < s.rules.length := by omega
    have hj : j < s.conds.length := by omega
    have hg : s.rules[k]? = some s.rules[k] := by simp [hk]
    have hgc : s.conds[j]? = some s.conds[j] := by simp [hj]
    have hat := fl_at cRu_len hg
    have hc1 := fl_get cCd_len hgc (j := 1) (by omega)
    simp only [cCd, List.getElem?_cons_zero, List.getElem?_cons_succ] at hc1
    have hle : k * 22 + 22 ≤ s.rules.length * 22 := by omega
    have hle2 : j * 2 + 2 ≤ s.conds.length * 2 := by omega
    have hor := (h'.ru _ (List.getElem_mem hk)).nc
    have ha : activeS s (k : Nat) (j : Nat) = (s.rules[k].all || s.rules[k].conds.any (fun a => decide (((j : Nat) : Int) = a)) || (decide (s.rules[k].conds.length = 0) && !s.conds[j].ex)) := by
      unfold activeS
      rw [if_pos ⟨h1, h2, h3, h4⟩]
      simp [List.getD_eq_getElem?_getD, hg, hgc]
    rw [ha]
    generalize s.rules[k] = q at *
    generalize s.conds[j] = d at *
    have hcq := cRu_eq q
    clear ha
    cases hall : q.all
    · simp (disch := first | assumption | omega | exact okR_new | exact okR_one | exact trivial | (simp only [List.length_append, List.length_cons, List.length_nil]; omega) | (simp only [List.length_append, List.length_cons, List.length_nil, Nat.reduceAdd])) only [go_sem, e_go, e_cond_bool, e_w_bool, e_step_ite, e_reg_ite, e_regW_ite, e_code_ite, e_block_ite, e_evQ_ite, e_fin_ite, e_pair_ite, Tryz.f18, hcs, hat, hcq, hall]
      rw [Bool.false_or]
      refine w_loop [6] [8] (fun i : Nat => q.conds.length - i) (fun i => i ≤ q.conds.length ∧ (q.conds.take i).any (fun a => decide (((j : Nat) : Int) = a)) = false) (fun i => ⟨[.cells 0 (cSp s), .cells 0 (cRu q)], []⟩)
        (fun i => [(8, .int .i64 (i : Nat))]) 0 (fun _ => rfl) (by kernel_rfl) ⟨Nat.zero_le _, rfl⟩ (by simp only [hcs, hcq, hall]) (by simp [HasE, lk]) ?_
      rintro i ⟨hi, hq⟩
      by_cases h : i < q.conds.length
      · have hgi : q.conds[i]? = some q.conds[i] := by simp [h]
        have hati := fl_get1 cI_len hgi
        by_cases he : q.conds[i] = (j : Nat)
        · have hany : q.conds.any (fun a => decide (((j : Nat) : Int) = a)) = true := List.any_eq_true.2 ⟨_, List.getElem_mem h, by simp [he]⟩
          simp (disch := first | assumption | omega | exact okR_new | exact okR_one | exact trivial | (simp only [List.length_append, List.length_cons, List.length_nil]; omega) | (simp only [List.length_append, List.length_cons, List.length_nil, Nat.reduceAdd])) only [go_sem, e_go, e_cond_bool, e_w_bool, e_step_ite, e_reg_ite, e_regW_ite, e_code_ite, e_block_ite, e_evQ_ite, e_fin_ite, e_pair_ite, Tryz.f18, hcs, hcq, hall, hati, cI, he]
          rw [hany]; rfl
        · simp (disch := first | assumption | omega | exact okR_new | exact okR_one | exact trivial | (simp only [List.length_append, List.length_cons, List.length_nil]; omega) | (simp only [List.length_append, List.length_cons, List.length_nil, Nat.reduceAdd])) only [go_sem, e_go, e_cond_bool, e_w_bool, e_step_ite, e_reg_ite, e_regW_ite, e_code_ite, e_block_ite, e_evQ_ite, e_fin_ite, e_pair_ite, Tryz.f18, hcs, hcq, hall, hati, cI, he]
          exact ⟨i + 1, dn h, ⟨h, by rw [List.take_succ_eq_append_getElem h, List.any_append, hq]; simp [Ne.symm he]⟩, by simp only [hcs, hcq, hall], by simp [HasE, lk]⟩
      · have hi' : i = q.conds.length := by omega
        subst hi'
        rw [List.take_length] at hq
        rw [hq, Bool.false_or]
        by_cases hz : q.conds.length = 0
        · simp (disch := first | assumption | omega | exact okR_new | exact okR_one | exact trivial | (simp only [List.length_append, List.length_cons, List.length_nil]; omega) | (simp only [List.length_append, List.length_cons, List.length_nil, Nat.reduceAdd])) only [go_sem, e_go, e_cond_bool, e_w_bool, e_step_ite, e_reg_ite, e_regW_ite, e_code_ite, e_block_ite, e_evQ_ite, e_fin_ite, e_pair_ite, Tryz.f18, hcs, hcq, hall, hc1, hz]
          try simp
        · simp (disch := first | assumption | omega | exact okR_new | exact okR_one | exact trivial | (simp only [List.length_append, List.length_cons, List.length_nil]; omega) | (simp only [List.length_append, List.length_cons, List.length_nil, Nat.reduceAdd])) only [go_sem, e_go, e_cond_bool, e_w_bool, e_step_ite, e_reg_ite, e_regW_ite, e_code_ite, e_block_ite, e_evQ_ite, e_fin_ite, e_pair_ite, Tryz.f18, hcs, hcq, hall, hc1, hz]
          try simp
    · simp (disch := first | assumption | omega | exact okR_new | exact okR_one | exact trivial | (simp only [List.length_append, List.length_cons, List.length_nil]; omega) | (simp only [List.length_append, List.length_cons, List.length_nil, Nat.reduceAdd])) only [go_sem, e_go, e_cond_bool, e_w_bool, e_step_ite, e_reg_ite, e_regW_ite, e_code_ite, e_block_ite, e_evQ_ite, e_fin_ite, e_pair_ite, Tryz.f18, hcs, hat, hcq, hall]
      rfl
  · have hf : activeS s i c = false := by unfold activeS; rw [if_neg hb]
    (simp (disch := first | assumption | omega | exact okR_new | exact okR_one | exact trivial | (simp only [List.length_append, List.length_cons, List.length_nil]; omega) | (simp only [List.length_append, List.length_cons, List.length_nil, Nat.reduceAdd])) only [go_sem, e_bin_bool, Bool.true_and, Bool.and_true, Bool.false_and, Bool.and_false, Bool.true_or, Bool.or_true, Bool.false_or, Bool.or_false, Bool.not_eq_eq_eq_not, Bool.not_not, z_or, z_and, z_beq_t, z_beq_f, decide_eq_true_eq, decide_eq_false_iff_not, ite_not, Bool.not_eq_true', Bool.or_eq_true, Bool.and_eq_true, i_t, i_f, Tryz.f18, hcs] <;> (repeat' ((first | refine w_cond_cases ?_ ?_ | refine w_go_cases ?_ ?_ | refine w_pick_cases ?_ ?_) <;> intro hq <;> (try simp only [decide_eq_true_eq, decide_eq_false_iff_not, Bool.not_eq_true', Bool.not_eq_false', Bool.or_eq_true, Bool.and_eq_true, Bool.or_eq_false_iff, Bool.and_eq_false_iff, Bool.not_eq_eq_eq_not, Bool.not_true, Bool.not_false, Bool.not_not] at hq) <;> (first | simp (disch := first | assumption | omega | exact okR_new | exact okR_one | exact trivial | (simp only [List.length_append, List.length_cons, List.length_nil]; omega) | (simp only [List.length_append, List.length_cons, List.length_nil, Nat.reduceAdd])) only [show (_ : Bool) = true from hq, go_sem, e_bin_bool, Bool.true_and, Bool.and_true, Bool.false_and, Bool.and_false, Bool.true_or, Bool.or_true, Bool.false_or, Bool.or_false, Bool.not_eq_eq_eq_not, Bool.not_not, z_or, z_and, z_beq_t, z_beq_f, decide_eq_true_eq, decide_eq_false_iff_not, ite_not, Bool.not_eq_true', Bool.or_eq_true, Bool.and_eq_true, i_t, i_f, Tryz.f18, hcs] | simp (disch := first | assumption | omega | exact okR_new | exact okR_one | exact trivial | (simp only [List.length_append, List.length_cons, List.length_nil]; omega) | (simp only [List.length_append, List.length_cons, List.length_nil, Nat.reduceAdd])) only [show (_ : Bool) = false from hq, go_sem, e_bin_bool, Bool.true_and, Bool.and_true, Bool.false_and, Bool.and_false, Bool.true_or, Bool.or_true, Bool.false_or, Bool.or_false, Bool.not_eq_eq_eq_not, Bool.not_not, z_or, z_and, z_beq_t, z_beq_f, decide_eq_true_eq, decide_eq_false_iff_not, ite_not, Bool.not_eq_true', Bool.or_eq_true, Bool.and_eq_true, i_t, i_f, Tryz.f18, hcs] | simp (disch := first | assumption | omega | exact okR_new | exact okR_one | exact trivial | (simp only [List.length_append, List.length_cons, List.length_nil]; omega) | (simp only [List.length_append, List.length_cons, List.length_nil, Nat.reduceAdd])) only [go_sem, e_bin_bool, Bool.true_and, Bool.and_true, Bool.false_and, Bool.and_false, Bool.true_or, Bool.or_true, Bool.false_or, Bool.or_false, Bool.not_eq_eq_eq_not, Bool.not_not, z_or, z_and, z_beq_t, z_beq_f, decide_eq_true_eq, decide_eq_false_iff_not, ite_not, Bool.not_eq_true', Bool.or_eq_true, Bool.and_eq_true, i_t, i_f, Tryz.f18, hcs] | skip))))
    all_goals first | (exfalso; grind) | rw [hf]
noncomputable def iActR : List AVal → Option AVal := pimp fun xs r => ∃ (u : Sp) (i : Int) (c : Int), (okSp u) ∧ xs = [sV u, .int .i64 i, .int .i64 c] ∧ r = .bool (activeS u i c)
theorem iActR_eq {u : Sp} {i : Int} {c : Int} (h : okSp u) : iActR [sV u, .int .i64 i, .int .i64 c] = some (.bool (activeS u i c)) := pimp_eq ⟨u, i, c, h, rfl, rfl⟩ (by rintro _ ⟨u', i', c', h', e, rfl⟩; have e0 := sV_inj h h' (List.cons.inj e).1; have e1 := (AVal.int.inj (List.cons.inj (List.cons.inj e).2).1).2; have e2 := (AVal.int.inj (List.cons.inj (List.cons.inj (List.cons.inj e).2).2).1).2; subst e0 e1 e2; rfl)
theorem iActR_call : ∀ xs v, iActR xs = some v → PCall Tryz.prog 18 xs v := fun xs v h0 => by obtain ⟨u, i, c, h, rfl, rfl⟩ := pimp_spec h0; exact w_ActR u i c h
theorem w_same6 (a b : Sp) (i c : Int) (h : okSp a ∧ okSp b) : PCall Tryz.prog 7 [sV a, sV b, .int .i64 i, .int .i64 c] (.bool true) := by
  obtain ⟨ha, hb⟩ := h
  have hp : ∃ s e, printSV a = .tup (.str s) [.int .i64 e] := by unfold printSV; split <;> exact ⟨_, _, rfl⟩
  obtain ⟨s, e, hp⟩ := hp
  have hab : okSp a ∧ okSp b := ⟨ha, hb⟩
  refine PCall.of_w (fn := Tryz.f7) (Γ := gam [(8, .pure iR6), (12, .pure iPr6), (13, .pure iAct), (14, .pure iSm6), (15, .pure iPrR6), (16, .pure iR6R), (17, .pure iSm6R), (18, .pure iActR)]) (mu := false) (Sound.pure iR6_call (Sound.pure iPr6_call (Sound.pure iAct_call (Sound.pure iSm6_call (Sound.pure iPrR6_call (Sound.pure iR6R_call (Sound.pure iSm6R_call (Sound.pure iActR_call Sound.nil)))))))) mixed Tryz.func7 rfl (by kernel_rfl) (by simp) (by kernel_rfl) ?_
  simp (disch := first | assumption | omega | exact okR_new | exact okR_one | exact trivial | (simp only [List.length_append, List.length_cons, List.length_nil]; omega) | (simp only [List.length_append, List.length_cons, List.length_nil, Nat.reduceAdd])) only [go_sem, e_go, e_cond_bool, e_w_bool, e_step_ite, e_reg_ite, e_regW_ite, e_code_ite, e_block_ite, e_evQ_ite, e_fin_ite, e_pair_ite, Tryz.f7, iR6_eq, iPr6_eq, iAct_eq, iSm6_eq, iPrR6_eq, iR6R_eq, iSm6R_eq, iActR_eq, e_bin_bool, hp]
noncomputable def iSame6 : List AVal → Option AVal := pimp fun xs r => ∃ (u : Sp) (w : Sp) (i : Int) (c : Int), (okSp u ∧ okSp w) ∧ xs = [sV u, sV w, .int .i64 i, .int .i64 c] ∧ r = .bool true
theorem iSame6_eq {u : Sp} {w : Sp} {i : Int} {c : Int} (h : okSp u ∧ okSp w) : iSame6 [sV u, sV w, .int .i64 i, .int .i64 c] = some (.bool true) := pimp_eq ⟨u, w, i, c, h, rfl, rfl⟩ (by rintro _ ⟨u', w', i', c', h', e, rfl⟩; rfl)
theorem iSame6_call : ∀ xs v, iSame6 xs = some v → PCall Tryz.prog 7 xs v := fun xs v h0 => by obtain ⟨u, w, i, c, h, rfl, rfl⟩ := pimp_spec h0; exact w_same6 u w i c h
theorem bC1 {m : AMem} {cs : List AVal} (h : cs.length = 2) : abuildSlice Tryz.prog false m 23 1 [(0, .agg cs)] = some (.sl .full 1 cs, m) := build_one ti23 ti43 rfl rfl h rfl (by decide) (by decide)
theorem bRu1 {m : AMem} {cs : List AVal} (h : cs.length = 22) : abuildSlice Tryz.prog false m 24 1 [(0, .agg cs)] = some (.sl .full 1 cs, m) := build_one ti24 ti41 rfl rfl h rfl (by decide) (by decide)
theorem awD_fold : AVal.agg [.int .i64 5, .int .u64 0, .int .u64 0, .int .u64 0, .int .u64 0, .int .i64 1, .int .i64 (-1), .sl .no 1 [.int .i64 2, .int .u64 ((wd (ofN 48 57) 0 : Nat) : Int), .int .u64 ((wd (ofN 48 57) 1 : Nat) : Int), .int .u64 ((wd (ofN 48 57) 2 : Nat) : Int), .int .u64 ((wd (ofN 48 57) 3 : Nat) : Int), .int .i64 0, .int .i64 0, .sl .no 0 []]] = rV awD := rfl
theorem awS_fold : AVal.agg [.sl .no 1 [.str [73, 78, 73, 84, 73, 65, 76], .bool false], .bool true, .sl .no 1 [.sl .no 0 [], .bool true, .bool false, .int .i64 5, .int .u64 0, .int .u64 0, .int .u64 0, .int .u64 0, .int .i64 1, .int .i64 (-1), .sl .no 1 [.int .i64 2, .int .u64 ((wd (ofN 48 57) 0 : Nat) : Int), .int .u64 ((wd (ofN 48 57) 1 : Nat) : Int), .int .u64 ((wd (ofN 48 57) 2 : Nat) : Int), .int .u64 ((wd (ofN 48 57) 3 : Nat) : Int), .int .i64 0, .int .i64 0, .sl .no 0 []], .int .i64 0, .int .u64 0, .int .u64 0, .int .u64 0, .int .u64 0, .int .i64 0, .int .i64 0, .sl .no 0 [], .bool false, .int .i64 1, .int .i64 0]] = sV awS := rfl
theorem noS_fold : AVal.agg [.sl .no 0 [], .bool false, .sl .no 0 []] = sV noS := rfl
theorem w_awake6 : PCall Tryz.prog 6 [] (.bool true) := by
  have h1 := awS_ok
  have h2 := noS_ok
  have h4 : okSp awS ∧ okSp awS := ⟨h1, h1⟩
  have h5 : okSp awS ∧ okSp noS := ⟨h1, h2⟩
  refine PCall.of_w (fn := Tryz.f6) (Γ := gam [(8, .pure iR6), (11, .pure iOf), (12, .pure iPr6), (13, .pure iAct), (14, .pure iSm6)]) (mu := false) (Sound.pure iR6_call (Sound.pure iOf_call (Sound.pure iPr6_call (Sound.pure iAct_call (Sound.pure iSm6_call Sound.nil))))) mixed Tryz.func6 rfl (by kernel_rfl) (by simp) (by kernel_rfl) ?_
  simp (disch := first | assumption | omega | exact okR_new | exact okR_one | exact trivial | (simp only [List.length_append, List.length_cons, List.length_nil]; omega) | (simp only [List.length_append, List.length_cons, List.length_nil, Nat.reduceAdd])) only [go_sem, e_go, e_cond_bool, e_w_bool, e_step_ite, e_reg_ite, e_regW_ite, e_code_ite, e_block_ite, e_evQ_ite, e_fin_ite, e_pair_ite, Tryz.f6, iR6_eq, iOf_eq, iPr6_eq, iAct_eq, iSm6_eq, setL, bA1, bC1, bRu1, awD_fold, awS_fold, noS_fold, pr_awS, pr_noS, awS_right, awS_act0, awS_act1, awS_same, awS_no]
noncomputable def iAw6 : List AVal → Option AVal := pimp fun xs r => (True) ∧ xs = [] ∧ r = .bool true
theorem iAw6_eq  (h : True) : iAw6 [] = some (.bool true) := pimp_eq ⟨h, rfl, rfl⟩ (by rintro _ ⟨h', e, rfl⟩; first | rfl | exact ⟨rfl, rfl⟩)
theorem iAw6_call : ∀ xs v, iAw6 xs = some v → PCall Tryz.prog 6 xs v := fun xs v h0 => by obtain ⟨h, rfl, rfl⟩ := pimp_spec h0; exact w_awake6
end Go.Hk.DZD
