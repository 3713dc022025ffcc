import Derived.Test.YtdimacffjdpkfaaGreatHkQ35
import Derived.Test.YtdimacffjdpkfaaGreatHkQ21
set_option linter.unusedSimpArgs false
set_option linter.unusedVariables false
set_option maxRecDepth 20000
namespace Go.Hk.MZ
open Go.Proofs

theorem does_eq {r : Ru} {n : Int} (hn : 1 ≤ n) : doesB n r = (decide (1 ≤ r.act) && decide (r.act ≤ 3) && decide (0 ≤ r.to) && decide (r.to < n) && (decide (r.act = 3) || decide (r.to = 0))) := by
  unfold doesB
  rw [Bool.eq_iff_iff]
  by_cases h : r.act = 3
  · rw [if_pos h]; simp only [Bool.and_eq_true, Bool.or_eq_true, decide_eq_true_eq]; omega
  · rw [if_neg h]; simp only [Bool.and_eq_true, Bool.or_eq_true, decide_eq_true_eq]; omega
theorem w_rule6 (r : Ru) (n : Int) (h : okRu r ∧ 1 ≤ n) : PCall Tryz.prog 66 [ruV r, .int .i64 n] (.bool (ruleB n r)) := by
  obtain ⟨h, hn1⟩ := h
  have hde := does_eq (r := r) hn1
  have hc := cRu_eq r
  have hl := h.nc
  have hx := h.rx
  have ht := h.tr
  refine PCall.of_w (fn := Tryz.f66) (Γ := gam [(85, .pure iNoR), (86, .pure iRtR)]) (mu := false) (Sound.pure iNoR_call (Sound.pure iRtR_call Sound.nil)) mixed Tryz.func66 rfl (by kernel_rfl) (by simp) (by kernel_rfl) ?_
  simp (disch := first | assumption | omega | exact okR_new | exact okR_one | exact trivial | (simp only [lnA, lnC, lnN]; omega) | (simp only [lnA, lnC, lnN, Nat.reduceAdd])) only [go_sem, e_go, e_cond_bool, e_w_bool, e_step_ite, e_reg_ite, e_regW_ite, e_code_ite, e_block_ite, e_evQ_ite, e_fin_ite, e_pair_ite, Tryz.f66, iNoR_eq, iRtR_eq, hc]
  refine w_loop [4] [5] (fun i : Nat => r.conds.length - i) (fun i => i ≤ r.conds.length ∧ rise n (-1) (r.conds.take i) = true) (fun i => ⟨[.cells 0 (cRu r)], []⟩)
    (fun i => [(5, .int .i64 (i : Nat))]) 0 (fun _ => rfl) (by kernel_rfl) ⟨Nat.zero_le _, rfl⟩ (by simp only [hc]) (by simp [HasE, lk]) ?_
  rintro i ⟨hi, hq⟩
  by_cases h : i < r.conds.length
  · have hg : r.conds[i]? = some r.conds[i] := by simp [h]
    have hat := fl_get1 cI_len hg
    obtain ⟨hs, hp⟩ := rise_step hg hq
    rw [hs] at hp
    have hpre : 0 < i → (fl cI r.conds)[i - 1]? = some (.int .i64 (r.conds.getD (i - 1) 0)) := fun h0 => by
      have hg' : r.conds[i - 1]? = some (r.conds[i - 1]'(by omega)) := by simp
      rw [fl_get1 cI_len hg']; simp [cI, List.getD_eq_getElem?_getD, hg']
    generalize r.conds[i] = c at *
    by_cases h0 : i = 0
    · subst h0
      (simp (disch := first | assumption | omega | exact okR_new | exact okR_one | exact trivial | (simp only [lnA, lnC, lnN]; omega) | (simp only [lnA, lnC, lnN, Nat.reduceAdd])) only [go_sem, e_bin_bool, Bool.true_and, Bool.and_true, Bool.false_and, Bool.and_false, Bool.true_or, Bool.or_true, Bool.false_or, Bool.or_false, Bool.not_eq_eq_eq_not, Bool.not_not, z_or, z_and, z_beq_t, z_beq_f, decide_eq_true_eq, decide_eq_false_iff_not, ite_not, Bool.not_eq_true', Bool.or_eq_true, Bool.and_eq_true, i_t, i_f, Tryz.f66, iNoR_eq, iRtR_eq, hc, hat, cI] <;> (repeat' ((first | refine w_cond_cases ?_ ?_ | refine w_go_cases ?_ ?_ | refine w_pick_cases ?_ ?_) <;> intro hq <;> (try simp only [decide_eq_true_eq, decide_eq_false_iff_not, Bool.not_eq_true', Bool.not_eq_false', Bool.or_eq_true, Bool.and_eq_true, Bool.or_eq_false_iff, Bool.and_eq_false_iff, Bool.not_eq_eq_eq_not, Bool.not_true, Bool.not_false, Bool.not_not] at hq) <;> (first | simp (disch := first | assumption | omega | exact okR_new | exact okR_one | exact trivial | (simp only [lnA, lnC, lnN]; omega) | (simp only [lnA, lnC, lnN, Nat.reduceAdd])) only [show (_ : Bool) = true from hq, go_sem, e_bin_bool, Bool.true_and, Bool.and_true, Bool.false_and, Bool.and_false, Bool.true_or, Bool.or_true, Bool.false_or, Bool.or_false, Bool.not_eq_eq_eq_not, Bool.not_not, z_or, z_and, z_beq_t, z_beq_f, decide_eq_true_eq, decide_eq_false_iff_not, ite_not, Bool.not_eq_true', Bool.or_eq_true, Bool.and_eq_true, i_t, i_f, Tryz.f66, iNoR_eq, iRtR_eq, hc, hat, cI] | simp (disch := first | assumption | omega | exact okR_new | exact okR_one | exact trivial | (simp only [lnA, lnC, lnN]; omega) | (simp only [lnA, lnC, lnN, Nat.reduceAdd])) only [show (_ : Bool) = false from hq, go_sem, e_bin_bool, Bool.true_and, Bool.and_true, Bool.false_and, Bool.and_false, Bool.true_or, Bool.or_true, Bool.false_or, Bool.or_false, Bool.not_eq_eq_eq_not, Bool.not_not, z_or, z_and, z_beq_t, z_beq_f, decide_eq_true_eq, decide_eq_false_iff_not, ite_not, Bool.not_eq_true', Bool.or_eq_true, Bool.and_eq_true, i_t, i_f, Tryz.f66, iNoR_eq, iRtR_eq, hc, hat, cI] | simp (disch := first | assumption | omega | exact okR_new | exact okR_one | exact trivial | (simp only [lnA, lnC, lnN]; omega) | (simp only [lnA, lnC, lnN, Nat.reduceAdd])) only [go_sem, e_bin_bool, Bool.true_and, Bool.and_true, Bool.false_and, Bool.and_false, Bool.true_or, Bool.or_true, Bool.false_or, Bool.or_false, Bool.not_eq_eq_eq_not, Bool.not_not, z_or, z_and, z_beq_t, z_beq_f, decide_eq_true_eq, decide_eq_false_iff_not, ite_not, Bool.not_eq_true', Bool.or_eq_true, Bool.and_eq_true, i_t, i_f, Tryz.f66, iNoR_eq, iRtR_eq, hc, hat, cI] | skip))))
      all_goals first | exact ⟨0 + 1, dn h, ⟨h, by rw [hs]; grind⟩, by simp only [hc], by simp [HasE, lk]⟩ | (unfold ruleB holdsB; rw [hp (by grind)]; rfl)
    · have hpre := hpre (by omega)
      have e1 : ((i : Nat) : Int) - 1 = ((i - 1 : Nat) : Int) := by omega
      generalize r.conds.getD (i - 1) 0 = d at *
      (simp (disch := first | assumption | omega | exact okR_new | exact okR_one | exact trivial | (simp only [lnA, lnC, lnN]; omega) | (simp only [lnA, lnC, lnN, Nat.reduceAdd])) only [go_sem, e_bin_bool, Bool.true_and, Bool.and_true, Bool.false_and, Bool.and_false, Bool.true_or, Bool.or_true, Bool.false_or, Bool.or_false, Bool.not_eq_eq_eq_not, Bool.not_not, z_or, z_and, z_beq_t, z_beq_f, decide_eq_true_eq, decide_eq_false_iff_not, ite_not, Bool.not_eq_true', Bool.or_eq_true, Bool.and_eq_true, i_t, i_f, Tryz.f66, iNoR_eq, iRtR_eq, hc, hat, cI, e1, hpre] <;> (repeat' ((first | refine w_cond_cases ?_ ?_ | refine w_go_cases ?_ ?_ | refine w_pick_cases ?_ ?_) <;> intro hq <;> (try simp only [decide_eq_true_eq, decide_eq_false_iff_not, Bool.not_eq_true', Bool.not_eq_false', Bool.or_eq_true, Bool.and_eq_true, Bool.or_eq_false_iff, Bool.and_eq_false_iff, Bool.not_eq_eq_eq_not, Bool.not_true, Bool.not_false, Bool.not_not] at hq) <;> (first | simp (disch := first | assumption | omega | exact okR_new | exact okR_one | exact trivial | (simp only [lnA, lnC, lnN]; omega) | (simp only [lnA, lnC, lnN, Nat.reduceAdd])) only [show (_ : Bool) = true from hq, go_sem, e_bin_bool, Bool.true_and, Bool.and_true, Bool.false_and, Bool.and_false, Bool.true_or, Bool.or_true, Bool.false_or, Bool.or_false, Bool.not_eq_eq_eq_not, Bool.not_not, z_or, z_and, z_beq_t, z_beq_f, decide_eq_true_eq, decide_eq_false_iff_not, ite_not, Bool.not_eq_true', Bool.or_eq_true, Bool.and_eq_true, i_t, i_f, Tryz.f66, iNoR_eq, iRtR_eq, hc, hat, cI, e1, hpre] | simp (disch := first | assumption | omega | exact okR_new | exact okR_one | exact trivial | (simp only [lnA, lnC, lnN]; omega) | (simp only [lnA, lnC, lnN, Nat.reduceAdd])) only [show (_ : Bool) = false from hq, go_sem, e_bin_bool, Bool.true_and, Bool.and_true, Bool.false_and, Bool.and_false, Bool.true_or, Bool.or_true, Bool.false_or, Bool.or_false, Bool.not_eq_eq_eq_not, Bool.not_not, z_or, z_and, z_beq_t, z_beq_f, decide_eq_true_eq, decide_eq_false_iff_not, ite_not, Bool.not_eq_true', Bool.or_eq_true, Bool.and_eq_true, i_t, i_f, Tryz.f66, iNoR_eq, iRtR_eq, hc, hat, cI, e1, hpre] | simp (disch := first | assumption | omega | exact okR_new | exact okR_one | exact trivial | (simp only [lnA, lnC, lnN]; omega) | (simp only [lnA, lnC, lnN, Nat.reduceAdd])) only [go_sem, e_bin_bool, Bool.true_and, Bool.and_true, Bool.false_and, Bool.and_false, Bool.true_or, Bool.or_true, Bool.false_or, Bool.or_false, Bool.not_eq_eq_eq_not, Bool.not_not, z_or, z_and, z_beq_t, z_beq_f, decide_eq_true_eq, decide_eq_false_iff_not, ite_not, Bool.not_eq_true', Bool.or_eq_true, Bool.and_eq_true, i_t, i_f, Tryz.f66, iNoR_eq, iRtR_eq, hc, hat, cI, e1, hpre] | skip))))
      all_goals first | exact ⟨i + 1, dn h, ⟨h, by rw [hs]; grind⟩, by simp only [hc], by simp [HasE, lk]⟩ | (unfold ruleB holdsB; rw [hp (by grind)]; rfl)
  · have hi' : i = r.conds.length := by omega
    subst hi'
    rw [List.take_length] at hq
    have hri := hq
    (simp (disch := first | assumption | omega | exact okR_new | exact okR_one | exact trivial | (simp only [lnA, lnC, lnN]; omega) | (simp only [lnA, lnC, lnN, Nat.reduceAdd])) only [go_sem, e_bin_bool, Bool.true_and, Bool.and_true, Bool.false_and, Bool.and_false, Bool.true_or, Bool.or_true, Bool.false_or, Bool.or_false, Bool.not_eq_eq_eq_not, Bool.not_not, z_or, z_and, z_beq_t, z_beq_f, decide_eq_true_eq, decide_eq_false_iff_not, ite_not, Bool.not_eq_true', Bool.or_eq_true, Bool.and_eq_true, i_t, i_f, Tryz.f66, iNoR_eq, iRtR_eq, hc] <;> (repeat' ((first | refine w_cond_cases ?_ ?_ | refine w_go_cases ?_ ?_ | refine w_pick_cases ?_ ?_) <;> intro hq <;> (try simp only [decide_eq_true_eq, decide_eq_false_iff_not, Bool.not_eq_true', Bool.not_eq_false', Bool.or_eq_true, Bool.and_eq_true, Bool.or_eq_false_iff, Bool.and_eq_false_iff, Bool.not_eq_eq_eq_not, Bool.not_true, Bool.not_false, Bool.not_not] at hq) <;> (first | simp (disch := first | assumption | omega | exact okR_new | exact okR_one | exact trivial | (simp only [lnA, lnC, lnN]; omega) | (simp only [lnA, lnC, lnN, Nat.reduceAdd])) only [show (_ : Bool) = true from hq, go_sem, e_bin_bool, Bool.true_and, Bool.and_true, Bool.false_and, Bool.and_false, Bool.true_or, Bool.or_true, Bool.false_or, Bool.or_false, Bool.not_eq_eq_eq_not, Bool.not_not, z_or, z_and, z_beq_t, z_beq_f, decide_eq_true_eq, decide_eq_false_iff_not, ite_not, Bool.not_eq_true', Bool.or_eq_true, Bool.and_eq_true, i_t, i_f, Tryz.f66, iNoR_eq, iRtR_eq, hc] | simp (disch := first | assumption | omega | exact okR_new | exact okR_one | exact trivial | (simp only [lnA, lnC, lnN]; omega) | (simp only [lnA, lnC, lnN, Nat.reduceAdd])) only [show (_ : Bool) = false from hq, go_sem, e_bin_bool, Bool.true_and, Bool.and_true, Bool.false_and, Bool.and_false, Bool.true_or, Bool.or_true, Bool.false_or, Bool.or_false, Bool.not_eq_eq_eq_not, Bool.not_not, z_or, z_and, z_beq_t, z_beq_f, decide_eq_true_eq, decide_eq_false_iff_not, ite_not, Bool.not_eq_true', Bool.or_eq_true, Bool.and_eq_true, i_t, i_f, Tryz.f66, iNoR_eq, iRtR_eq, hc] | simp (disch := first | assumption | omega | exact okR_new | exact okR_one | exact trivial | (simp only [lnA, lnC, lnN]; omega) | (simp only [lnA, lnC, lnN, Nat.reduceAdd])) only [go_sem, e_bin_bool, Bool.true_and, Bool.and_true, Bool.false_and, Bool.and_false, Bool.true_or, Bool.or_true, Bool.false_or, Bool.or_false, Bool.not_eq_eq_eq_not, Bool.not_not, z_or, z_and, z_beq_t, z_beq_f, decide_eq_true_eq, decide_eq_false_iff_not, ite_not, Bool.not_eq_true', Bool.or_eq_true, Bool.and_eq_true, i_t, i_f, Tryz.f66, iNoR_eq, iRtR_eq, hc] | skip))))
    all_goals (clear hc; unfold ruleB holdsB matchB; rw [hri, hde]; clear hde hri hx ht hl h; grind)
noncomputable def iRu6 : List AVal → Option AVal := pimp fun xs r => ∃ (u : Ru) (n : Int), (okRu u ∧ 1 ≤ n) ∧ xs = [ruV u, .int .i64 n] ∧ r = .bool (ruleB n u)
theorem iRu6_eq {u : Ru} {n : Int} (h : okRu u ∧ 1 ≤ n) : iRu6 [ruV u, .int .i64 n] = some (.bool (ruleB n u)) := pimp_eq ⟨u, n, h, rfl, rfl⟩ (by rintro _ ⟨u', n', h', e, rfl⟩; have e0 := ruV_inj h.1 h'.1 (List.cons.inj e).1; have e1 := (AVal.int.inj (List.cons.inj (List.cons.inj e).2).1).2; subst e0 e1; rfl)
theorem iRu6_call : ∀ xs v, iRu6 xs = some v → PCall Tryz.prog 66 xs v := fun xs v h0 => by obtain ⟨u, n, h, rfl, rfl⟩ := pimp_spec h0; exact w_rule6 u n h
theorem w_Right6R (s : Sp) (h' : okSp s) : PCall Tryz.prog 43 [sV s] (.bool (rightS s)) := by
  have hl := h'.nc
  have hl2 := h'.nr
  refine PCall.of_w (fn := Tryz.f43) (Γ := gam [(65, .pure iNmR), (66, .pure iRu6)]) (mu := false) (Sound.pure iNmR_call (Sound.pure iRu6_call Sound.nil)) mixed Tryz.func43 rfl (by kernel_rfl) (by simp) (by kernel_rfl) ?_
  by_cases hb : 1 ≤ s.conds.length ∧ s.conds.length ≤ 8 ∧ s.rules.length ≤ 40
  · obtain ⟨hb1, hb2, hb3⟩ := hb
    have hg : s.conds[0]? = some (s.conds.getD 0 ⟨[], false⟩) := by rw [List.getD_eq_getElem?_getD]; simp [show 0 < s.conds.length by omega]
    have hat := fl_at cCd_len hg
    simp only [Nat.zero_mul, List.drop_zero] at hat
    have hn := cd_neq (c := s.conds.getD 0 ⟨[], false⟩) (n := [73, 78, 73, 84, 73, 65, 76]) (b := false)
    have hr : rightS s = (decide ((s.conds.getD 0 ⟨[], false⟩).name = [73, 78, 73, 84, 73, 65, 76]) && !(s.conds.getD 0 ⟨[], false⟩).ex && s.conds.all (fun c => nameB c.name) && diff (s.conds.map Cd.name) && s.rules.all (ruleB s.conds.length)) := by
      unfold rightS initial; simp [hb1, hb2, hb3]
    generalize s.conds.getD 0 ⟨[], false⟩ = c0 at *
    by_cases hi : c0.name = [73, 78, 73, 84, 73, 65, 76] ∧ c0.ex = false
    · obtain ⟨hi1, hi2⟩ := hi
      rw [hi1, hi2] at hr
      simp only [decide_true, Bool.not_false, Bool.true_and] at hr
      have d1 : decide (c0.name = [73, 78, 73, 84, 73, 65, 76]) = true := decide_eq_true hi1
      have d2 : decide (c0.ex = false) = true := decide_eq_true hi2
      rw [d1, d2] at hn
      simp (disch := first | assumption | omega | exact okR_new | exact okR_one | exact trivial | (simp only [lnA, lnC, lnN]; omega) | (simp only [lnA, lnC, lnN, Nat.reduceAdd])) only [go_sem, e_go, e_cond_bool, e_w_bool, e_step_ite, e_reg_ite, e_regW_ite, e_code_ite, e_block_ite, e_evQ_ite, e_fin_ite, e_pair_ite, Tryz.f43, iNmR_eq, iRu6_eq, hat, hn, sV_cells]
      refine w_loop [2] [3] (fun i : Nat => s.conds.length - i) (fun i => i ≤ s.conds.length ∧ (∀ c ∈ s.conds.take i, nameB c.name = true) ∧ diff ((s.conds.map Cd.name).take i) = true) (fun i => ⟨[.cells 0 (cSp s)], []⟩)
        (fun i => [(3, .int .i64 (i : Nat))]) 0 (fun _ => rfl) (by kernel_rfl) ⟨Nat.zero_le _, by simp, by simp [diff]⟩ (by simp [cSp_eq]) (by simp [HasE, lk]) ?_
      rintro i ⟨hi, hq, hdf⟩
      by_cases h : i < s.conds.length
      · have hg : s.conds[i]? = some s.conds[i] := by simp [h]
        have hat := fl_at cCd_len hg
        have h0 := fl_get0 cCd_len hg (by omega)
        simp only [cCd, List.getElem?_cons_zero] at h0
        have hle : i * 2 + 2 ≤ s.conds.length * 2 := by omega
        have hnm := h'.nm _ (List.getElem_mem h)
        have htk : s.conds.take (i + 1) = s.conds.take i ++ [s.conds[i]] := List.take_succ_eq_append_getElem h
        have hdn := diff_take (l := s.conds.map Cd.name) (i := i) (x := s.conds[i].name) (by simp [hg])
        have hdp := diff_pre (l := s.conds.map Cd.name) (i := i + 1)
        have hmem := List.getElem_mem h
        generalize s.conds[i] = c at *
        cases hc : nameB c.name
        · have hr' : rightS s = false := by rw [hr]; grind
          simp (disch := first | assumption | omega | exact okR_new | exact okR_one | exact trivial | (simp only [lnA, lnC, lnN]; omega) | (simp only [lnA, lnC, lnN, Nat.reduceAdd])) only [go_sem, e_go, e_cond_bool, e_w_bool, e_step_ite, e_reg_ite, e_regW_ite, e_code_ite, e_block_ite, e_evQ_ite, e_fin_ite, e_pair_ite, Tryz.f43, iNmR_eq, iRu6_eq, h0, hc, hr', cSp_eq]
        · simp (disch := first | assumption | omega | exact okR_new | exact okR_one | exact trivial | (simp only [lnA, lnC, lnN]; omega) | (simp only [lnA, lnC, lnN, Nat.reduceAdd])) only [go_sem, e_go, e_cond_bool, e_w_bool, e_step_ite, e_reg_ite, e_regW_ite, e_code_ite, e_block_ite, e_evQ_ite, e_fin_ite, e_pair_ite, Tryz.f43, iNmR_eq, iRu6_eq, h0, hc, cSp_eq]
          refine w_loop [2] [4] (fun k : Nat => i - k) (fun k => k ≤ i ∧ c.name ∉ ((s.conds.map Cd.name).take i).take k) (fun k => ⟨[.cells 0 (cSp s)], []⟩)
            (fun k => [(4, .int .i64 (k : Nat))]) 0 (fun _ => rfl) (by kernel_rfl) ⟨Nat.zero_le _, by simp⟩ (by simp [cSp_eq]) (by simp [HasE, lk]) ?_
          rintro k ⟨hk, hkn⟩
          by_cases hki : k < i
          · have hgk : s.conds[k]? = some (s.conds[k]'(by omega)) := by simp
            have hk0 := fl_get0 cCd_len hgk (by omega)
            simp only [cCd, List.getElem?_cons_zero] at hk0
            have hle2 : k * 2 + 2 ≤ s.conds.length * 2 := by omega
            have htk2 : ((s.conds.map Cd.name).take i).take (k + 1) = ((s.conds.map Cd.name).take i).take k ++ [(s.conds[k]'(by omega)).name] := by
              rw [List.take_succ_eq_append_getElem (by simp; omega)]; simp
            have hmk : (s.conds[k]'(by omega)).name ∈ (s.conds.map Cd.name).take i := List.mem_of_getElem? (i := k) (by rw [List.getElem?_take, if_pos hki, List.getElem?_map, hgk]; rfl)
            generalize s.conds[k]'(by omega) = d at *
            by_cases he : d.name = c.name
            · have hr' : rightS s = false := by
                have : diff (s.conds.map Cd.name) = false := hdp (by rw [hdn, ← he]; simp [hmk])
                rw [hr, this]; simp
              simp (disch := first | assumption | omega | exact okR_new | exact okR_one | exact trivial | (simp only [lnA, lnC, lnN]; omega) | (simp only [lnA, lnC, lnN, Nat.reduceAdd])) only [go_sem, e_go, e_cond_bool, e_w_bool, e_step_ite, e_reg_ite, e_regW_ite, e_code_ite, e_block_ite, e_evQ_ite, e_fin_ite, e_pair_ite, Tryz.f43, iNmR_eq, iRu6_eq, h0, hk0, he, hr', cSp_eq]
            · simp (disch := first | assumption | omega | exact okR_new | exact okR_one | exact trivial | (simp only [lnA, lnC, lnN]; omega) | (simp only [lnA, lnC, lnN, Nat.reduceAdd])) only [go_sem, e_go, e_cond_bool, e_w_bool, e_step_ite, e_reg_ite, e_regW_ite, e_code_ite, e_block_ite, e_evQ_ite, e_fin_ite, e_pair_ite, Tryz.f43, iNmR_eq, iRu6_eq, h0, hk0, he, cSp_eq]
              exact ⟨k + 1, dn hki, ⟨hki, by rw [htk2]; simp only [List.mem_append, List.mem_singleton, not_or]; exact ⟨hkn, fun e => he e.symm⟩⟩, by simp [cSp_eq], by simp [HasE, lk]⟩
          · have hk' : k = i := by omega
            subst hk'
            rw [List.take_of_length_le (by simp; omega)] at hkn
            simp (disch := first | assumption | omega | exact okR_new | exact okR_one | exact trivial | (simp only [lnA, lnC, lnN]; omega) | (simp only [lnA, lnC, lnN, Nat.reduceAdd])) only [go_sem, e_go, e_cond_bool, e_w_bool, e_step_ite, e_reg_ite, e_regW_ite, e_code_ite, e_block_ite, e_evQ_ite, e_fin_ite, e_pair_ite, Tryz.f43, iNmR_eq, iRu6_eq, cSp_eq]
            exact ⟨k + 1, dn h, ⟨h, by rw [htk]; intro d hd; rcases List.mem_append.1 hd with hd | hd; exact hq d hd; simp at hd; subst hd; exact hc, by rw [hdn, hdf]; simp only [Bool.true_and, Bool.not_eq_true', List.contains_eq_mem, decide_eq_false_iff_not]; exact hkn⟩, by simp [cSp_eq], by simp [HasE, lk]⟩
      · have hi' : i = s.conds.length := by omega
        subst hi'
        rw [List.take_of_length_le (by simp)] at hdf
        rw [List.take_length] at hq
        have hall : (s.conds.all fun c => nameB c.name) = true := List.all_eq_true.2 hq
        rw [hall, hdf, Bool.true_and, Bool.true_and] at hr
        simp (disch := first | assumption | omega | exact okR_new | exact okR_one | exact trivial | (simp only [lnA, lnC, lnN]; omega) | (simp only [lnA, lnC, lnN, Nat.reduceAdd])) only [go_sem, e_go, e_cond_bool, e_w_bool, e_step_ite, e_reg_ite, e_regW_ite, e_code_ite, e_block_ite, e_evQ_ite, e_fin_ite, e_pair_ite, Tryz.f43, iNmR_eq, iRu6_eq, cSp_eq]
        refine w_loop [2] [5] (fun i : Nat => s.rules.length - i) (fun i => i ≤ s.rules.length ∧ ∀ r ∈ s.rules.take i, ruleB s.conds.length r = true) (fun i => ⟨[.cells 0 (cSp s)], []⟩)
          (fun i => [(5, .int .i64 (i : Nat))]) 0 (fun _ => rfl) (by kernel_rfl) ⟨Nat.zero_le _, by simp⟩ (by simp [cSp_eq]) (by simp [HasE, lk]) ?_
        rintro i ⟨hi, hq⟩
        by_cases h : i < s.rules.length
        · have hg : s.rules[i]? = some s.rules[i] := by simp [h]
          have hat := fl_at cRu_len hg
          have hle : i * 22 + 22 ≤ s.rules.length * 22 := by omega
          have htk : s.rules.take (i + 1) = s.rules.take i ++ [s.rules[i]] := List.take_succ_eq_append_getElem h
          have hmem := List.getElem_mem h
          have hok : okRu s.rules[i] ∧ (1 : Int) ≤ s.conds.length := ⟨h'.ru _ hmem, by omega⟩
          generalize s.rules[i] = c at *
          cases hc : ruleB s.conds.length c
          · have hr' : rightS s = false := by rw [hr]; grind
            simp (disch := first | assumption | omega | exact okR_new | exact okR_one | exact trivial | (simp only [lnA, lnC, lnN]; omega) | (simp only [lnA, lnC, lnN, Nat.reduceAdd])) only [go_sem, e_go, e_cond_bool, e_w_bool, e_step_ite, e_reg_ite, e_regW_ite, e_code_ite, e_block_ite, e_evQ_ite, e_fin_ite, e_pair_ite, Tryz.f43, iNmR_eq, iRu6_eq, hat, hc, hr', cSp_eq]
          · simp (disch := first | assumption | omega | exact okR_new | exact okR_one | exact trivial | (simp only [lnA, lnC, lnN]; omega) | (simp only [lnA, lnC, lnN, Nat.reduceAdd])) only [go_sem, e_go, e_cond_bool, e_w_bool, e_step_ite, e_reg_ite, e_regW_ite, e_code_ite, e_block_ite, e_evQ_ite, e_fin_ite, e_pair_ite, Tryz.f43, iNmR_eq, iRu6_eq, hat, hc, cSp_eq]
            exact ⟨i + 1, dn h, ⟨h, by rw [htk]; intro d hd; rcases List.mem_append.1 hd with hd | hd; exact hq d hd; simp at hd; subst hd; exact hc⟩, by simp [cSp_eq], by simp [HasE, lk]⟩
        · have hi' : i = s.rules.length := by omega
          subst hi'
          rw [List.take_length] at hq
          have hr' : rightS s = true := by rw [hr]; exact List.all_eq_true.2 hq
          simp (disch := first | assumption | omega | exact okR_new | exact okR_one | exact trivial | (simp only [lnA, lnC, lnN]; omega) | (simp only [lnA, lnC, lnN, Nat.reduceAdd])) only [go_sem, e_go, e_cond_bool, e_w_bool, e_step_ite, e_reg_ite, e_regW_ite, e_code_ite, e_block_ite, e_evQ_ite, e_fin_ite, e_pair_ite, Tryz.f43, iNmR_eq, iRu6_eq, cSp_eq, hr']
    · have hr' : rightS s = false := by rw [hr]; grind
      have hnf : (decide (c0.name = [73, 78, 73, 84, 73, 65, 76]) && decide (c0.ex = false)) = false := by grind
      rw [hnf] at hn
      simp (disch := first | assumption | omega | exact okR_new | exact okR_one | exact trivial | (simp only [lnA, lnC, lnN]; omega) | (simp only [lnA, lnC, lnN, Nat.reduceAdd])) only [go_sem, e_go, e_cond_bool, e_w_bool, e_step_ite, e_reg_ite, e_regW_ite, e_code_ite, e_block_ite, e_evQ_ite, e_fin_ite, e_pair_ite, Tryz.f43, iNmR_eq, iRu6_eq, hat, hn, sV_cells, hr']
  · have hr : rightS s = false := by unfold rightS; grind
    by_cases hb1 : 1 ≤ s.conds.length ∧ s.conds.length ≤ 8
    · obtain ⟨hb1, hb2⟩ := hb1
      have hb3 : 40 < s.rules.length := by omega
      have hg : s.conds[0]? = some (s.conds.getD 0 ⟨[], false⟩) := by rw [List.getD_eq_getElem?_getD]; simp [show 0 < s.conds.length by omega]
      have hat := fl_at cCd_len hg
      simp only [Nat.zero_mul, List.drop_zero] at hat
      have hn := cd_neq (c := s.conds.getD 0 ⟨[], false⟩) (n := [73, 78, 73, 84, 73, 65, 76]) (b := false)
      generalize s.conds.getD 0 ⟨[], false⟩ = c0 at *
      cases hnf : (decide (c0.name = [73, 78, 73, 84, 73, 65, 76]) && decide (c0.ex = false)) <;> rw [hnf] at hn <;>
      simp (disch := first | assumption | omega | exact okR_new | exact okR_one | exact trivial | (simp only [lnA, lnC, lnN]; omega) | (simp only [lnA, lnC, lnN, Nat.reduceAdd])) only [go_sem, e_go, e_cond_bool, e_w_bool, e_step_ite, e_reg_ite, e_regW_ite, e_code_ite, e_block_ite, e_evQ_ite, e_fin_ite, e_pair_ite, Tryz.f43, iNmR_eq, iRu6_eq, hat, hn, sV_cells, hr]
    · (simp (disch := first | assumption | omega | exact okR_new | exact okR_one | exact trivial | (simp only [lnA, lnC, lnN]; omega) | (simp only [lnA, lnC, lnN, Nat.reduceAdd])) only [go_sem, e_bin_bool, Bool.true_and, Bool.and_true, Bool.false_and, Bool.and_false, Bool.true_or, Bool.or_true, Bool.false_or, Bool.or_false, Bool.not_eq_eq_eq_not, Bool.not_not, z_or, z_and, z_beq_t, z_beq_f, decide_eq_true_eq, decide_eq_false_iff_not, ite_not, Bool.not_eq_true', Bool.or_eq_true, Bool.and_eq_true, i_t, i_f, Tryz.f43, iNmR_eq, iRu6_eq, sV_cells] <;> (repeat' ((first | refine w_cond_cases ?_ ?_ | refine w_go_cases ?_ ?_ | refine w_pick_cases ?_ ?_) <;> intro hq <;> (try simp only [decide_eq_true_eq, decide_eq_false_iff_not, Bool.not_eq_true', Bool.not_eq_false', Bool.or_eq_true, Bool.and_eq_true, Bool.or_eq_false_iff, Bool.and_eq_false_iff, Bool.not_eq_eq_eq_not, Bool.not_true, Bool.not_false, Bool.not_not] at hq) <;> (first | simp (disch := first | assumption | omega | exact okR_new | exact okR_one | exact trivial | (simp only [lnA, lnC, lnN]; omega) | (simp only [lnA, lnC, lnN, Nat.reduceAdd])) only [show (_ : Bool) = true from hq, go_sem, e_bin_bool, Bool.true_and, Bool.and_true, Bool.false_and, Bool.and_false, Bool.true_or, Bool.or_true, Bool.false_or, Bool.or_false, Bool.not_eq_eq_eq_not, Bool.not_not, z_or, z_and, z_beq_t, z_beq_f, decide_eq_true_eq, decide_eq_false_iff_not, ite_not, Bool.not_eq_true', Bool.or_eq_true, Bool.and_eq_true, i_t, i_f, Tryz.f43, iNmR_eq, iRu6_eq, sV_cells] | simp (disch := first | assumption | omega | exact okR_new | exact okR_one | exact trivial | (simp only [lnA, lnC, lnN]; omega) | (simp only [lnA, lnC, lnN, Nat.reduceAdd])) only [show (_ : Bool) = false from hq, go_sem, e_bin_bool, Bool.true_and, Bool.and_true, Bool.false_and, Bool.and_false, Bool.true_or, Bool.or_true, Bool.false_or, Bool.or_false, Bool.not_eq_eq_eq_not, Bool.not_not, z_or, z_and, z_beq_t, z_beq_f, decide_eq_true_eq, decide_eq_false_iff_not, ite_not, Bool.not_eq_true', Bool.or_eq_true, Bool.and_eq_true, i_t, i_f, Tryz.f43, iNmR_eq, iRu6_eq, sV_cells] | simp (disch := first | assumption | omega | exact okR_new | exact okR_one | exact trivial | (simp only [lnA, lnC, lnN]; omega) | (simp only [lnA, lnC, lnN, Nat.reduceAdd])) only [go_sem, e_bin_bool, Bool.true_and, Bool.and_true, Bool.false_and, Bool.and_false, Bool.true_or, Bool.or_true, Bool.false_or, Bool.or_false, Bool.not_eq_eq_eq_not, Bool.not_not, z_or, z_and, z_beq_t, z_beq_f, decide_eq_true_eq, decide_eq_false_iff_not, ite_not, Bool.not_eq_true', Bool.or_eq_true, Bool.and_eq_true, i_t, i_f, Tryz.f43, iNmR_eq, iRu6_eq, sV_cells] | skip))))
      all_goals first | (rw [hr]) | (exfalso; omega)
noncomputable def iR6R : List AVal → Option AVal := pimp fun xs r => ∃ (u : Sp), (okSp u) ∧ xs = [sV u] ∧ r = .bool (rightS u)
theorem iR6R_eq {u : Sp} (h : okSp u) : iR6R [sV u] = some (.bool (rightS u)) := pimp_eq ⟨u, h, rfl, rfl⟩ (by rintro _ ⟨u', h', e, rfl⟩; have e0 := sV_inj h h' (List.cons.inj e).1; subst e0; rfl)
theorem iR6R_call : ∀ xs v, iR6R xs = some v → PCall Tryz.prog 43 xs v := fun xs v h0 => by obtain ⟨u, h, rfl, rfl⟩ := pimp_spec h0; exact w_Right6R u h
end Go.Hk.MZ
namespace Go.Hk.MZ
open Go.Proofs

theorem w_Act (s : Sp) (i c : Int) (h' : okSp s) : PCall Tryz.prog 36 [sV s, .int .i64 i, .int .i64 c] (.bool (activeS s i c)) := by
  have hl := h'.nc
  have hl2 := h'.nr
  have hcs := cSp_eq s
  refine PCall.of_w (fn := Tryz.f36) (Γ := gam [(23, .pure iCont)]) (mu := false) (Sound.pure iCont_call Sound.nil) mixed Tryz.func36 rfl (by kernel_rfl) (by simp) (by kernel_rfl) ?_
  by_cases hb : 0 ≤ i ∧ i < s.rules.length ∧ 0 ≤ c ∧ c < s.conds.length
  · obtain ⟨h1, h2, h3, h4⟩ := hb
    obtain ⟨k, rfl⟩ : ∃ k : Nat, i = (k : Nat) := ⟨i.toNat, by omega⟩
    obtain ⟨j, rfl⟩ : ∃ j : Nat, c = (j : Nat) := ⟨c.toNat, by omega⟩
    have hk : k < s.rules.length := by omega
    have hj : j < s.conds.length := by omega
    have hg : s.rules[k]? = some s.rules[k] := by simp [hk]
    have hgc : s.conds[j]? = some s.conds[j] := by simp [hj]
    have hat := fl_at cRu_len hg
    have hc1 := fl_get cCd_len hgc (j := 1) (by omega)
    simp only [cCd, List.getElem?_cons_zero, List.getElem?_cons_succ] at hc1
    have hle : k * 22 + 22 ≤ s.rules.length * 22 := by omega
    have hle2 : j * 2 + 2 ≤ s.conds.length * 2 := by omega
    have hor := (h'.ru _ (List.getElem_mem hk)).nc
    have ha : activeS s (k : Nat) (j : Nat) = (s.rules[k].all || s.rules[k].conds.any (fun a => decide (((j : Nat) : Int) = a)) || (decide (s.rules[k].conds.length = 0) && !s.conds[j].ex)) := by
      unfold activeS
      rw [if_pos ⟨h1, h2, h3, h4⟩]
      simp [List.getD_eq_getElem?_getD, hg, hgc]
    rw [ha]
    generalize s.rules[k] = r at *
    generalize s.conds[j] = d at *
    have hcr := cRu_eq r
    clear ha
    (simp (disch := first | assumption | omega | exact okR_new | exact okR_one | exact trivial | (simp only [lnA, lnC, lnN]; omega) | (simp only [lnA, lnC, lnN, Nat.reduceAdd])) only [go_sem, e_bin_bool, Bool.true_and, Bool.and_true, Bool.false_and, Bool.and_false, Bool.true_or, Bool.or_true, Bool.false_or, Bool.or_false, Bool.not_eq_eq_eq_not, Bool.not_not, z_or, z_and, z_beq_t, z_beq_f, decide_eq_true_eq, decide_eq_false_iff_not, ite_not, Bool.not_eq_true', Bool.or_eq_true, Bool.and_eq_true, i_t, i_f, Tryz.f36, iCont_eq, hcs, hat, hc1, hcr] <;> (repeat' ((first | refine w_cond_cases ?_ ?_ | refine w_go_cases ?_ ?_ | refine w_pick_cases ?_ ?_) <;> intro hq <;> (try simp only [decide_eq_true_eq, decide_eq_false_iff_not, Bool.not_eq_true', Bool.not_eq_false', Bool.or_eq_true, Bool.and_eq_true, Bool.or_eq_false_iff, Bool.and_eq_false_iff, Bool.not_eq_eq_eq_not, Bool.not_true, Bool.not_false, Bool.not_not] at hq) <;> (first | simp (disch := first | assumption | omega | exact okR_new | exact okR_one | exact trivial | (simp only [lnA, lnC, lnN]; omega) | (simp only [lnA, lnC, lnN, Nat.reduceAdd])) only [show (_ : Bool) = true from hq, go_sem, e_bin_bool, Bool.true_and, Bool.and_true, Bool.false_and, Bool.and_false, Bool.true_or, Bool.or_true, Bool.false_or, Bool.or_false, Bool.not_eq_eq_eq_not, Bool.not_not, z_or, z_and, z_beq_t, z_beq_f, decide_eq_true_eq, decide_eq_false_iff_not, ite_not, Bool.not_eq_true', Bool.or_eq_true, Bool.and_eq_true, i_t, i_f, Tryz.f36, iCont_eq, hcs, hat, hc1, hcr] | simp (disch := first | assumption | omega | exact okR_new | exact okR_one | exact trivial | (simp only [lnA, lnC, lnN]; omega) | (simp only [lnA, lnC, lnN, Nat.reduceAdd])) only [show (_ : Bool) = false from hq, go_sem, e_bin_bool, Bool.true_and, Bool.and_true, Bool.false_and, Bool.and_false, Bool.true_or, Bool.or_true, Bool.false_or, Bool.or_false, Bool.not_eq_eq_eq_not, Bool.not_not, z_or, z_and, z_beq_t, z_beq_f, decide_eq_true_eq, decide_eq_false_iff_not, ite_not, Bool.not_eq_true', Bool.or_eq_true, Bool.and_eq_true, i_t, i_f, Tryz.f36, iCont_eq, hcs, hat, hc1, hcr] | simp (disch := first | assumption | omega | exact okR_new | exact okR_one | exact trivial | (simp only [lnA, lnC, lnN]; omega) | (simp only [lnA, lnC, lnN, Nat.reduceAdd])) only [go_sem, e_bin_bool, Bool.true_and, Bool.and_true, Bool.false_and, Bool.and_false, Bool.true_or, Bool.or_true, Bool.false_or, Bool.or_false, Bool.not_eq_eq_eq_not, Bool.not_not, z_or, z_and, z_beq_t, z_beq_f, decide_eq_true_eq, decide_eq_false_iff_not, ite_not, Bool.not_eq_true', Bool.or_eq_true, Bool.and_eq_true, i_t, i_f, Tryz.f36, iCont_eq, hcs, hat, hc1, hcr] | skip))))
    all_goals (clear hcs hat hc1 hcr; grind)
  · have hf : activeS s i c = false := by unfold activeS; rw [if_neg hb]
    (simp (disch := first | assumption | omega | exact okR_new | exact okR_one | exact trivial | (simp only [lnA, lnC, lnN]; omega) | (simp only [lnA, lnC, lnN, Nat.reduceAdd])) only [go_sem, e_bin_bool, Bool.true_and, Bool.and_true, Bool.false_and, Bool.and_false, Bool.true_or, Bool.or_true, Bool.false_or, Bool.or_false, Bool.not_eq_eq_eq_not, Bool.not_not, z_or, z_and, z_beq_t, z_beq_f, decide_eq_true_eq, decide_eq_false_iff_not, ite_not, Bool.not_eq_true', Bool.or_eq_true, Bool.and_eq_true, i_t, i_f, Tryz.f36, iCont_eq, hcs] <;> (repeat' ((first | refine w_cond_cases ?_ ?_ | refine w_go_cases ?_ ?_ | refine w_pick_cases ?_ ?_) <;> intro hq <;> (try simp only [decide_eq_true_eq, decide_eq_false_iff_not, Bool.not_eq_true', Bool.not_eq_false', Bool.or_eq_true, Bool.and_eq_true, Bool.or_eq_false_iff, Bool.and_eq_false_iff, Bool.not_eq_eq_eq_not, Bool.not_true, Bool.not_false, Bool.not_not] at hq) <;> (first | simp (disch := first | assumption | omega | exact okR_new | exact okR_one | exact trivial | (simp only [lnA, lnC, lnN]; omega) | (simp only [lnA, lnC, lnN, Nat.reduceAdd])) only [show (_ : Bool) = true from hq, go_sem, e_bin_bool, Bool.true_and, Bool.and_true, Bool.false_and, Bool.and_false, Bool.true_or, Bool.or_true, Bool.false_or, Bool.or_false, Bool.not_eq_eq_eq_not, Bool.not_not, z_or, z_and, z_beq_t, z_beq_f, decide_eq_true_eq, decide_eq_false_iff_not, ite_not, Bool.not_eq_true', Bool.or_eq_true, Bool.and_eq_true, i_t, i_f, Tryz.f36, iCont_eq, hcs] | simp (disch := first | assumption | omega | exact okR_new | exact okR_one | exact trivial | (simp only [lnA, lnC, lnN]; omega) | (simp only [lnA, lnC, lnN, Nat.reduceAdd])) only [show (_ : Bool) = false from hq, go_sem, e_bin_bool, Bool.true_and, Bool.and_true, Bool.false_and, Bool.and_false, Bool.true_or, Bool.or_true, Bool.false_or, Bool.or_false, Bool.not_eq_eq_eq_not, Bool.not_not, z_or, z_and, z_beq_t, z_beq_f, decide_eq_true_eq, decide_eq_false_iff_not, ite_not, Bool.not_eq_true', Bool.or_eq_true, Bool.and_eq_true, i_t, i_f, Tryz.f36, iCont_eq, hcs] | simp (disch := first | assumption | omega | exact okR_new | exact okR_one | exact trivial | (simp only [lnA, lnC, lnN]; omega) | (simp only [lnA, lnC, lnN, Nat.reduceAdd])) only [go_sem, e_bin_bool, Bool.true_and, Bool.and_true, Bool.false_and, Bool.and_false, Bool.true_or, Bool.or_true, Bool.false_or, Bool.or_false, Bool.not_eq_eq_eq_not, Bool.not_not, z_or, z_and, z_beq_t, z_beq_f, decide_eq_true_eq, decide_eq_false_iff_not, ite_not, Bool.not_eq_true', Bool.or_eq_true, Bool.and_eq_true, i_t, i_f, Tryz.f36, iCont_eq, hcs] | skip))))
    all_goals first | (exfalso; grind) | rw [hf]
noncomputable def iAct : List AVal → Option AVal := pimp fun xs r => ∃ (u : Sp) (i : Int) (c : Int), (okSp u) ∧ xs = [sV u, .int .i64 i, .int .i64 c] ∧ r = .bool (activeS u i c)
theorem iAct_eq {u : Sp} {i : Int} {c : Int} (h : okSp u) : iAct [sV u, .int .i64 i, .int .i64 c] = some (.bool (activeS u i c)) := pimp_eq ⟨u, i, c, h, rfl, rfl⟩ (by rintro _ ⟨u', i', c', h', e, rfl⟩; have e0 := sV_inj h h' (List.cons.inj e).1; have e1 := (AVal.int.inj (List.cons.inj (List.cons.inj e).2).1).2; have e2 := (AVal.int.inj (List.cons.inj (List.cons.inj (List.cons.inj e).2).2).1).2; subst e0 e1 e2; rfl)
theorem iAct_call : ∀ xs v, iAct xs = some v → PCall Tryz.prog 36 xs v := fun xs v h0 => by obtain ⟨u, i, c, h, rfl, rfl⟩ := pimp_spec h0; exact w_Act u i c h
end Go.Hk.MZ
