/- Layer 3: texts of patterns. -/
import Derived.Test.YtpbepclmcjmlbaaGreatDoorHkDZDR5
set_option linter.unusedSimpArgs false
set_option linter.unusedVariables false
namespace Go.Hk.DZD
open Go.Proofs
theorem ti2 : tiOf Tryz.prog 2 = some { size := 1, bytes := 8, zero := some (.int .i64 0), k := .int .i64 } := by kernel_rfl
attribute [go_sem] ti2
theorem ti123 : tiOf Tryz.prog 123 = some { size := 24, bytes := 24, zero := some (.agg [.int .u8 0, .int .u8 0, .int .u8 0, .int .u8 0, .int .u8 0, .int .u8 0, .int .u8 0, .int .u8 0, .int .u8 0, .int .u8 0, .int .u8 0, .int .u8 0, .int .u8 0, .int .u8 0, .int .u8 0, .int .u8 0, .int .u8 0, .int .u8 0, .int .u8 0, .int .u8 0, .int .u8 0, .int .u8 0, .int .u8 0, .int .u8 0]), k := .arr 24 5 } := by kernel_rfl
attribute [go_sem] ti123
noncomputable def iSml : List AVal → Option AVal := pimp fun xs r => ∃ (n : Int), (0 ≤ n ∧ n ≤ 20) ∧ xs = [.int .i64 n] ∧ r = .str (itoa n)
theorem iSml_eq {n : Int} (h : 0 ≤ n ∧ n ≤ 20) : iSml [.int .i64 n] = some (.str (itoa n)) := pimp_eq ⟨n, h, rfl, rfl⟩ (by rintro _ ⟨n', h', e, rfl⟩; have e0 := (List.cons.inj e).1; have e0r := (List.cons.inj e).2; have q0 := (AVal.int.inj e0).2; subst q0; first | rfl | exact ⟨rfl, rfl⟩)
theorem iSml_call : ∀ xs v, iSml xs = some v → PCall Tryz.prog 98 xs v := fun xs v h0 => by obtain ⟨n, h, rfl, rfl⟩ := pimp_spec h0; exact w_small n h
theorem w_Fmt (n : Int) (h : 0 ≤ n ∧ n ≤ 20) : PCall Tryz.prog 96 [.int .i64 n, .int .i64 10] (.str (itoa n)) := by
  refine PCall.of_w (fn := Tryz.f96) (Γ := gam [(98, .pure iSml)]) (mu := false) (Sound.pure iSml_call Sound.nil) mixed Tryz.func96 rfl (by kernel_rfl) (by simp) (by kernel_rfl) ?_
  simp (disch := first | assumption | omega | exact okR_new | exact okR_one | exact trivial | (simp only [List.length_append, List.length_cons, List.length_nil]; omega) | (simp only [List.length_append, List.length_cons, List.length_nil, Nat.reduceAdd])) only [go_sem, e_go, e_cond_bool, e_w_bool, e_step_ite, e_reg_ite, e_regW_ite, e_code_ite, e_block_ite, e_evQ_ite, e_fin_ite, e_pair_ite, Tryz.f96, iSml_eq]
noncomputable def iFmt : List AVal → Option AVal := pimp fun xs r => ∃ (n : Int), (0 ≤ n ∧ n ≤ 20) ∧ xs = [.int .i64 n, .int .i64 10] ∧ r = .str (itoa n)
theorem iFmt_eq {n : Int} (h : 0 ≤ n ∧ n ≤ 20) : iFmt [.int .i64 n, .int .i64 10] = some (.str (itoa n)) := pimp_eq ⟨n, h, rfl, rfl⟩ (by rintro _ ⟨n', h', e, rfl⟩; have e0 := (List.cons.inj e).1; have e0r := (List.cons.inj e).2; have e1 := (List.cons.inj e0r).1; have e1r := (List.cons.inj e0r).2; have q0 := (AVal.int.inj e0).2; subst q0; first | rfl | exact ⟨rfl, rfl⟩)
theorem iFmt_call : ∀ xs v, iFmt xs = some v → PCall Tryz.prog 96 xs v := fun xs v h0 => by obtain ⟨n, h, rfl, rfl⟩ := pimp_spec h0; exact w_Fmt n h
theorem w_Itoa0 (n : Int) (h : 0 ≤ n ∧ n ≤ 20) : PCall Tryz.prog 93 [.int .i64 n] (.str (itoa n)) := by
  refine PCall.of_w (fn := Tryz.f93) (Γ := gam [(96, .pure iFmt)]) (mu := false) (Sound.pure iFmt_call Sound.nil) mixed Tryz.func93 rfl (by kernel_rfl) (by simp) (by kernel_rfl) ?_
  simp (disch := first | assumption | omega | exact okR_new | exact okR_one | exact trivial | (simp only [List.length_append, List.length_cons, List.length_nil]; omega) | (simp only [List.length_append, List.length_cons, List.length_nil, Nat.reduceAdd])) only [go_sem, e_go, e_cond_bool, e_w_bool, e_step_ite, e_reg_ite, e_regW_ite, e_code_ite, e_block_ite, e_evQ_ite, e_fin_ite, e_pair_ite, Tryz.f93, iFmt_eq]
noncomputable def iIt0 : List AVal → Option AVal := pimp fun xs r => ∃ (n : Int), (0 ≤ n ∧ n ≤ 20) ∧ xs = [.int .i64 n] ∧ r = .str (itoa n)
theorem iIt0_eq {n : Int} (h : 0 ≤ n ∧ n ≤ 20) : iIt0 [.int .i64 n] = some (.str (itoa n)) := pimp_eq ⟨n, h, rfl, rfl⟩ (by rintro _ ⟨n', h', e, rfl⟩; have e0 := (List.cons.inj e).1; have e0r := (List.cons.inj e).2; have q0 := (AVal.int.inj e0).2; subst q0; first | rfl | exact ⟨rfl, rfl⟩)
theorem iIt0_call : ∀ xs v, iIt0 xs = some v → PCall Tryz.prog 93 xs v := fun xs v h0 => by obtain ⟨n, h, rfl, rfl⟩ := pimp_spec h0; exact w_Itoa0 n h
theorem w_Itoa (n : Int) (h : 0 ≤ n ∧ n ≤ 20) : PCall Tryz.prog 88 [.int .i64 n] (.str (itoa n)) := by
  refine PCall.of_w (fn := Tryz.f88) (Γ := gam [(93, .pure iIt0)]) (mu := false) (Sound.pure iIt0_call Sound.nil) mixed Tryz.func88 rfl (by kernel_rfl) (by simp) (by kernel_rfl) ?_
  simp (disch := first | assumption | omega | exact okR_new | exact okR_one | exact trivial | (simp only [List.length_append, List.length_cons, List.length_nil]; omega) | (simp only [List.length_append, List.length_cons, List.length_nil, Nat.reduceAdd])) only [go_sem, e_go, e_cond_bool, e_w_bool, e_step_ite, e_reg_ite, e_regW_ite, e_code_ite, e_block_ite, e_evQ_ite, e_fin_ite, e_pair_ite, Tryz.f88, iIt0_eq]
noncomputable def iIt : List AVal → Option AVal := pimp fun xs r => ∃ (n : Int), (0 ≤ n ∧ n ≤ 20) ∧ xs = [.int .i64 n] ∧ r = .str (itoa n)
theorem iIt_eq {n : Int} (h : 0 ≤ n ∧ n ≤ 20) : iIt [.int .i64 n] = some (.str (itoa n)) := pimp_eq ⟨n, h, rfl, rfl⟩ (by rintro _ ⟨n', h', e, rfl⟩; have e0 := (List.cons.inj e).1; have e0r := (List.cons.inj e).2; have q0 := (AVal.int.inj e0).2; subst q0; first | rfl | exact ⟨rfl, rfl⟩)
theorem iIt_call : ∀ xs v, iIt xs = some v → PCall Tryz.prog 88 xs v := fun xs v h0 => by obtain ⟨n, h, rfl, rfl⟩ := pimp_spec h0; exact w_Itoa n h
theorem w_Index (l : List Int) (n : Int) (hl : l.length < 9223372036854775808) : PCall Tryz.prog 48 [slc cI l, .int .i64 n] (.int .i64 (idx (fun a => decide (n = a)) l)) := by
  refine PCall.of_w (fn := Tryz.f48) (Γ := gam []) (mu := false) Sound.nil mixed Tryz.func48 rfl (by kernel_rfl) (by simp) (by kernel_rfl) ?_
  simp (disch := first | assumption | omega | exact okR_new | exact okR_one | exact trivial | (simp only [List.length_append, List.length_cons, List.length_nil]; omega) | (simp only [List.length_append, List.length_cons, List.length_nil, Nat.reduceAdd])) only [go_sem, e_go, e_cond_bool, e_w_bool, e_step_ite, e_reg_ite, e_regW_ite, e_code_ite, e_block_ite, e_evQ_ite, e_fin_ite, e_pair_ite, Tryz.f48]
  refine w_loop [4] [8] (fun i : Nat => l.length - i) (fun i => i ≤ l.length ∧ ∀ y ∈ l.take i, (fun a => decide (n = a)) y = false) (fun i => ⟨[], []⟩)
    (fun i => [(8, .int .i64 (i : Nat))]) 0 (fun _ => rfl) (by kernel_rfl) ⟨Nat.zero_le _, by simp⟩ rfl (by simp [HasE, lk]) ?_
  rintro i ⟨hi, hq⟩
  by_cases h : i < l.length
  · have hg : l[i]? = some l[i] := by simp [h]
    have hget := fl_get1 cI_len hg
    by_cases hp : n = l[i]
    · simp (disch := first | assumption | omega | exact okR_new | exact okR_one | exact trivial | (simp only [List.length_append, List.length_cons, List.length_nil]; omega) | (simp only [List.length_append, List.length_cons, List.length_nil, Nat.reduceAdd])) only [go_sem, e_go, e_cond_bool, e_w_bool, e_step_ite, e_reg_ite, e_regW_ite, e_code_ite, e_block_ite, e_evQ_ite, e_fin_ite, e_pair_ite, Tryz.f48, hget, cI]
      rw [idx_at hg hq (by simpa using hp)]
    · simp (disch := first | assumption | omega | exact okR_new | exact okR_one | exact trivial | (simp only [List.length_append, List.length_cons, List.length_nil]; omega) | (simp only [List.length_append, List.length_cons, List.length_nil, Nat.reduceAdd])) only [go_sem, e_go, e_cond_bool, e_w_bool, e_step_ite, e_reg_ite, e_regW_ite, e_code_ite, e_block_ite, e_evQ_ite, e_fin_ite, e_pair_ite, Tryz.f48, hget, cI]
      exact ⟨i + 1, dn h, ⟨h, upto_next hq hg (by simpa using hp)⟩, rfl, by simp [HasE, lk]⟩
  · have hi' : i = l.length := by omega
    subst hi'
    rw [List.take_length] at hq
    simp (disch := first | assumption | omega | exact okR_new | exact okR_one | exact trivial | (simp only [List.length_append, List.length_cons, List.length_nil]; omega) | (simp only [List.length_append, List.length_cons, List.length_nil, Nat.reduceAdd])) only [go_sem, e_go, e_cond_bool, e_w_bool, e_step_ite, e_reg_ite, e_regW_ite, e_code_ite, e_block_ite, e_evQ_ite, e_fin_ite, e_pair_ite, Tryz.f48]
    rw [idx_none hq]
noncomputable def iIx : List AVal → Option AVal := pimp fun xs r => ∃ (l : List Int) (n : Int), (l.length < 9223372036854775808) ∧ xs = [slc cI l, .int .i64 n] ∧ r = .int .i64 (idx (fun a => decide (n = a)) l)
theorem iIx_eq {l : List Int} {n : Int} (h : l.length < 9223372036854775808) : iIx [slc cI l, .int .i64 n] = some (.int .i64 (idx (fun a => decide (n = a)) l)) := pimp_eq ⟨l, n, h, rfl, rfl⟩ (by rintro _ ⟨l', n', h', e, rfl⟩; have e0 := (List.cons.inj e).1; have e0r := (List.cons.inj e).2; have e1 := (List.cons.inj e0r).1; have e1r := (List.cons.inj e0r).2; have q0 := slc_inj cI_len (fun _ _ _ _ => cI_inj) e0; have q1 := (AVal.int.inj e1).2; subst q0; subst q1; first | rfl | exact ⟨rfl, rfl⟩)
theorem iIx_call : ∀ xs v, iIx xs = some v → PCall Tryz.prog 48 xs v := fun xs v h0 => by obtain ⟨l, n, h, rfl, rfl⟩ := pimp_spec h0; exact w_Index l n h
theorem w_Contains (l : List Int) (n : Int) (hl : l.length < 9223372036854775808) : PCall Tryz.prog 30 [slc cI l, .int .i64 n] (.bool (l.any (fun a => decide (n = a)))) := by
  refine PCall.of_w (fn := Tryz.f30) (Γ := gam [(48, .pure iIx)]) (mu := false) (Sound.pure iIx_call Sound.nil) mixed Tryz.func30 rfl (by kernel_rfl) (by simp) (by kernel_rfl) ?_
  simp (disch := first | assumption | omega | exact okR_new | exact okR_one | exact trivial | (simp only [List.length_append, List.length_cons, List.length_nil]; omega) | (simp only [List.length_append, List.length_cons, List.length_nil, Nat.reduceAdd])) only [go_sem, e_go, e_cond_bool, e_w_bool, e_step_ite, e_reg_ite, e_regW_ite, e_code_ite, e_block_ite, e_evQ_ite, e_fin_ite, e_pair_ite, Tryz.f30, iIx_eq]
  rw [← idx_any]
noncomputable def iCn : List AVal → Option AVal := pimp fun xs r => ∃ (l : List Int) (n : Int), (l.length < 9223372036854775808) ∧ xs = [slc cI l, .int .i64 n] ∧ r = .bool (l.any (fun a => decide (n = a)))
theorem iCn_eq {l : List Int} {n : Int} (h : l.length < 9223372036854775808) : iCn [slc cI l, .int .i64 n] = some (.bool (l.any (fun a => decide (n = a)))) := pimp_eq ⟨l, n, h, rfl, rfl⟩ (by rintro _ ⟨l', n', h', e, rfl⟩; have e0 := (List.cons.inj e).1; have e0r := (List.cons.inj e).2; have e1 := (List.cons.inj e0r).1; have e1r := (List.cons.inj e0r).2; have q0 := slc_inj cI_len (fun _ _ _ _ => cI_inj) e0; have q1 := (AVal.int.inj e1).2; subst q0; subst q1; first | rfl | exact ⟨rfl, rfl⟩)
theorem iCn_call : ∀ xs v, iCn xs = some v → PCall Tryz.prog 30 xs v := fun xs v h0 => by obtain ⟨l, n, h, rfl, rfl⟩ := pimp_spec h0; exact w_Contains l n h
theorem cP_at0 {R : List (Int × Int)} {i : Nat} {p : Int × Int} (h : R[i]? = some p) : (fl cP R)[i * 2]? = some (.int .i64 p.1) := by rw [fl_get0 cP_len h (by decide)]; rfl
theorem cP_at1 {R : List (Int × Int)} {i : Nat} {p : Int × Int} (h : R[i]? = some p) : (fl cP R)[i * 2 + 1]? = some (.int .i64 p.2) := by rw [fl_get cP_len h (by decide)]; rfl
theorem cP_take {R : List (Int × Int)} {i : Nat} {p : Int × Int} (h : R[i]? = some p) : List.take 2 (List.drop (i * 2) (fl cP R)) = [.int .i64 p.1, .int .i64 p.2] := by rw [fl_at cP_len h]; rfl
theorem w_bytes (A : Nat) (hA : A < 2 ^ 256) : PCall Tryz.prog 87 [setV A] (.str (btext A)) := by
  have hrl := runsN_len A 256
  have hm : ∀ p ∈ runsN A 256, 0 ≤ p.1 ∧ p.1 ≤ p.2 ∧ p.2 < 256 := fun p hp => runs_lt hp
  have hbt := fun i => rT_take_len (A := A) (i := i)
  have hcase : ((runsN A 256).length = 1 ∧ ((runsN A 256).getD 0 (0, 0)).1 = ((runsN A 256).getD 0 (0, 0)).2) ∨ ((runsN A 256).length = 1 ∧ ¬ ((runsN A 256).getD 0 (0, 0)).1 = ((runsN A 256).getD 0 (0, 0)).2) ∨ ¬ (runsN A 256).length = 1 := by
    by_cases h1 : (runsN A 256).length = 1
    · by_cases h2 : ((runsN A 256).getD 0 (0, 0)).1 = ((runsN A 256).getD 0 (0, 0)).2
      · exact .inl ⟨h1, h2⟩
      · exact .inr (.inl ⟨h1, h2⟩)
    · exact .inr (.inr h1)
  have hg0 : (runsN A 256).length = 1 → (runsN A 256)[0]? = some ((runsN A 256).getD 0 (0, 0)) := fun h => by rw [List.getD_eq_getElem?_getD]; simp [h]
  unfold btext
  refine PCall.of_w (fn := Tryz.f87) (Γ := gam [(28, .raw (iWS 67 5)), (29, .raw (iBS 67 5)), (90, .pure iRuns), (91, .pure iCh), (92, .raw (iWB 67 5))]) (mu := false) (Sound.raw iWS_call (Sound.raw iBS_call (Sound.pure iRuns_call (Sound.pure iCh_call (Sound.raw iWB_call Sound.nil))))) mixed Tryz.func87 rfl (by kernel_rfl) (by simp) (by kernel_rfl) ?_
  rcases hcase with ⟨h1, h2⟩ | ⟨h1, h2⟩ | h1
  · rw [if_pos ⟨h1, h2⟩]
    have hg := hg0 h1
    have hp := hm _ (List.mem_of_getElem? hg)
    have ha := cP_at0 hg
    have hb := cP_at1 hg
    simp only [Nat.zero_mul, Nat.zero_add] at ha hb
    rw [← h2] at hb
    generalize hR : runsN A 256 = R at *
    simp (disch := first | assumption | omega | exact okR_new | exact okR_one | exact trivial | (simp only [List.length_append, List.length_cons, List.length_nil]; omega) | (simp only [List.length_append, List.length_cons, List.length_nil, Nat.reduceAdd])) only [go_sem, e_go, e_cond_bool, e_w_bool, e_step_ite, e_reg_ite, e_regW_ite, e_code_ite, e_block_ite, e_evQ_ite, e_fin_ite, e_pair_ite, Tryz.f87, iWS_eq, bld_new, bld_nil, bld_on, bld_on0, iBS_eq, bst_on, bst_nil, iRuns_eq, iCh_eq, iWB_eq, bld_new, bld_nil, bld_on, bld_on0, hR, ha, hb, h1]
  all_goals
    rw [if_neg (fun h => by first | exact h1 h.1 | exact h2 h.2)]
    first
      | have hg := hg0 h1
        have hp := hm _ (List.mem_of_getElem? hg)
        have ha := cP_at0 hg
        have hb := cP_at1 hg
        simp only [Nat.zero_mul, Nat.zero_add] at ha hb
        have h2' : ¬ ((runsN A 256).getD 0 (0, 0)).1 = ((runsN A 256).getD 0 (0, 0)).2 := h2
        generalize hR : runsN A 256 = R at *
        simp (disch := first | assumption | omega | exact okR_new | exact okR_one | exact trivial | (simp only [List.length_append, List.length_cons, List.length_nil]; omega) | (simp only [List.length_append, List.length_cons, List.length_nil, Nat.reduceAdd])) only [go_sem, e_go, e_cond_bool, e_w_bool, e_step_ite, e_reg_ite, e_regW_ite, e_code_ite, e_block_ite, e_evQ_ite, e_fin_ite, e_pair_ite, Tryz.f87, iWS_eq, bld_new, bld_nil, bld_on, bld_on0, iBS_eq, bst_on, bst_nil, iRuns_eq, iCh_eq, iWB_eq, bld_new, bld_nil, bld_on, bld_on0, hR, ha, hb, h1]
      | generalize hR : runsN A 256 = R at *
        simp (disch := first | assumption | omega | exact okR_new | exact okR_one | exact trivial | (simp only [List.length_append, List.length_cons, List.length_nil]; omega) | (simp only [List.length_append, List.length_cons, List.length_nil, Nat.reduceAdd])) only [go_sem, e_go, e_cond_bool, e_w_bool, e_step_ite, e_reg_ite, e_regW_ite, e_code_ite, e_block_ite, e_evQ_ite, e_fin_ite, e_pair_ite, Tryz.f87, iWS_eq, bld_new, bld_nil, bld_on, bld_on0, iBS_eq, bst_on, bst_nil, iRuns_eq, iCh_eq, iWB_eq, bld_new, bld_nil, bld_on, bld_on0, hR]
    refine w_loopc [] [31] (fun i : Nat => R.length - i) (fun i => i ≤ R.length) (fun i => ⟨[.cells 0 (setL A), .cells 0 [.tpt 67 1 2, .sl (.tok 0) ([91] ++ rT (R.take i)).length (fl cU ([91] ++ rT (R.take i)))]], [(([91] ++ rT (R.take i)).length, (1, 5))]⟩)
      (fun i => [(31, .int .i64 (i : Nat))]) 0 (fun _ => rfl) (by kernel_rfl) (Nat.zero_le _) ⟨[], [], by simp [rT]⟩ (by simp [HasE, lk]) ?_ ?_
    · intro i hi
      simp (disch := assumption) [cloE, clo, cloL, cloB, c_Rno, c_Rfull, c_append, c_flP, c_setL, c_set, cloL_strip _ _ l_s_cU, cloR]
    intro i hi
    have hbi := hbt i

    by_cases h : i < R.length
    · have hg : R[i]? = some R[i] := by simp [h]
      have hp := hm _ (List.getElem_mem h)
      have hat := cP_take hg
      have hle : i * 2 + 2 ≤ R.length * 2 := by omega
      have hc1 := charI_len R[i].1
      have hc2 := charI_len R[i].2
      have hn := rT_next hg
      by_cases hlt : R[i].1 < R[i].2
      · simp (disch := first | assumption | omega | exact okR_new | exact okR_one | exact trivial | (simp only [List.length_append, List.length_cons, List.length_nil]; omega) | (simp only [List.length_append, List.length_cons, List.length_nil, Nat.reduceAdd])) only [go_sem, e_go, e_cond_bool, e_w_bool, e_step_ite, e_reg_ite, e_regW_ite, e_code_ite, e_block_ite, e_evQ_ite, e_fin_ite, e_pair_ite, Tryz.f87, iWS_eq, bld_new, bld_nil, bld_on, bld_on0, iBS_eq, bst_on, bst_nil, iRuns_eq, iCh_eq, iWB_eq, bld_new, bld_nil, bld_on, bld_on0, hat]
        exact ⟨i + 1, dn h, h, ⟨[_], [], by simp [hn, runT, hlt]; rfl⟩, by simp [HasE, lk]⟩
      · simp (disch := first | assumption | omega | exact okR_new | exact okR_one | exact trivial | (simp only [List.length_append, List.length_cons, List.length_nil]; omega) | (simp only [List.length_append, List.length_cons, List.length_nil, Nat.reduceAdd])) only [go_sem, e_go, e_cond_bool, e_w_bool, e_step_ite, e_reg_ite, e_regW_ite, e_code_ite, e_block_ite, e_evQ_ite, e_fin_ite, e_pair_ite, Tryz.f87, iWS_eq, bld_new, bld_nil, bld_on, bld_on0, iBS_eq, bst_on, bst_nil, iRuns_eq, iCh_eq, iWB_eq, bld_new, bld_nil, bld_on, bld_on0, hat]
        exact ⟨i + 1, dn h, h, ⟨[_], [], by simp [hn, runT, hlt]; rfl⟩, by simp [HasE, lk]⟩
    · have hi' : i = R.length := by omega
      subst hi'
      rw [List.take_length] at *
      simp (disch := first | assumption | omega | exact okR_new | exact okR_one | exact trivial | (simp only [List.length_append, List.length_cons, List.length_nil]; omega) | (simp only [List.length_append, List.length_cons, List.length_nil, Nat.reduceAdd])) only [go_sem, e_go, e_cond_bool, e_w_bool, e_step_ite, e_reg_ite, e_regW_ite, e_code_ite, e_block_ite, e_evQ_ite, e_fin_ite, e_pair_ite, Tryz.f87, iWS_eq, bld_new, bld_nil, bld_on, bld_on0, iBS_eq, bst_on, bst_nil, iRuns_eq, iCh_eq, iWB_eq, bld_new, bld_nil, bld_on, bld_on0, List.take_length]
      rfl
noncomputable def iBy : List AVal → Option AVal := pimp fun xs r => ∃ (A : Nat), (A < 2 ^ 256) ∧ xs = [setV A] ∧ r = .str (btext A)
theorem iBy_eq {A : Nat} (h : A < 2 ^ 256) : iBy [setV A] = some (.str (btext A)) := pimp_eq ⟨A, h, rfl, rfl⟩ (by rintro _ ⟨A', h', e, rfl⟩; have e0 := (List.cons.inj e).1; have e0r := (List.cons.inj e).2; have q0 := setV_inj (by first | assumption | exact h | exact h.1 | exact h.1.1 | exact h.1.1.1 | exact h.2 | exact h.2.1 | exact h.2.2 | exact h.2.2.1) (by first | assumption | exact h' | exact h'.1 | exact h'.1.1 | exact h'.1.1.1 | exact h'.2 | exact h'.2.1 | exact h'.2.2 | exact h'.2.2.1) e0; subst q0; first | rfl | exact ⟨rfl, rfl⟩)
theorem iBy_call : ∀ xs v, iBy xs = some v → PCall Tryz.prog 87 xs v := fun xs v h0 => by obtain ⟨A, h, rfl, rfl⟩ := pimp_spec h0; exact w_bytes A h
theorem w_bytesR (A : Nat) (hA : A < 2 ^ 256) : PCall Tryz.prog 66 [setV A] (.str (btext A)) := by
  have hrl := runsN_len A 256
  have hm : ∀ p ∈ runsN A 256, 0 ≤ p.1 ∧ p.1 ≤ p.2 ∧ p.2 < 256 := fun p hp => runs_lt hp
  have hbt := fun i => rT_take_len (A := A) (i := i)
  have hcase : ((runsN A 256).length = 1 ∧ ((runsN A 256).getD 0 (0, 0)).1 = ((runsN A 256).getD 0 (0, 0)).2) ∨ ((runsN A 256).length = 1 ∧ ¬ ((runsN A 256).getD 0 (0, 0)).1 = ((runsN A 256).getD 0 (0, 0)).2) ∨ ¬ (runsN A 256).length = 1 := by
    by_cases h1 : (runsN A 256).length = 1
    · by_cases h2 : ((runsN A 256).getD 0 (0, 0)).1 = ((runsN A 256).getD 0 (0, 0)).2
      · exact .inl ⟨h1, h2⟩
      · exact .inr (.inl ⟨h1, h2⟩)
    · exact .inr (.inr h1)
  have hg0 : (runsN A 256).length = 1 → (runsN A 256)[0]? = some ((runsN A 256).getD 0 (0, 0)) := fun h => by rw [List.getD_eq_getElem?_getD]; simp [h]
  unfold btext
  refine PCall.of_w (fn := Tryz.f66) (Γ := gam [(78, .pure iRuns'), (79, .pure iChR)]) (mu := false) (Sound.pure iRuns'_call (Sound.pure iChR_call Sound.nil)) mixed Tryz.func66 rfl (by kernel_rfl) (by simp) (by kernel_rfl) ?_
  rcases hcase with ⟨h1, h2⟩ | ⟨h1, h2⟩ | h1
  · rw [if_pos ⟨h1, h2⟩]
    have hg := hg0 h1
    have hp := hm _ (List.mem_of_getElem? hg)
    have ha := cP_at0 hg
    have hb := cP_at1 hg
    simp only [Nat.zero_mul, Nat.zero_add] at ha hb
    rw [← h2] at hb
    generalize hR : runsN A 256 = R at *
    simp (disch := first | assumption | omega | exact okR_new | exact okR_one | exact trivial | (simp only [List.length_append, List.length_cons, List.length_nil]; omega) | (simp only [List.length_append, List.length_cons, List.length_nil, Nat.reduceAdd])) only [go_sem, e_go, e_cond_bool, e_w_bool, e_step_ite, e_reg_ite, e_regW_ite, e_code_ite, e_block_ite, e_evQ_ite, e_fin_ite, e_pair_ite, Tryz.f66, iRuns'_eq, iChR_eq, hR, ha, hb, h1]
  all_goals
    rw [if_neg (fun h => by first | exact h1 h.1 | exact h2 h.2)]
    first
      | have hg := hg0 h1
        have hp := hm _ (List.mem_of_getElem? hg)
        have ha := cP_at0 hg
        have hb := cP_at1 hg
        simp only [Nat.zero_mul, Nat.zero_add] at ha hb
        have h2' : ¬ ((runsN A 256).getD 0 (0, 0)).1 = ((runsN A 256).getD 0 (0, 0)).2 := h2
        generalize hR : runsN A 256 = R at *
        simp (disch := first | assumption | omega | exact okR_new | exact okR_one | exact trivial | (simp only [List.length_append, List.length_cons, List.length_nil]; omega) | (simp only [List.length_append, List.length_cons, List.length_nil, Nat.reduceAdd])) only [go_sem, e_go, e_cond_bool, e_w_bool, e_step_ite, e_reg_ite, e_regW_ite, e_code_ite, e_block_ite, e_evQ_ite, e_fin_ite, e_pair_ite, Tryz.f66, iRuns'_eq, iChR_eq, hR, ha, hb, h1]
      | generalize hR : runsN A 256 = R at *
        simp (disch := first | assumption | omega | exact okR_new | exact okR_one | exact trivial | (simp only [List.length_append, List.length_cons, List.length_nil]; omega) | (simp only [List.length_append, List.length_cons, List.length_nil, Nat.reduceAdd])) only [go_sem, e_go, e_cond_bool, e_w_bool, e_step_ite, e_reg_ite, e_regW_ite, e_code_ite, e_block_ite, e_evQ_ite, e_fin_ite, e_pair_ite, Tryz.f66, iRuns'_eq, iChR_eq, hR]
    refine w_loop [] [4, 5] (fun i : Nat => R.length - i) (fun i => i ≤ R.length) (fun i => ⟨[.cells 0 (setL A)], []⟩)
      (fun i => [(4, .str ([91] ++ rT (R.take i))), (5, .int .i64 (i : Nat))]) 0 (fun _ => rfl) (by kernel_rfl) (Nat.zero_le _) rfl (by simp [HasE, lk, rT]) ?_
    intro i hi
    have hbi := hbt i
    by_cases h : i < R.length
    · have hg : R[i]? = some R[i] := by simp [h]
      have hp := hm _ (List.getElem_mem h)
      have ha := cP_at0 hg
      have hb := cP_at1 hg
      have hle : i * 2 + 2 ≤ R.length * 2 := by omega
      have hc1 := charI_len R[i].1
      have hc2 := charI_len R[i].2
      have hn := rT_next hg
      by_cases hlt : R[i].1 < R[i].2
      · simp (disch := first | assumption | omega | exact okR_new | exact okR_one | exact trivial | (simp only [List.length_append, List.length_cons, List.length_nil]; omega) | (simp only [List.length_append, List.length_cons, List.length_nil, Nat.reduceAdd])) only [go_sem, e_go, e_cond_bool, e_w_bool, e_step_ite, e_reg_ite, e_regW_ite, e_code_ite, e_block_ite, e_evQ_ite, e_fin_ite, e_pair_ite, Tryz.f66, iRuns'_eq, iChR_eq, ha, hb]
        exact ⟨i + 1, dn h, h, rfl, by simp [HasE, lk, hn, runT, hlt]⟩
      · simp (disch := first | assumption | omega | exact okR_new | exact okR_one | exact trivial | (simp only [List.length_append, List.length_cons, List.length_nil]; omega) | (simp only [List.length_append, List.length_cons, List.length_nil, Nat.reduceAdd])) only [go_sem, e_go, e_cond_bool, e_w_bool, e_step_ite, e_reg_ite, e_regW_ite, e_code_ite, e_block_ite, e_evQ_ite, e_fin_ite, e_pair_ite, Tryz.f66, iRuns'_eq, iChR_eq, ha, hb]
        exact ⟨i + 1, dn h, h, rfl, by simp [HasE, lk, hn, runT, hlt]⟩
    · have hi' : i = R.length := by omega
      subst hi'
      rw [List.take_length] at *
      simp (disch := first | assumption | omega | exact okR_new | exact okR_one | exact trivial | (simp only [List.length_append, List.length_cons, List.length_nil]; omega) | (simp only [List.length_append, List.length_cons, List.length_nil, Nat.reduceAdd])) only [go_sem, e_go, e_cond_bool, e_w_bool, e_step_ite, e_reg_ite, e_regW_ite, e_code_ite, e_block_ite, e_evQ_ite, e_fin_ite, e_pair_ite, Tryz.f66, iRuns'_eq, iChR_eq, List.take_length]
      try rfl
noncomputable def iByR : List AVal → Option AVal := pimp fun xs r => ∃ (A : Nat), (A < 2 ^ 256) ∧ xs = [setV A] ∧ r = .str (btext A)
theorem iByR_eq {A : Nat} (h : A < 2 ^ 256) : iByR [setV A] = some (.str (btext A)) := pimp_eq ⟨A, h, rfl, rfl⟩ (by rintro _ ⟨A', h', e, rfl⟩; have e0 := (List.cons.inj e).1; have e0r := (List.cons.inj e).2; have q0 := setV_inj (by first | assumption | exact h | exact h.1 | exact h.1.1 | exact h.1.1.1 | exact h.2 | exact h.2.1 | exact h.2.2 | exact h.2.2.1) (by first | assumption | exact h' | exact h'.1 | exact h'.1.1 | exact h'.1.1.1 | exact h'.2 | exact h'.2.1 | exact h'.2.2 | exact h'.2.2.1) e0; subst q0; first | rfl | exact ⟨rfl, rfl⟩)
theorem iByR_call : ∀ xs v, iByR xs = some v → PCall Tryz.prog 66 xs v := fun xs v h0 => by obtain ⟨A, h, rfl, rfl⟩ := pimp_spec h0; exact w_bytesR A h
theorem w_Dig1 (n : Nat) (h : n < 10) : PCall Tryz.prog 68 [.int .i64 (n : Nat)] (.str (itoa n)) := by
  have hm : ((n : Nat) : Int).tmod 10 = (n : Nat) := by rw [Int.tmod_eq_emod_of_nonneg (by omega)]; omega
  have hi : itoa (n : Nat) = [UInt8.ofNat (48 + n)] := by unfold itoa; rw [if_pos (by omega)]; simp
  have e : (48 + (n : Int)).toNat = 48 + n := by omega
  rw [hi]
  refine PCall.of_w (fn := Tryz.f68) (Γ := gam []) (mu := false) Sound.nil mixed Tryz.func68 rfl (by kernel_rfl) (by simp) (by kernel_rfl) ?_
  simp (disch := first | assumption | omega | exact okR_new | exact okR_one | exact trivial | (simp only [List.length_append, List.length_cons, List.length_nil]; omega) | (simp only [List.length_append, List.length_cons, List.length_nil, Nat.reduceAdd])) only [go_sem, e_go, e_cond_bool, e_w_bool, e_step_ite, e_reg_ite, e_regW_ite, e_code_ite, e_block_ite, e_evQ_ite, e_fin_ite, e_pair_ite, Tryz.f68, bU1, hm, e]
noncomputable def iDg1 : List AVal → Option AVal := pimp fun xs r => ∃ n : Nat, n < 10 ∧ xs = [.int .i64 (n : Nat)] ∧ r = .str (itoa n)
theorem iDg1_eq {n : Nat} (h : n < 10) : iDg1 [.int .i64 (n : Nat)] = some (.str (itoa n)) := pimp_eq ⟨n, h, rfl, rfl⟩ (by
  rintro _ ⟨m, hm, e, rfl⟩
  have := (AVal.int.inj (List.cons.inj e).1).2
  have e2 : m = n := by omega
  rw [e2])
theorem iDg1_call : ∀ xs v, iDg1 xs = some v → PCall Tryz.prog 68 xs v := fun xs v h0 => by obtain ⟨n, h, rfl, rfl⟩ := pimp_spec h0; exact w_Dig1 n h

theorem w_Dig (n : Int) (h : 0 ≤ n ∧ n ≤ 20) : PCall Tryz.prog 68 [.int .i64 n] (.str (itoa n)) := by
  obtain ⟨k, rfl⟩ := Int.eq_ofNat_of_zero_le h.1
  by_cases h10 : k < 10
  · exact w_Dig1 k h10
  · have hm : ((k : Nat) : Int).tmod 10 = ((k % 10 : Nat) : Int) := by rw [Int.tmod_eq_emod_of_nonneg (by omega)]; rfl
    have hd : ((k : Nat) : Int).tdiv 10 = ((k / 10 : Nat) : Int) := by rw [Int.tdiv_eq_ediv_of_nonneg (by omega)]; rfl
    have hk : k / 10 < 10 := by omega
    have hi : itoa (k : Nat) = itoa ((k / 10 : Nat) : Int) ++ [UInt8.ofNat (48 + k % 10)] := by
      unfold itoa
      have e : ((k / 10 : Nat) : Int).toNat = k / 10 := by omega
      have e2 : ((k : Nat) : Int).toNat = k := by omega
      rw [if_neg (by omega), if_pos (by omega), e, e2]; rfl
    have e : (48 + ((k % 10 : Nat) : Int)).toNat = 48 + k % 10 := by omega
    have hl := (@itoa_len ((k / 10 : Nat) : Int)).2
    rw [hi]
    refine PCall.of_w (fn := Tryz.f68) (Γ := gam [(68, .pure iDg1)]) (mu := false) (Sound.pure iDg1_call Sound.nil) mixed Tryz.func68 rfl (by kernel_rfl) (by simp) (by kernel_rfl) ?_
    simp (disch := first | assumption | omega | exact okR_new | exact okR_one | exact trivial | (simp only [List.length_append, List.length_cons, List.length_nil]; omega) | (simp only [List.length_append, List.length_cons, List.length_nil, Nat.reduceAdd])) only [go_sem, e_go, e_cond_bool, e_w_bool, e_step_ite, e_reg_ite, e_regW_ite, e_code_ite, e_block_ite, e_evQ_ite, e_fin_ite, e_pair_ite, Tryz.f68, iDg1_eq, bU1, hm, hd, e]
noncomputable def iDg : List AVal → Option AVal := pimp fun xs r => ∃ (n : Int), (0 ≤ n ∧ n ≤ 20) ∧ xs = [.int .i64 n] ∧ r = .str (itoa n)
theorem iDg_eq {n : Int} (h : 0 ≤ n ∧ n ≤ 20) : iDg [.int .i64 n] = some (.str (itoa n)) := pimp_eq ⟨n, h, rfl, rfl⟩ (by rintro _ ⟨n', h', e, rfl⟩; have e0 := (List.cons.inj e).1; have e0r := (List.cons.inj e).2; have q0 := (AVal.int.inj e0).2; subst q0; first | rfl | exact ⟨rfl, rfl⟩)
theorem iDg_call : ∀ xs v, iDg xs = some v → PCall Tryz.prog 68 xs v := fun xs v h0 => by obtain ⟨n, h, rfl, rfl⟩ := pimp_spec h0; exact w_Dig n h
end Go.Hk.DZD
