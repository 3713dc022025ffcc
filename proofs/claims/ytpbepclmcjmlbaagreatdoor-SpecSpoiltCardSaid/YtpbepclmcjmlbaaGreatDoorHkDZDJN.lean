/- strings.Join. -/
import Derived.Test.YtpbepclmcjmlbaaGreatDoorHkDZDBLD
import Derived.Test.YtpbepclmcjmlbaaGreatDoorHkPg
set_option linter.unusedSimpArgs false
set_option linter.unusedVariables false
namespace Go.Hk.DZD
open Go.Proofs
theorem ti97 : tiOf Tryz.prog 97 = some { size := 1, bytes := 24, zero := some (.sl .nil 0 []), k := .slice 9 } := by kernel_rfl
attribute [go_sem] ti97
theorem w_Join (l : List (List UInt8)) (sep : List UInt8) (h : okJ sep l) : PCall Tryz.prog 61 [slc cS l, .str sep] (.str (joinS sep l)) := by
  obtain ⟨hl, hpos, hj⟩ := h
  match l, hl, hpos, hj with
  | [], _, _, _ =>
    refine PCall.of_w (fn := Tryz.f61) (Γ := gam [(28, .raw (iWS 67 5)), (29, .raw (iBS 67 5)), (76, .raw (iGr 67 5))]) (mu := false) (Sound.raw iWS_call (Sound.raw iBS_call (Sound.raw iGr_call Sound.nil))) mixed Tryz.func61 rfl (by kernel_rfl) (by simp) (by kernel_rfl) ?_
    simp (disch := first | assumption | omega | exact okR_new | exact okR_one | exact trivial | (simp only [List.length_append, List.length_cons, List.length_nil]; omega) | (simp only [List.length_append, List.length_cons, List.length_nil, Nat.reduceAdd])) only [go_sem, e_go, e_cond_bool, e_w_bool, e_step_ite, e_reg_ite, e_regW_ite, e_code_ite, e_block_ite, e_evQ_ite, e_fin_ite, e_pair_ite, Tryz.f61, iWS_eq, bld_new, bld_nil, bld_on, bld_on0, iBS_eq, bst_on, bst_nil, iGr_eq, gr_0, gr_on]
    rfl
  | [x], _, _, _ =>
    have e : joinS sep [x] = x := by simp [joinS, jt]
    rw [e]
    refine PCall.of_w (fn := Tryz.f61) (Γ := gam [(28, .raw (iWS 67 5)), (29, .raw (iBS 67 5)), (76, .raw (iGr 67 5))]) (mu := false) (Sound.raw iWS_call (Sound.raw iBS_call (Sound.raw iGr_call Sound.nil))) mixed Tryz.func61 rfl (by kernel_rfl) (by simp) (by kernel_rfl) ?_
    simp (disch := first | assumption | omega | exact okR_new | exact okR_one | exact trivial | (simp only [List.length_append, List.length_cons, List.length_nil]; omega) | (simp only [List.length_append, List.length_cons, List.length_nil, Nat.reduceAdd])) only [go_sem, e_go, e_cond_bool, e_w_bool, e_step_ite, e_reg_ite, e_regW_ite, e_code_ite, e_block_ite, e_evQ_ite, e_fin_ite, e_pair_ite, Tryz.f61, iWS_eq, bld_new, bld_nil, bld_on, bld_on0, iBS_eq, bst_on, bst_nil, iGr_eq, gr_0, gr_on, fl_one, cS]
  | x :: y :: r, hl, hpos, hj =>
    have hx := hpos x (by simp)
    have hlen : (joinS sep (x :: y :: r)).length = x.length + (sep.length * (y :: r).length + ssum (y :: r)) := by rw [joinS, List.length_append, jt_len]
    rw [hlen] at hj
    generalize hL : x :: y :: r = l at *
    have hll : l.length = (y :: r).length + 1 := by rw [← hL]; rfl
    have hl2 : 2 ≤ l.length := by rw [hll]; simp
    have hss : ssum l = x.length + ssum (y :: r) := by rw [← hL]; rfl
    have hml : ((sep.length : Nat) : Int) * ((l.length : Int) - 1) = ((sep.length * (y :: r).length : Nat) : Int) := by
      rw [hll]; simp
    have hq := quo_bd (n := (l.length : Int) - 1) (by omega) (by omega)
    have hr : joinS sep l = x ++ jt sep (y :: r) := by rw [← hL]; rfl
    have hfirst : (fl cS l)[0]? = some (.str x) := by rw [← hL]; rfl
    have hdrop : List.drop 1 (fl cS l) = fl cS (y :: r) := by rw [← hL]; rfl
    have hl1 : l.length - 1 = (y :: r).length := by omega
    have htk : List.take (y :: r).length (fl cS (y :: r)) = fl cS (y :: r) := List.take_of_length_le (by rw [l_n_cS]; exact Nat.le_refl _)
    have hjl := jt_len sep (y :: r)
    clear hL
    generalize y :: r = r' at *
    rw [hr]
    have hsl : sep.length < 1000000000 := by
      have := Nat.le_mul_of_pos_right sep.length (m := r'.length) (by omega)
      omega
    have hms : (sep.length * r'.length : Nat) < 1000000000 := by omega
    have e0 : ((sep.length * r'.length : Nat) : Int) = if 0 < sep.length then ((sep.length * r'.length : Nat) : Int) else 0 := by
      split
      · rfl
      · have : sep.length = 0 := by omega
        simp [this]
    by_cases hs : 0 < sep.length <;>
    · first | rw [if_pos hs] at e0 | rw [if_neg hs] at e0
      refine PCall.of_w (fn := Tryz.f61) (Γ := gam [(28, .raw (iWS 67 5)), (29, .raw (iBS 67 5)), (76, .raw (iGr 67 5))]) (mu := false) (Sound.raw iWS_call (Sound.raw iBS_call (Sound.raw iGr_call Sound.nil))) mixed Tryz.func61 rfl (by kernel_rfl) (by simp) (by kernel_rfl) ?_
      simp (disch := first | assumption | omega | exact okR_new | exact okR_one | exact trivial | (simp only [List.length_append, List.length_cons, List.length_nil]; omega) | (simp only [List.length_append, List.length_cons, List.length_nil, Nat.reduceAdd])) only [go_sem, e_go, e_cond_bool, e_w_bool, e_step_ite, e_reg_ite, e_regW_ite, e_code_ite, e_block_ite, e_evQ_ite, e_fin_ite, e_pair_ite, Tryz.f61, iWS_eq, bld_new, bld_nil, bld_on, bld_on0, iBS_eq, bst_on, bst_nil, iGr_eq, gr_0, gr_on, hml]
      refine w_loop [] [5, 41] (fun i : Nat => l.length - i) (fun i => i ≤ l.length) (fun i => ⟨[], []⟩)
        (fun i => [(5, .int .i64 ((sep.length * r'.length : Nat) + (ssum (l.take i) : Nat))), (41, .int .i64 (i : Nat))]) 0 (fun _ => rfl) (by kernel_rfl) (Nat.zero_le _) rfl (by simp [HasE, lk, ssum]; try omega) ?_
      intro i hi
      have hsi := ssum_le (l := l) (i := i)
      by_cases h : i < l.length
      · have hg : l[i]? = some l[i] := by simp [h]
        have hget := fl_get1 cS_len hg
        have hn := ssum_next hg
        have hsi2 := ssum_le (l := l) (i := i + 1)
        simp (disch := first | assumption | omega | exact okR_new | exact okR_one | exact trivial | (simp only [List.length_append, List.length_cons, List.length_nil]; omega) | (simp only [List.length_append, List.length_cons, List.length_nil, Nat.reduceAdd])) only [go_sem, e_go, e_cond_bool, e_w_bool, e_step_ite, e_reg_ite, e_regW_ite, e_code_ite, e_block_ite, e_evQ_ite, e_fin_ite, e_pair_ite, Tryz.f61, iWS_eq, bld_new, bld_nil, bld_on, bld_on0, iBS_eq, bst_on, bst_nil, iGr_eq, gr_0, gr_on, hget, cS]
        exact ⟨i + 1, dn h, h, rfl, by simp only [HasE, lk, hn]; simp; omega⟩
      · have hi' : i = l.length := by omega
        subst hi'
        rw [List.take_length] at *
        have hgrow : (0 : Int) < ((sep.length * r'.length : Nat) : Int) + (ssum l : Nat) := by omega
        simp (disch := first | assumption | omega | exact okR_new | exact okR_one | exact trivial | (simp only [List.length_append, List.length_cons, List.length_nil]; omega) | (simp only [List.length_append, List.length_cons, List.length_nil, Nat.reduceAdd])) only [go_sem, e_go, e_cond_bool, e_w_bool, e_step_ite, e_reg_ite, e_regW_ite, e_code_ite, e_block_ite, e_evQ_ite, e_fin_ite, e_pair_ite, Tryz.f61, iWS_eq, bld_new, bld_nil, bld_on, bld_on0, iBS_eq, bst_on, bst_nil, iGr_eq, gr_0, gr_on, hfirst, List.take_length, hdrop, hl1, htk]
        refine w_loop [] [65] (fun i : Nat => r'.length - i) (fun i => i ≤ r'.length) (fun i => ⟨[.cells 0 [.tpt 67 0 2, .sl (.tok 0) (x ++ jt sep (r'.take i)).length (fl cU (x ++ jt sep (r'.take i)))]], [((x ++ jt sep (r'.take i)).length, (1, 5))]⟩)
          (fun i => [(65, .int .i64 (i : Nat))]) 0 (fun _ => rfl) (by kernel_rfl) (Nat.zero_le _) (by simp [jt]) (by simp [HasE, lk]) ?_
        intro i hi
        have hsi := jt_take_le (sep := sep) (l := r') (i := i)
        by_cases h : i < r'.length
        · have hg : r'[i]? = some r'[i] := by simp [h]
          have hget := fl_get1 cS_len hg
          have hn := jt_next (sep := sep) hg
          have hsi2 := jt_take_le (sep := sep) (l := r') (i := i + 1)
          have hb1 : (x ++ jt sep (r'.take i)).length + sep.length < 1000000000 := by
            rw [hn] at hsi2
            simp only [List.length_append] at hsi2 ⊢
            omega
          have hb2 : (x ++ jt sep (r'.take i) ++ sep).length + r'[i].length < 1000000000 := by
            rw [hn] at hsi2
            simp only [List.length_append] at hsi2 ⊢
            omega
          simp (disch := first | assumption | omega | exact okR_new | exact okR_one | exact trivial | (simp only [List.length_append, List.length_cons, List.length_nil]; omega) | (simp only [List.length_append, List.length_cons, List.length_nil, Nat.reduceAdd])) only [go_sem, e_go, e_cond_bool, e_w_bool, e_step_ite, e_reg_ite, e_regW_ite, e_code_ite, e_block_ite, e_evQ_ite, e_fin_ite, e_pair_ite, Tryz.f61, iWS_eq, bld_new, bld_nil, bld_on, bld_on0, iBS_eq, bst_on, bst_nil, iGr_eq, gr_0, gr_on, hget, cS]
          exact ⟨i + 1, dn h, h, by simp only [hn, List.append_assoc], by simp [HasE, lk]⟩
        · have hi' : i = r'.length := by omega
          subst hi'
          rw [List.take_length] at *
          have hb1 : 0 < (x ++ jt sep r').length := by simp only [List.length_append]; omega
          have hb2 : (x ++ jt sep r').length < 1000000000 := by simp only [List.length_append]; omega
          simp (disch := first | assumption | omega | exact okR_new | exact okR_one | exact trivial | (simp only [List.length_append, List.length_cons, List.length_nil]; omega) | (simp only [List.length_append, List.length_cons, List.length_nil, Nat.reduceAdd])) only [go_sem, e_go, e_cond_bool, e_w_bool, e_step_ite, e_reg_ite, e_regW_ite, e_code_ite, e_block_ite, e_evQ_ite, e_fin_ite, e_pair_ite, Tryz.f61, iWS_eq, bld_new, bld_nil, bld_on, bld_on0, iBS_eq, bst_on, bst_nil, iGr_eq, gr_0, gr_on, List.take_length]
noncomputable def iJn : List AVal → Option AVal := pimp fun xs r => ∃ (l : List (List UInt8)) (sep : List UInt8), (okJ sep l) ∧ xs = [slc cS l, .str sep] ∧ r = .str (joinS sep l)
theorem iJn_eq {l : List (List UInt8)} {sep : List UInt8} (h : okJ sep l) : iJn [slc cS l, .str sep] = some (.str (joinS sep l)) := pimp_eq ⟨l, sep, h, rfl, rfl⟩ (by rintro _ ⟨l', sep', h', e, rfl⟩; have e0 := (List.cons.inj e).1; have e0r := (List.cons.inj e).2; have e1 := (List.cons.inj e0r).1; have e1r := (List.cons.inj e0r).2; have q0 := slc_inj cS_len (fun _ _ _ _ => cS_inj) e0; have q1 := AVal.str.inj e1; subst q0; subst q1; first | rfl | exact ⟨rfl, rfl⟩)
theorem iJn_call : ∀ xs v, iJn xs = some v → PCall Tryz.prog 61 xs v := fun xs v h0 => by obtain ⟨l, sep, h, rfl, rfl⟩ := pimp_spec h0; exact w_Join l sep h
end Go.Hk.DZD
