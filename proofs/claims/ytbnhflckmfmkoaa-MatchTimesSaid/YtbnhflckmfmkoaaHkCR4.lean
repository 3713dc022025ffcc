/- Layer 3: which patterns are the same; which match nothing. -/
import Derived.Test.YtbnhflckmfmkoaaHkCR3
set_option linter.unusedSimpArgs false
set_option linter.unusedVariables false
namespace Go.Hk.C
open Go.Proofs

theorem null_right {x : Rx} (h : inR x) : (x.k = 2 ∨ x.k = 1 ∨ x.k = 3 ∨ x.k = 4 ∨ x.k = 5 ∧ 0 ≤ x.lo) := by
  rcases h.cases with h | h | h | h
  · omega
  · omega
  · omega
  · obtain ⟨h5, _, ht, _⟩ := h
    unfold times at ht
    simp only [Bool.and_eq_true, decide_eq_true_eq] at ht
    omega
noncomputable def iNr' (n : Nat) : List AVal → Option AVal := pimp fun xs r => ∃ (x : Rx), ((okX x ∧ inR x) ∧ sz x < n) ∧ xs = [rV x] ∧ r = .bool (null x)
theorem iNr'_eq {n : Nat} {x : Rx} (h0 : (okX x ∧ inR x) ∧ sz x < n) : iNr' n [rV x] = some (.bool (null x)) := by
  have h := h0.1
  refine pimp_eq ⟨x, h0, rfl, rfl⟩ ?_
  rintro _ ⟨x', h0', e, rfl⟩
  have h' := h0'.1
  have e0 := (List.cons.inj e).1; have e0r := (List.cons.inj e).2; have q0 := rV_inj (by first | assumption | exact h | exact h.1 | exact h.1.1 | exact h.1.1.1 | exact h.2 | exact h.2.1 | exact h.2.2 | exact h.2.2.1) (by first | assumption | exact h' | exact h'.1 | exact h'.1.1 | exact h'.1.1.1 | exact h'.2 | exact h'.2.1 | exact h'.2.2 | exact h'.2.2.1) e0; subst q0; first | rfl | exact ⟨rfl, rfl⟩
theorem w_NullR (n : Nat) (ih_iNr' : ∀ xs v, iNr' n xs = some v → PCall Try.prog 14 xs v) (x : Rx) (h : okX x ∧ inR x) (hn : sz x ≤ n) : PCall Try.prog 14 [rV x] (.bool (null x)) := by
  obtain ⟨hx, hr⟩ := h
  have hc := cR_eq x
  have hl := hx.len
  have hk := null_right hr
  rw [null_eq]
  refine PCall.of_w (fn := Try.f14) (Γ := gam [(14, .pure (iNr' n))]) (mu := false) (Sound.pure ih_iNr' Sound.nil) mixed Try.func14 rfl (by kernel_rfl) (by simp) (by kernel_rfl) ?_
  simp (disch := first | assumption | omega | exact okR_new | exact okR_one | exact trivial | (simp only [List.length_append, List.length_cons, List.length_nil]; omega) | (simp only [List.length_append, List.length_cons, List.length_nil, Nat.reduceAdd])) only [go_sem, e_go, e_cond_bool, e_w_bool, e_step_ite, e_reg_ite, e_regW_ite, e_code_ite, e_block_ite, e_evQ_ite, e_fin_ite, e_pair_ite, Try.f14, iNr'_eq, hc]
  refine w_loop [] [3, 4, 5] (fun i : Nat => x.l.length - i) (fun i => i ≤ x.l.length) (fun i => ⟨[.cells 0 (cR x)], []⟩)
    (fun i => [(3, .bool ((x.l.take i).all null)), (4, .bool ((x.l.take i).any null)), (5, .int .i64 (i : Nat))]) 0 (fun _ => rfl) (by kernel_rfl) (Nat.zero_le _) (by simp only [hc]) (by simp [HasE, lk]) ?_
  intro i hi
  by_cases h : i < x.l.length
  · have hg : x.l[i]? = some x.l[i] := by simp [h]
    have hat := fl_at cR_len hg
    have hle : i * 8 + 8 ≤ x.l.length * 8 := by omega
    have hok : (okX x.l[i] ∧ inR x.l[i]) ∧ sz x.l[i] < n := ⟨⟨hx.kid hg, hr.kid (List.getElem_mem h)⟩, by have := sz_kid hg; omega⟩
    have e1 : (x.l.take (i + 1)).all null = ((x.l.take i).all null && null x.l[i]) := by rw [List.take_succ_eq_append_getElem h]; simp only [List.all_append, List.all_cons, List.all_nil, Bool.and_true]
    have e2 : (x.l.take (i + 1)).any null = ((x.l.take i).any null || null x.l[i]) := by rw [List.take_succ_eq_append_getElem h]; simp only [List.any_append, List.any_cons, List.any_nil, Bool.or_false]
    cases h1 : (x.l.take i).all null <;> cases h2 : (x.l.take i).any null <;>
    · simp (disch := first | assumption | omega | exact okR_new | exact okR_one | exact trivial | (simp only [List.length_append, List.length_cons, List.length_nil]; omega) | (simp only [List.length_append, List.length_cons, List.length_nil, Nat.reduceAdd])) only [go_sem, e_go, e_cond_bool, e_w_bool, e_step_ite, e_reg_ite, e_regW_ite, e_code_ite, e_block_ite, e_evQ_ite, e_fin_ite, e_pair_ite, Try.f14, iNr'_eq, hc, hat, h1, h2]
      exact ⟨i + 1, dn h, h, by simp only [hc], by simp [HasE, lk, e1, e2, h1, h2]⟩
  · have hi' : i = x.l.length := by omega
    subst hi'
    (simp (disch := first | assumption | omega | exact okR_new | exact okR_one | exact trivial | (simp only [List.length_append, List.length_cons, List.length_nil]; omega) | (simp only [List.length_append, List.length_cons, List.length_nil, Nat.reduceAdd])) only [go_sem, e_bin_bool, Bool.true_and, Bool.and_true, Bool.false_and, Bool.and_false, Bool.true_or, Bool.or_true, Bool.false_or, Bool.or_false, Bool.not_eq_eq_eq_not, Bool.not_not, z_or, z_and, z_beq_t, z_beq_f, decide_eq_true_eq, decide_eq_false_iff_not, ite_not, Bool.not_eq_true', Bool.or_eq_true, Bool.and_eq_true, i_t, i_f, Try.f14, iNr'_eq, hc, List.take_length] <;> (repeat' ((first | refine w_cond_cases ?_ ?_ | refine w_go_cases ?_ ?_ | refine w_pick_cases ?_ ?_) <;> intro hq <;> (try simp only [decide_eq_true_eq, decide_eq_false_iff_not, Bool.not_eq_true', Bool.not_eq_false', Bool.or_eq_true, Bool.and_eq_true, Bool.or_eq_false_iff, Bool.and_eq_false_iff, Bool.not_eq_eq_eq_not, Bool.not_true, Bool.not_false, Bool.not_not] at hq) <;> (first | simp (disch := first | assumption | omega | exact okR_new | exact okR_one | exact trivial | (simp only [List.length_append, List.length_cons, List.length_nil]; omega) | (simp only [List.length_append, List.length_cons, List.length_nil, Nat.reduceAdd])) only [show (_ : Bool) = true from hq, go_sem, e_bin_bool, Bool.true_and, Bool.and_true, Bool.false_and, Bool.and_false, Bool.true_or, Bool.or_true, Bool.false_or, Bool.or_false, Bool.not_eq_eq_eq_not, Bool.not_not, z_or, z_and, z_beq_t, z_beq_f, decide_eq_true_eq, decide_eq_false_iff_not, ite_not, Bool.not_eq_true', Bool.or_eq_true, Bool.and_eq_true, i_t, i_f, Try.f14, iNr'_eq, hc, List.take_length] | simp (disch := first | assumption | omega | exact okR_new | exact okR_one | exact trivial | (simp only [List.length_append, List.length_cons, List.length_nil]; omega) | (simp only [List.length_append, List.length_cons, List.length_nil, Nat.reduceAdd])) only [show (_ : Bool) = false from hq, go_sem, e_bin_bool, Bool.true_and, Bool.and_true, Bool.false_and, Bool.and_false, Bool.true_or, Bool.or_true, Bool.false_or, Bool.or_false, Bool.not_eq_eq_eq_not, Bool.not_not, z_or, z_and, z_beq_t, z_beq_f, decide_eq_true_eq, decide_eq_false_iff_not, ite_not, Bool.not_eq_true', Bool.or_eq_true, Bool.and_eq_true, i_t, i_f, Try.f14, iNr'_eq, hc, List.take_length] | simp (disch := first | assumption | omega | exact okR_new | exact okR_one | exact trivial | (simp only [List.length_append, List.length_cons, List.length_nil]; omega) | (simp only [List.length_append, List.length_cons, List.length_nil, Nat.reduceAdd])) only [go_sem, e_bin_bool, Bool.true_and, Bool.and_true, Bool.false_and, Bool.and_false, Bool.true_or, Bool.or_true, Bool.false_or, Bool.or_false, Bool.not_eq_eq_eq_not, Bool.not_not, z_or, z_and, z_beq_t, z_beq_f, decide_eq_true_eq, decide_eq_false_iff_not, ite_not, Bool.not_eq_true', Bool.or_eq_true, Bool.and_eq_true, i_t, i_f, Try.f14, iNr'_eq, hc, List.take_length] | skip))))
    all_goals (clear hc ih_iNr'; grind)
theorem iNr'_all : ∀ n xs v, iNr' n xs = some v → PCall Try.prog 14 xs v := by
  intro n
  induction n with
  | zero => intro xs v h0; obtain ⟨x, h, rfl, rfl⟩ := pimp_spec h0; exact absurd h.2 (Nat.not_lt_zero _)
  | succ n ih => intro xs v h0; obtain ⟨x, h, rfl, rfl⟩ := pimp_spec h0; exact w_NullR n ih x h.1 (Nat.le_of_lt_succ h.2)
noncomputable def iNuR : List AVal → Option AVal := pimp fun xs r => ∃ (x : Rx), (okX x ∧ inR x) ∧ xs = [rV x] ∧ r = .bool (null x)
theorem iNuR_eq {x : Rx} (h : okX x ∧ inR x) : iNuR [rV x] = some (.bool (null x)) := pimp_eq ⟨x, h, rfl, rfl⟩ (by rintro _ ⟨x', h', e, rfl⟩; have e0 := (List.cons.inj e).1; have e0r := (List.cons.inj e).2; have q0 := rV_inj (by first | assumption | exact h | exact h.1 | exact h.1.1 | exact h.1.1.1 | exact h.2 | exact h.2.1 | exact h.2.2 | exact h.2.2.1) (by first | assumption | exact h' | exact h'.1 | exact h'.1.1 | exact h'.1.1.1 | exact h'.2 | exact h'.2.1 | exact h'.2.2 | exact h'.2.2.1) e0; subst q0; first | rfl | exact ⟨rfl, rfl⟩)
theorem iNuR_call : ∀ xs v, iNuR xs = some v → PCall Try.prog 14 xs v := fun xs v h0 => by obtain ⟨x, h, rfl, rfl⟩ := pimp_spec h0; exact iNr'_all (sz x + 1) _ _ (iNr'_eq ⟨h, Nat.lt_succ_self _⟩)
end Go.Hk.C
