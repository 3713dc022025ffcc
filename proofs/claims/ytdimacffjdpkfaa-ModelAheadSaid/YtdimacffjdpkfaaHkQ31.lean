import Derived.Test.YtdimacffjdpkfaaHkQ30
import Derived.Test.YtdimacffjdpkfaaHkQ21
/- Layer 3: which patterns may be, all of them; which are the same; which match nothing. -/
set_option linter.unusedSimpArgs false
set_option linter.unusedVariables false
namespace Go.Hk.M
open Go.Proofs

noncomputable def iRi' (n : Nat) : List AVal → Option AVal := pimp fun xs r => ∃ (x : Rx) (d : Int), ((okX x ∧ 0 ≤ d ∧ d ≤ 20) ∧ sz x < n) ∧ xs = [rV x, .int .i64 d] ∧ r = .bool (right x d)
theorem iRi'_eq {n : Nat} {x : Rx} {d : Int} (h0 : (okX x ∧ 0 ≤ d ∧ d ≤ 20) ∧ sz x < n) : iRi' n [rV x, .int .i64 d] = some (.bool (right x d)) := by
  have h := h0.1
  refine pimp_eq ⟨x, d, h0, rfl, rfl⟩ ?_
  rintro _ ⟨x', d', h0', e, rfl⟩
  have h' := h0'.1
  have e0 := (List.cons.inj e).1; have e0r := (List.cons.inj e).2; have e1 := (List.cons.inj e0r).1; have e1r := (List.cons.inj e0r).2; have q0 := rV_inj (by first | assumption | exact h | exact h.1 | exact h.1.1 | exact h.1.1.1 | exact h.2 | exact h.2.1 | exact h.2.2 | exact h.2.2.1) (by first | assumption | exact h' | exact h'.1 | exact h'.1.1 | exact h'.1.1.1 | exact h'.2 | exact h'.2.1 | exact h'.2.2 | exact h'.2.2.1) e0; have q1 := (AVal.int.inj e1).2; subst q0; subst q1; first | rfl | exact ⟨rfl, rfl⟩
theorem w_odd (n : Nat) (ih_iRi' : ∀ xs v, iRi' n xs = some v → PCall Try.prog 55 xs v) (x : Rx) (d : Int) (hx : okX x) (hd : 0 < d ∧ d ≤ 20) (y : Rx) (hy : okX y ∧ sz y < n) : PCall Try.prog 73 [rV y, .ipt (cR x) 0, .ipt [.int .i64 d] 0] (.bool (rodd x d y)) := by
  obtain ⟨hy, hn⟩ := hy
  have hcx := cR_eq x
  have hcy := cR_eq y
  have hok : (okX y ∧ 0 ≤ d - 1 ∧ d - 1 ≤ 20) ∧ sz y < n := ⟨⟨hy, by omega, by omega⟩, hn⟩
  refine PCall.of_w (fn := Try.f73) (Γ := gam [(55, .pure (iRi' n))]) (mu := false) (Sound.pure ih_iRi' Sound.nil) mixed Try.func73 rfl (by kernel_rfl) (by simp) (by kernel_rfl) ?_
  (simp (disch := first | assumption | omega | exact okR_new | exact okR_one | exact trivial | (simp only [List.length_append, List.length_cons, List.length_nil]; omega) | (simp only [List.length_append, List.length_cons, List.length_nil, Nat.reduceAdd])) only [go_sem, e_bin_bool, Bool.true_and, Bool.and_true, Bool.false_and, Bool.and_false, Bool.true_or, Bool.or_true, Bool.false_or, Bool.or_false, Bool.not_eq_eq_eq_not, Bool.not_not, z_or, z_and, z_beq_t, z_beq_f, decide_eq_true_eq, decide_eq_false_iff_not, ite_not, Bool.not_eq_true', Bool.or_eq_true, Bool.and_eq_true, i_t, i_f, Try.f73, iRi'_eq, hcx, hcy] <;> (repeat' ((first | refine w_cond_cases ?_ ?_ | refine w_go_cases ?_ ?_ | refine w_pick_cases ?_ ?_) <;> intro hq <;> (try simp only [decide_eq_true_eq, decide_eq_false_iff_not, Bool.not_eq_true', Bool.not_eq_false', Bool.or_eq_true, Bool.and_eq_true, Bool.or_eq_false_iff, Bool.and_eq_false_iff, Bool.not_eq_eq_eq_not, Bool.not_true, Bool.not_false, Bool.not_not] at hq) <;> (first | simp (disch := first | assumption | omega | exact okR_new | exact okR_one | exact trivial | (simp only [List.length_append, List.length_cons, List.length_nil]; omega) | (simp only [List.length_append, List.length_cons, List.length_nil, Nat.reduceAdd])) only [show (_ : Bool) = true from hq, go_sem, e_bin_bool, Bool.true_and, Bool.and_true, Bool.false_and, Bool.and_false, Bool.true_or, Bool.or_true, Bool.false_or, Bool.or_false, Bool.not_eq_eq_eq_not, Bool.not_not, z_or, z_and, z_beq_t, z_beq_f, decide_eq_true_eq, decide_eq_false_iff_not, ite_not, Bool.not_eq_true', Bool.or_eq_true, Bool.and_eq_true, i_t, i_f, Try.f73, iRi'_eq, hcx, hcy] | simp (disch := first | assumption | omega | exact okR_new | exact okR_one | exact trivial | (simp only [List.length_append, List.length_cons, List.length_nil]; omega) | (simp only [List.length_append, List.length_cons, List.length_nil, Nat.reduceAdd])) only [show (_ : Bool) = false from hq, go_sem, e_bin_bool, Bool.true_and, Bool.and_true, Bool.false_and, Bool.and_false, Bool.true_or, Bool.or_true, Bool.false_or, Bool.or_false, Bool.not_eq_eq_eq_not, Bool.not_not, z_or, z_and, z_beq_t, z_beq_f, decide_eq_true_eq, decide_eq_false_iff_not, ite_not, Bool.not_eq_true', Bool.or_eq_true, Bool.and_eq_true, i_t, i_f, Try.f73, iRi'_eq, hcx, hcy] | simp (disch := first | assumption | omega | exact okR_new | exact okR_one | exact trivial | (simp only [List.length_append, List.length_cons, List.length_nil]; omega) | (simp only [List.length_append, List.length_cons, List.length_nil, Nat.reduceAdd])) only [go_sem, e_bin_bool, Bool.true_and, Bool.and_true, Bool.false_and, Bool.and_false, Bool.true_or, Bool.or_true, Bool.false_or, Bool.or_false, Bool.not_eq_eq_eq_not, Bool.not_not, z_or, z_and, z_beq_t, z_beq_f, decide_eq_true_eq, decide_eq_false_iff_not, ite_not, Bool.not_eq_true', Bool.or_eq_true, Bool.and_eq_true, i_t, i_f, Try.f73, iRi'_eq, hcx, hcy] | skip))))
  all_goals (first | rfl | omega | (unfold rodd; (repeat' split) <;> (try rw [Bool.eq_iff_iff]) <;> (try simp only [Bool.and_eq_true, Bool.or_eq_true, decide_eq_true_eq, Bool.not_eq_true', Bool.not_eq_false', decide_eq_false_iff_not, decide_eq_decide, Bool.false_eq_true, beq_iff_eq, Bool.not_eq_eq_eq_not, Bool.not_true, Bool.not_false, true_iff, false_iff, iff_true, iff_false, and_true, true_and, not_true_eq_false, not_false_eq_true] at *) <;> first | omega | grind))

theorem w_right (n : Nat) (ih_iRi' : ∀ xs v, iRi' n xs = some v → PCall Try.prog 55 xs v) (x : Rx) (d : Int) (h : okX x ∧ 0 ≤ d ∧ d ≤ 20) (hn : sz x ≤ n) : PCall Try.prog 55 [rV x, .int .i64 d] (.bool (right x d)) := by
  obtain ⟨hx, h0, h1⟩ := h
  have hc := cR_eq x
  have hl : x.l.length < 9223372036854775808 ∧ ∀ y ∈ x.l, okX y ∧ sz y < n := ⟨hx.len, fun y hy => ⟨hx.mem hy, by have := sz_mem hy; omega⟩⟩
  rw [right_eq]
  by_cases hd : 0 < d
  · refine PCall.of_w (fn := Try.f55) (Γ := gam [(74, .pure iOwn), (75, .pure (iA_Rx 73 [.ipt (cR x) 0, .ipt [.int .i64 d] 0] (rodd x d) (fun y => sz y < n)))]) (mu := false) (Sound.pure iOwn_call (Sound.pure (iA_Rx_call (by simp only [stripL, strip, cR_strip]) (w_odd n ih_iRi' x d hx ⟨hd, h1⟩)) Sound.nil)) mixed Try.func55 rfl (by kernel_rfl) (by simp) (by kernel_rfl) ?_
    (simp (disch := first | assumption | omega | exact okR_new | exact okR_one | exact trivial | (simp only [List.length_append, List.length_cons, List.length_nil]; omega) | (simp only [List.length_append, List.length_cons, List.length_nil, Nat.reduceAdd])) only [go_sem, e_bin_bool, Bool.true_and, Bool.and_true, Bool.false_and, Bool.and_false, Bool.true_or, Bool.or_true, Bool.false_or, Bool.or_false, Bool.not_eq_eq_eq_not, Bool.not_not, z_or, z_and, z_beq_t, z_beq_f, decide_eq_true_eq, decide_eq_false_iff_not, ite_not, Bool.not_eq_true', Bool.or_eq_true, Bool.and_eq_true, i_t, i_f, Try.f55, iOwn_eq, iA_Rx_eq, hc] <;> (repeat' ((first | refine w_cond_cases ?_ ?_ | refine w_go_cases ?_ ?_ | refine w_pick_cases ?_ ?_) <;> intro hq <;> (try simp only [decide_eq_true_eq, decide_eq_false_iff_not, Bool.not_eq_true', Bool.not_eq_false', Bool.or_eq_true, Bool.and_eq_true, Bool.or_eq_false_iff, Bool.and_eq_false_iff, Bool.not_eq_eq_eq_not, Bool.not_true, Bool.not_false, Bool.not_not] at hq) <;> (first | simp (disch := first | assumption | omega | exact okR_new | exact okR_one | exact trivial | (simp only [List.length_append, List.length_cons, List.length_nil]; omega) | (simp only [List.length_append, List.length_cons, List.length_nil, Nat.reduceAdd])) only [show (_ : Bool) = true from hq, go_sem, e_bin_bool, Bool.true_and, Bool.and_true, Bool.false_and, Bool.and_false, Bool.true_or, Bool.or_true, Bool.false_or, Bool.or_false, Bool.not_eq_eq_eq_not, Bool.not_not, z_or, z_and, z_beq_t, z_beq_f, decide_eq_true_eq, decide_eq_false_iff_not, ite_not, Bool.not_eq_true', Bool.or_eq_true, Bool.and_eq_true, i_t, i_f, Try.f55, iOwn_eq, iA_Rx_eq, hc] | simp (disch := first | assumption | omega | exact okR_new | exact okR_one | exact trivial | (simp only [List.length_append, List.length_cons, List.length_nil]; omega) | (simp only [List.length_append, List.length_cons, List.length_nil, Nat.reduceAdd])) only [show (_ : Bool) = false from hq, go_sem, e_bin_bool, Bool.true_and, Bool.and_true, Bool.false_and, Bool.and_false, Bool.true_or, Bool.or_true, Bool.false_or, Bool.or_false, Bool.not_eq_eq_eq_not, Bool.not_not, z_or, z_and, z_beq_t, z_beq_f, decide_eq_true_eq, decide_eq_false_iff_not, ite_not, Bool.not_eq_true', Bool.or_eq_true, Bool.and_eq_true, i_t, i_f, Try.f55, iOwn_eq, iA_Rx_eq, hc] | simp (disch := first | assumption | omega | exact okR_new | exact okR_one | exact trivial | (simp only [List.length_append, List.length_cons, List.length_nil]; omega) | (simp only [List.length_append, List.length_cons, List.length_nil, Nat.reduceAdd])) only [go_sem, e_bin_bool, Bool.true_and, Bool.and_true, Bool.false_and, Bool.and_false, Bool.true_or, Bool.or_true, Bool.false_or, Bool.or_false, Bool.not_eq_eq_eq_not, Bool.not_not, z_or, z_and, z_beq_t, z_beq_f, decide_eq_true_eq, decide_eq_false_iff_not, ite_not, Bool.not_eq_true', Bool.or_eq_true, Bool.and_eq_true, i_t, i_f, Try.f55, iOwn_eq, iA_Rx_eq, hc] | skip))))
    all_goals (first | rfl | omega | ((repeat' split) <;> (try rw [Bool.eq_iff_iff]) <;> (try simp only [Bool.and_eq_true, Bool.or_eq_true, decide_eq_true_eq, Bool.not_eq_true', Bool.not_eq_false', decide_eq_false_iff_not, decide_eq_decide, Bool.false_eq_true, beq_iff_eq, Bool.not_eq_eq_eq_not, Bool.not_true, Bool.not_false, true_iff, false_iff, iff_true, iff_false, and_true, true_and, not_true_eq_false, not_false_eq_true] at *) <;> first | omega | grind))
  · refine PCall.of_w (fn := Try.f55) (Γ := gam [(74, .pure iOwn)]) (mu := false) (Sound.pure iOwn_call Sound.nil) mixed Try.func55 rfl (by kernel_rfl) (by simp) (by kernel_rfl) ?_
    (simp (disch := first | assumption | omega | exact okR_new | exact okR_one | exact trivial | (simp only [List.length_append, List.length_cons, List.length_nil]; omega) | (simp only [List.length_append, List.length_cons, List.length_nil, Nat.reduceAdd])) only [go_sem, e_bin_bool, Bool.true_and, Bool.and_true, Bool.false_and, Bool.and_false, Bool.true_or, Bool.or_true, Bool.false_or, Bool.or_false, Bool.not_eq_eq_eq_not, Bool.not_not, z_or, z_and, z_beq_t, z_beq_f, decide_eq_true_eq, decide_eq_false_iff_not, ite_not, Bool.not_eq_true', Bool.or_eq_true, Bool.and_eq_true, i_t, i_f, Try.f55, iOwn_eq, hc] <;> (repeat' ((first | refine w_cond_cases ?_ ?_ | refine w_go_cases ?_ ?_ | refine w_pick_cases ?_ ?_) <;> intro hq <;> (try simp only [decide_eq_true_eq, decide_eq_false_iff_not, Bool.not_eq_true', Bool.not_eq_false', Bool.or_eq_true, Bool.and_eq_true, Bool.or_eq_false_iff, Bool.and_eq_false_iff, Bool.not_eq_eq_eq_not, Bool.not_true, Bool.not_false, Bool.not_not] at hq) <;> (first | simp (disch := first | assumption | omega | exact okR_new | exact okR_one | exact trivial | (simp only [List.length_append, List.length_cons, List.length_nil]; omega) | (simp only [List.length_append, List.length_cons, List.length_nil, Nat.reduceAdd])) only [show (_ : Bool) = true from hq, go_sem, e_bin_bool, Bool.true_and, Bool.and_true, Bool.false_and, Bool.and_false, Bool.true_or, Bool.or_true, Bool.false_or, Bool.or_false, Bool.not_eq_eq_eq_not, Bool.not_not, z_or, z_and, z_beq_t, z_beq_f, decide_eq_true_eq, decide_eq_false_iff_not, ite_not, Bool.not_eq_true', Bool.or_eq_true, Bool.and_eq_true, i_t, i_f, Try.f55, iOwn_eq, hc] | simp (disch := first | assumption | omega | exact okR_new | exact okR_one | exact trivial | (simp only [List.length_append, List.length_cons, List.length_nil]; omega) | (simp only [List.length_append, List.length_cons, List.length_nil, Nat.reduceAdd])) only [show (_ : Bool) = false from hq, go_sem, e_bin_bool, Bool.true_and, Bool.and_true, Bool.false_and, Bool.and_false, Bool.true_or, Bool.or_true, Bool.false_or, Bool.or_false, Bool.not_eq_eq_eq_not, Bool.not_not, z_or, z_and, z_beq_t, z_beq_f, decide_eq_true_eq, decide_eq_false_iff_not, ite_not, Bool.not_eq_true', Bool.or_eq_true, Bool.and_eq_true, i_t, i_f, Try.f55, iOwn_eq, hc] | simp (disch := first | assumption | omega | exact okR_new | exact okR_one | exact trivial | (simp only [List.length_append, List.length_cons, List.length_nil]; omega) | (simp only [List.length_append, List.length_cons, List.length_nil, Nat.reduceAdd])) only [go_sem, e_bin_bool, Bool.true_and, Bool.and_true, Bool.false_and, Bool.and_false, Bool.true_or, Bool.or_true, Bool.false_or, Bool.or_false, Bool.not_eq_eq_eq_not, Bool.not_not, z_or, z_and, z_beq_t, z_beq_f, decide_eq_true_eq, decide_eq_false_iff_not, ite_not, Bool.not_eq_true', Bool.or_eq_true, Bool.and_eq_true, i_t, i_f, Try.f55, iOwn_eq, hc] | skip))))
    all_goals (first | rfl | omega | ((repeat' split) <;> (try rw [Bool.eq_iff_iff]) <;> (try simp only [Bool.and_eq_true, Bool.or_eq_true, decide_eq_true_eq, Bool.not_eq_true', Bool.not_eq_false', decide_eq_false_iff_not, decide_eq_decide, Bool.false_eq_true, beq_iff_eq, Bool.not_eq_eq_eq_not, Bool.not_true, Bool.not_false, true_iff, false_iff, iff_true, iff_false, and_true, true_and, not_true_eq_false, not_false_eq_true] at *) <;> first | omega | grind))
theorem iRi'_all : ∀ n xs v, iRi' n xs = some v → PCall Try.prog 55 xs v := by
  intro n
  induction n with
  | zero => intro xs v h0; obtain ⟨x, d, h, rfl, rfl⟩ := pimp_spec h0; exact absurd h.2 (Nat.not_lt_zero _)
  | succ n ih => intro xs v h0; obtain ⟨x, d, h, rfl, rfl⟩ := pimp_spec h0; exact w_right n ih x d h.1 (Nat.le_of_lt_succ h.2)
noncomputable def iRi : List AVal → Option AVal := pimp fun xs r => ∃ (x : Rx) (d : Int), (okX x ∧ 0 ≤ d ∧ d ≤ 20) ∧ xs = [rV x, .int .i64 d] ∧ r = .bool (right x d)
theorem iRi_eq {x : Rx} {d : Int} (h : okX x ∧ 0 ≤ d ∧ d ≤ 20) : iRi [rV x, .int .i64 d] = some (.bool (right x d)) := pimp_eq ⟨x, d, h, rfl, rfl⟩ (by rintro _ ⟨x', d', h', e, rfl⟩; have e0 := (List.cons.inj e).1; have e0r := (List.cons.inj e).2; have e1 := (List.cons.inj e0r).1; have e1r := (List.cons.inj e0r).2; have q0 := rV_inj (by first | assumption | exact h | exact h.1 | exact h.1.1 | exact h.1.1.1 | exact h.2 | exact h.2.1 | exact h.2.2 | exact h.2.2.1) (by first | assumption | exact h' | exact h'.1 | exact h'.1.1 | exact h'.1.1.1 | exact h'.2 | exact h'.2.1 | exact h'.2.2 | exact h'.2.2.1) e0; have q1 := (AVal.int.inj e1).2; subst q0; subst q1; first | rfl | exact ⟨rfl, rfl⟩)
theorem iRi_call : ∀ xs v, iRi xs = some v → PCall Try.prog 55 xs v := fun xs v h0 => by obtain ⟨x, d, h, rfl, rfl⟩ := pimp_spec h0; exact iRi'_all (sz x + 1) _ _ (iRi'_eq ⟨h, Nat.lt_succ_self _⟩)
theorem w_Right (x : Rx) (h : okX x) : PCall Try.prog 35 [rV x] (.bool (rightT x)) := by
  have hok : okX x ∧ (0 : Int) ≤ 20 ∧ (20 : Int) ≤ 20 := ⟨h, by omega, by omega⟩
  have hok2 : okX x ∧ (0 : Int) ≤ 1000 ∧ (1000 : Int) < 1000000 := ⟨h, by omega, by omega⟩
  refine PCall.of_w (fn := Try.f35) (Γ := gam [(55, .pure iRi), (56, .pure iSz), (57, .pure iNd)]) (mu := false) (Sound.pure iRi_call (Sound.pure iSz_call (Sound.pure iNd_call Sound.nil))) mixed Try.func35 rfl (by kernel_rfl) (by simp) (by kernel_rfl) ?_
  (simp (disch := first | assumption | omega | exact okR_new | exact okR_one | exact trivial | (simp only [List.length_append, List.length_cons, List.length_nil]; omega) | (simp only [List.length_append, List.length_cons, List.length_nil, Nat.reduceAdd])) only [go_sem, e_bin_bool, Bool.true_and, Bool.and_true, Bool.false_and, Bool.and_false, Bool.true_or, Bool.or_true, Bool.false_or, Bool.or_false, Bool.not_eq_eq_eq_not, Bool.not_not, z_or, z_and, z_beq_t, z_beq_f, decide_eq_true_eq, decide_eq_false_iff_not, ite_not, Bool.not_eq_true', Bool.or_eq_true, Bool.and_eq_true, i_t, i_f, Try.f35, iRi_eq, iSz_eq, iNd_eq] <;> (repeat' ((first | refine w_cond_cases ?_ ?_ | refine w_go_cases ?_ ?_ | refine w_pick_cases ?_ ?_) <;> intro hq <;> (try simp only [decide_eq_true_eq, decide_eq_false_iff_not, Bool.not_eq_true', Bool.not_eq_false', Bool.or_eq_true, Bool.and_eq_true, Bool.or_eq_false_iff, Bool.and_eq_false_iff, Bool.not_eq_eq_eq_not, Bool.not_true, Bool.not_false, Bool.not_not] at hq) <;> (first | simp (disch := first | assumption | omega | exact okR_new | exact okR_one | exact trivial | (simp only [List.length_append, List.length_cons, List.length_nil]; omega) | (simp only [List.length_append, List.length_cons, List.length_nil, Nat.reduceAdd])) only [show (_ : Bool) = true from hq, go_sem, e_bin_bool, Bool.true_and, Bool.and_true, Bool.false_and, Bool.and_false, Bool.true_or, Bool.or_true, Bool.false_or, Bool.or_false, Bool.not_eq_eq_eq_not, Bool.not_not, z_or, z_and, z_beq_t, z_beq_f, decide_eq_true_eq, decide_eq_false_iff_not, ite_not, Bool.not_eq_true', Bool.or_eq_true, Bool.and_eq_true, i_t, i_f, Try.f35, iRi_eq, iSz_eq, iNd_eq] | simp (disch := first | assumption | omega | exact okR_new | exact okR_one | exact trivial | (simp only [List.length_append, List.length_cons, List.length_nil]; omega) | (simp only [List.length_append, List.length_cons, List.length_nil, Nat.reduceAdd])) only [show (_ : Bool) = false from hq, go_sem, e_bin_bool, Bool.true_and, Bool.and_true, Bool.false_and, Bool.and_false, Bool.true_or, Bool.or_true, Bool.false_or, Bool.or_false, Bool.not_eq_eq_eq_not, Bool.not_not, z_or, z_and, z_beq_t, z_beq_f, decide_eq_true_eq, decide_eq_false_iff_not, ite_not, Bool.not_eq_true', Bool.or_eq_true, Bool.and_eq_true, i_t, i_f, Try.f35, iRi_eq, iSz_eq, iNd_eq] | simp (disch := first | assumption | omega | exact okR_new | exact okR_one | exact trivial | (simp only [List.length_append, List.length_cons, List.length_nil]; omega) | (simp only [List.length_append, List.length_cons, List.length_nil, Nat.reduceAdd])) only [go_sem, e_bin_bool, Bool.true_and, Bool.and_true, Bool.false_and, Bool.and_false, Bool.true_or, Bool.or_true, Bool.false_or, Bool.or_false, Bool.not_eq_eq_eq_not, Bool.not_not, z_or, z_and, z_beq_t, z_beq_f, decide_eq_true_eq, decide_eq_false_iff_not, ite_not, Bool.not_eq_true', Bool.or_eq_true, Bool.and_eq_true, i_t, i_f, Try.f35, iRi_eq, iSz_eq, iNd_eq] | skip))))
  all_goals (first | rfl | omega | (unfold rightT; (repeat' split) <;> (try rw [Bool.eq_iff_iff]) <;> (try simp only [Bool.and_eq_true, Bool.or_eq_true, decide_eq_true_eq, Bool.not_eq_true', Bool.not_eq_false', decide_eq_false_iff_not, decide_eq_decide, Bool.false_eq_true, beq_iff_eq, Bool.not_eq_eq_eq_not, Bool.not_true, Bool.not_false, true_iff, false_iff, iff_true, iff_false, and_true, true_and, not_true_eq_false, not_false_eq_true] at *) <;> first | omega | grind))
noncomputable def iRt : List AVal → Option AVal := pimp fun xs r => ∃ (x : Rx), (okX x) ∧ xs = [rV x] ∧ r = .bool (rightT x)
theorem iRt_eq {x : Rx} (h : okX x) : iRt [rV x] = some (.bool (rightT x)) := pimp_eq ⟨x, h, rfl, rfl⟩ (by rintro _ ⟨x', h', e, rfl⟩; have e0 := (List.cons.inj e).1; have e0r := (List.cons.inj e).2; have q0 := rV_inj (by first | assumption | exact h | exact h.1 | exact h.1.1 | exact h.1.1.1 | exact h.2 | exact h.2.1 | exact h.2.2 | exact h.2.2.1) (by first | assumption | exact h' | exact h'.1 | exact h'.1.1 | exact h'.1.1.1 | exact h'.2 | exact h'.2.1 | exact h'.2.2 | exact h'.2.2.1) e0; subst q0; first | rfl | exact ⟨rfl, rfl⟩)
theorem iRt_call : ∀ xs v, iRt xs = some v → PCall Try.prog 35 xs v := fun xs v h0 => by obtain ⟨x, h, rfl, rfl⟩ := pimp_spec h0; exact w_Right x h

end Go.Hk.M
/- Layer 3: which patterns are the same; which match nothing. -/
namespace Go.Hk.M
open Go.Proofs

end Go.Hk.M
/- Layer 3: patterns of one byte, and lists of patterns. -/
namespace Go.Hk.M
open Go.Proofs

theorem w_chr (b : Int) : PCall Try.prog 84 [.int .i64 b] (rV (chX b)) := by
  refine PCall.of_w (fn := Try.f84) (Γ := gam [(15, .pure iOf)]) (mu := false) (Sound.pure iOf_call Sound.nil) mixed Try.func84 rfl (by kernel_rfl) (by simp) (by kernel_rfl) ?_
  simp (disch := first | assumption | omega | exact okR_new | exact okR_one | exact trivial | (simp only [List.length_append, List.length_cons, List.length_nil]; omega) | (simp only [List.length_append, List.length_cons, List.length_nil, Nat.reduceAdd])) only [go_sem, e_go, e_cond_bool, e_w_bool, e_step_ite, e_reg_ite, e_regW_ite, e_code_ite, e_block_ite, e_evQ_ite, e_fin_ite, e_pair_ite, Try.f84, iOf_eq, setL]
  rfl
noncomputable def iChr : List AVal → Option AVal := pimp fun xs r => ∃ (b : Int), (True) ∧ xs = [.int .i64 b] ∧ r = rV (chX b)
theorem iChr_eq {b : Int} (h : True) : iChr [.int .i64 b] = some (rV (chX b)) := pimp_eq ⟨b, h, rfl, rfl⟩ (by rintro _ ⟨b', h', e, rfl⟩; have e0 := (List.cons.inj e).1; have e0r := (List.cons.inj e).2; have q0 := (AVal.int.inj e0).2; subst q0; first | rfl | exact ⟨rfl, rfl⟩)
theorem iChr_call : ∀ xs v, iChr xs = some v → PCall Try.prog 84 xs v := fun xs v h0 => by obtain ⟨b, h, rfl, rfl⟩ := pimp_spec h0; exact w_chr b
theorem chX_cells {b : Int} : cR (chX b) = [.int .i64 2, .int .u64 (wd (ofN b b) 0 : Nat), .int .u64 (wd (ofN b b) 1 : Nat), .int .u64 (wd (ofN b b) 2 : Nat), .int .u64 (wd (ofN b b) 3 : Nat), .int .i64 0, .int .i64 0, .sl .no 0 []] := rfl
theorem bA1 {m : AMem} {cs : List AVal} (h : cs.length = 8) : abuildSlice Try.prog false m 42 1 [(0, .agg cs)] = some (.sl .full 1 cs, m) := build_one ti42 ti44 rfl rfl h rfl (by decide) (by decide)
theorem bR1 {m : AMem} {x : Rx} : abuildSlice Try.prog false m 42 1 [(0, rV x)] = some (.sl .full 1 (cR x), m) := bA1 (cR_len x)
theorem bA2 {m : AMem} {cs ds : List AVal} (h : cs.length = 8) (h' : ds.length = 8) : abuildSlice Try.prog false m 42 2 [(0, .agg cs), (1, .agg ds)] = some (.sl .full 2 (cs ++ ds), m) := by
  have := build_seq (P := Try.prog) (mu := false) (m := m) (n := 2) (vs := [.agg cs, .agg ds]) (out := cs ++ ds) ti42 rfl ti44 rfl (by simp [cellsAll, cellsOf, h, h']) (by decide) rfl (by decide)
  exact this
theorem bR2 {m : AMem} {x y : Rx} : abuildSlice Try.prog false m 42 2 [(0, rV x), (1, rV y)] = some (.sl .full 2 (cR x ++ cR y), m) := bA2 (cR_len x) (cR_len y)
end Go.Hk.M
/- Layer 3: patterns by numbers. -/
namespace Go.Hk.M
open Go.Proofs
theorem ti5 : tiOf Try.prog 5 = some { size := 1, bytes := 1, zero := some (.int .u8 0), k := .int .u8 } := by kernel_rfl
attribute [go_sem] ti5
theorem ti22 : tiOf Try.prog 22 = some { size := 1, bytes := 24, zero := some (.sl .nil 0 []), k := .slice 5 } := by kernel_rfl
attribute [go_sem] ti22
theorem ti38 : tiOf Try.prog 38 = some { size := 1, bytes := 24, zero := some (.sl .nil 0 []), k := .slice 3 } := by kernel_rfl
attribute [go_sem] ti38
theorem ti58 : tiOf Try.prog 58 = some { size := 1, bytes := 8, zero := some (.nilp), k := .ptr 60 } := by kernel_rfl
attribute [go_sem] ti58
theorem ti60 : tiOf Try.prog 60 = some { size := 2, bytes := 32, zero := some (.agg [.sl .nil 0 [], .int .i64 0]), k := .struct [(true, 22, 0), (true, 3, 1)] } := by kernel_rfl
attribute [go_sem] ti60
theorem iPk_call : ∀ xs m v m', iPk xs m = some (v, m') → RCall Try.prog 16 xs m v m' := by
  rintro xs ⟨H, T⟩ v m' h
  unfold iPk at h
  split at h
  · rename_i b n
    unfold pkR at h
    split at h
    · rename_i x k cs a hx
      split at h
      · rename_i L hb
        split at h
        · rename_i hc
          obtain ⟨rfl, hL, h0, h1, hn, hn2⟩ := hc
          obtain ⟨a, rfl⟩ := Int.eq_ofNat_of_zero_le h0
          obtain ⟨n, rfl⟩ := Int.eq_ofNat_of_zero_le (show 0 ≤ n by omega)
          have := bytesOf_spec _ _ hb
          rw [← fl_cU_map] at this
          subst this
          have hl := (List.getElem?_eq_some_iff.1 hx).1
          cases h
          simp only at hx hl
          by_cases hin : a < L.length
          · have hg : L[a]? = some L[a] := by simp [hin]
            have hget := fl_get1 cU_len hg
            have hpv := pickV_in (n := n) hin
            have hu := L[a].toNat_lt
            have hm : ((L[a].toNat : Nat) : Int).tmod n = ((L[a].toNat % n : Nat) : Int) := by rw [Int.tmod_eq_emod_of_nonneg (by omega)]; rfl
            have ea : (a : Int) + 1 - 1 = a := by omega
            refine RCall.of_w (fn := Try.f16) (Γ := gam []) (mu := false) (by simp) (by simp) Sound.nil mixed Try.func16 rfl (by kernel_rfl) (by simp) (by kernel_rfl) ?_
            simp (disch := first | assumption | omega | exact okR_new | exact okR_one | exact trivial | (simp only [List.length_append, List.length_cons, List.length_nil]; omega) | (simp only [List.length_append, List.length_cons, List.length_nil, Nat.reduceAdd])) only [go_sem, e_go, e_cond_bool, e_w_bool, e_step_ite, e_reg_ite, e_regW_ite, e_code_ite, e_block_ite, e_evQ_ite, e_fin_ite, e_pair_ite, Try.f16, hx, set_at, List.set_set, ea, hget, cU, hm, hpv]
            exact .inl rfl
          · have hpv := pickV_out (n := n) (show L.length ≤ a by omega)
            refine RCall.of_w (fn := Try.f16) (Γ := gam []) (mu := false) (by simp) (by simp) Sound.nil mixed Try.func16 rfl (by kernel_rfl) (by simp) (by kernel_rfl) ?_
            simp (disch := first | assumption | omega | exact okR_new | exact okR_one | exact trivial | (simp only [List.length_append, List.length_cons, List.length_nil]; omega) | (simp only [List.length_append, List.length_cons, List.length_nil, Nat.reduceAdd])) only [go_sem, e_go, e_cond_bool, e_w_bool, e_step_ite, e_reg_ite, e_regW_ite, e_code_ite, e_block_ite, e_evQ_ite, e_fin_ite, e_pair_ite, Try.f16, hx, set_at, List.set_set, hpv]
            exact ⟨rfl, .inl rfl⟩
        · cases h
      · cases h
    · cases h
  · cases h

theorem bI6 {m : AMem} {a b c d e f : Int} : abuildSlice Try.prog false m 38 6 [(0, .int .i64 a), (1, .int .i64 b), (2, .int .i64 c), (3, .int .i64 d), (4, .int .i64 e), (5, .int .i64 f)] = some (.sl .full 6 [.int .i64 a, .int .i64 b, .int .i64 c, .int .i64 d, .int .i64 e, .int .i64 f], m) := build_seq (mu := false) (vs := [.int .i64 a, .int .i64 b, .int .i64 c, .int .i64 d, .int .i64 e, .int .i64 f]) ti38 rfl ti3 rfl rfl (by decide) rfl (by decide)
theorem iLf_call : ∀ xs m v m', iLf xs m = some (v, m') → RCall Try.prog 65 xs m v m' := by
  rintro xs ⟨G, T⟩ v m' h
  unfold iLf at h
  split at h
  · rename_i b
    obtain ⟨L, a, hx, hL, ho, hs, rfl, rfl⟩ := mk_cases h
    have hl := (List.getElem?_eq_some_iff.1 hx).1
    simp only [mkC] at hx hl hs ho ⊢
    have hc0 : ∀ h : Nat, cloB h T.length (.cells 0 [.sl .no L.length (fl cU L), .int .i64 ((leafM L a).2 : Nat)]) = true := fun h => mkC_clo
    have h8 := pickV_lt (L := L) (a := a) (n := 8) (by omega)
    have h6 := pickV_lt (L := L) (a := a + 1) (n := 6) (by omega)
    have h3 := pickV_lt (L := L) (a := a + 1) (n := 3) (by omega)
    unfold leafM
    refine RCall.of_ws (fn := Try.f65) (Γ := gam [(15, .pure iOf), (16, .raw iPk), (83, .pure iNot), (84, .pure iChr)]) (mu := false) (by simp) (by simp) (Sound.pure iOf_call (Sound.raw iPk_call (Sound.pure iNot_call (Sound.pure iChr_call Sound.nil)))) mixed Try.func65 rfl (by kernel_rfl) (by simp) (by kernel_rfl) ?_
    by_cases k0 : pickV L a 8 = 0
    · simp only [if_pos k0]
      simp (disch := first | assumption | omega | exact okR_new | exact okR_one | exact trivial | (simp only [List.length_append, List.length_cons, List.length_nil]; omega) | (simp only [List.length_append, List.length_cons, List.length_nil, Nat.reduceAdd])) only [go_sem, e_go, e_cond_bool, e_w_bool, e_step_ite, e_reg_ite, e_regW_ite, e_code_ite, e_block_ite, e_evQ_ite, e_fin_ite, e_pair_ite, Try.f65, iOf_eq, iPk_eq, pk_on, iNot_eq, iChr_eq, hx, set_at, List.set_set, m_at hl, m_atS hl, m_set hl, m_setS hl, k0, setL]
      exact ⟨rfl, leftM_one (shut_set hs mkC_clo)⟩
    · rw [if_neg k0]
      by_cases k1 : pickV L a 8 = 1
      · simp only [if_pos k1]
        simp (disch := first | assumption | omega | exact okR_new | exact okR_one | exact trivial | (simp only [List.length_append, List.length_cons, List.length_nil]; omega) | (simp only [List.length_append, List.length_cons, List.length_nil, Nat.reduceAdd])) only [go_sem, e_go, e_cond_bool, e_w_bool, e_step_ite, e_reg_ite, e_regW_ite, e_code_ite, e_block_ite, e_evQ_ite, e_fin_ite, e_pair_ite, Try.f65, iOf_eq, iPk_eq, pk_on, iNot_eq, iChr_eq, hx, set_at, List.set_set, m_at hl, m_atS hl, m_set hl, m_setS hl, k1, setL]
        exact ⟨rfl, leftM_one (shut_set hs mkC_clo)⟩
      · rw [if_neg k1]
        by_cases k2 : pickV L a 8 = 2
        · have hN := ofN_lt 97 97
          simp only [if_pos k2]
          simp (disch := first | assumption | omega | exact okR_new | exact okR_one | exact trivial | (simp only [List.length_append, List.length_cons, List.length_nil]; omega) | (simp only [List.length_append, List.length_cons, List.length_nil, Nat.reduceAdd])) only [go_sem, e_go, e_cond_bool, e_w_bool, e_step_ite, e_reg_ite, e_regW_ite, e_code_ite, e_block_ite, e_evQ_ite, e_fin_ite, e_pair_ite, Try.f65, iOf_eq, iPk_eq, pk_on, iNot_eq, iChr_eq, hx, set_at, List.set_set, m_at hl, m_atS hl, m_set hl, m_setS hl, k2, setL]
          exact ⟨rfl, leftM_one (shut_set hs mkC_clo)⟩
        · rw [if_neg k2]
          by_cases k3 : pickV L a 8 = 3
          · have ho : ([AVal.int .i64 10, AVal.int .i64 45, AVal.int .i64 90, AVal.int .i64 0, AVal.int .i64 255, AVal.int .i64 48] : List AVal)[pickV L (a + 1) 6]? = some (.int .i64 (odds.getD (pickV L (a + 1) 6) 0)) := by
              generalize pickV L (a + 1) 6 = p at h6
              have : p = 0 ∨ p = 1 ∨ p = 2 ∨ p = 3 ∨ p = 4 ∨ p = 5 := by omega
              rcases this with rfl | rfl | rfl | rfl | rfl | rfl <;> rfl
            simp only [if_pos k3]
            simp (disch := first | assumption | omega | exact okR_new | exact okR_one | exact trivial | (simp only [List.length_append, List.length_cons, List.length_nil]; omega) | (simp only [List.length_append, List.length_cons, List.length_nil, Nat.reduceAdd])) only [go_sem, e_go, e_cond_bool, e_w_bool, e_step_ite, e_reg_ite, e_regW_ite, e_code_ite, e_block_ite, e_evQ_ite, e_fin_ite, e_pair_ite, Try.f65, iOf_eq, iPk_eq, pk_on, iNot_eq, iChr_eq, hx, set_at, List.set_set, m_at hl, m_atS hl, m_set hl, m_setS hl, k3, bI6, ho]
            exact leftM_one (shut_set hs mkC_clo)
          · simp only [if_neg k3]
            simp (disch := first | assumption | omega | exact okR_new | exact okR_one | exact trivial | (simp only [List.length_append, List.length_cons, List.length_nil]; omega) | (simp only [List.length_append, List.length_cons, List.length_nil, Nat.reduceAdd])) only [go_sem, e_go, e_cond_bool, e_w_bool, e_step_ite, e_reg_ite, e_regW_ite, e_code_ite, e_block_ite, e_evQ_ite, e_fin_ite, e_pair_ite, Try.f65, iOf_eq, iPk_eq, pk_on, iNot_eq, iChr_eq, hx, set_at, List.set_set, m_at hl, m_atS hl, m_set hl, m_setS hl]
            exact leftM_one (shut_set hs mkC_clo)
  · cases h

end Go.Hk.M
