/- Layer 13, the document's answer: which tables may be; two of them. -/
import Derived.Test.YtojahfdjfacgaaaHkQ31
set_option linter.unusedSimpArgs false
set_option linter.unusedVariables false
set_option maxRecDepth 20000
namespace Go.Hk.N
open Go.Proofs

theorem w_withinR (l : List Int) (a b : Int) (h : l.length < 9223372036854775808) : PCall Try.prog 29 [slc cI l, .int .i64 a, .int .i64 b] (.bool (withinI l a b)) := by
  refine PCall.of_w (fn := Try.f29) (Γ := gam []) (mu := false) Sound.nil mixed Try.func29 rfl (by kernel_rfl) (by simp) (by kernel_rfl) ?_
  simp (disch := first | assumption | omega | exact okR_new | exact okR_one | exact trivial | (simp only [List.length_append, List.length_cons, List.length_nil]; omega) | (simp only [List.length_append, List.length_cons, List.length_nil, Nat.reduceAdd])) only [go_sem, e_go, e_cond_bool, e_w_bool, e_step_ite, e_reg_ite, e_regW_ite, e_code_ite, e_block_ite, e_evQ_ite, e_fin_ite, e_pair_ite, Try.f29]
  refine w_loop [6] [7] (fun i : Nat => l.length - i) (fun i => i ≤ l.length ∧ ∀ y ∈ l.take i, outI a b y = false) (fun i => ⟨[], []⟩)
    (fun i => [(7, .int .i64 (i : Nat))]) 0 (fun _ => rfl) (by kernel_rfl) ⟨Nat.zero_le _, by simp⟩ rfl (by simp [HasE, lk]) ?_
  rintro i ⟨hi, hq⟩
  by_cases hlt : i < l.length
  · have hg : l[i]? = some l[i] := by simp [hlt]
    have hat := fl_cI_get hg
    have hmem : l[i] ∈ l := List.getElem_mem hlt
    generalize l[i] = k at *
    have hwi : IntKind.i64.wrap ((i : Int) + 1) = (i : Int) + 1 := IntWalk.i64_in _ (by omega)
    have bad : outI a b k = true → withinI l a b = false := fun hb => by
      rw [← withinI_any, List.any_eq_true.2 ⟨k, hmem, hb⟩]; rfl
    by_cases b1 : k < a
    · have e1 : decide (k < a) = true := decide_eq_true b1
      rw [bad (by simp [outI, e1])]
      simp (disch := first | assumption | omega | exact okR_new | exact okR_one | exact trivial | (simp only [List.length_append, List.length_cons, List.length_nil]; omega) | (simp only [List.length_append, List.length_cons, List.length_nil, Nat.reduceAdd])) only [go_sem, e_go, e_cond_bool, e_w_bool, e_step_ite, e_reg_ite, e_regW_ite, e_code_ite, e_block_ite, e_evQ_ite, e_fin_ite, e_pair_ite, Try.f29, hat, e1]
    · have e1 : decide (k < a) = false := decide_eq_false b1
      by_cases b2 : b ≤ k
      · have e2 : decide (b ≤ k) = true := decide_eq_true b2
        rw [bad (by simp [outI, e2])]
        simp (disch := first | assumption | omega | exact okR_new | exact okR_one | exact trivial | (simp only [List.length_append, List.length_cons, List.length_nil]; omega) | (simp only [List.length_append, List.length_cons, List.length_nil, Nat.reduceAdd])) only [go_sem, e_go, e_cond_bool, e_w_bool, e_step_ite, e_reg_ite, e_regW_ite, e_code_ite, e_block_ite, e_evQ_ite, e_fin_ite, e_pair_ite, Try.f29, hat, e1, e2]
      · have e2 : decide (b ≤ k) = false := decide_eq_false b2
        simp (disch := first | assumption | omega | exact okR_new | exact okR_one | exact trivial | (simp only [List.length_append, List.length_cons, List.length_nil]; omega) | (simp only [List.length_append, List.length_cons, List.length_nil, Nat.reduceAdd])) only [go_sem, e_go, e_cond_bool, e_w_bool, e_step_ite, e_reg_ite, e_regW_ite, e_code_ite, e_block_ite, e_evQ_ite, e_fin_ite, e_pair_ite, Try.f29, hat, e1, e2, hwi]
        exact ⟨i + 1, dn hlt, ⟨hlt, upto_next hq hg (by simp [outI, e1, e2])⟩, rfl, by simp [HasE, lk]⟩
  · have hi' : i = l.length := by omega
    subst hi'
    rw [List.take_length] at hq
    have : withinI l a b = true := by
      rw [← withinI_any]
      simp only [Bool.not_eq_true', List.any_eq_false]
      intro x hx; rw [hq x hx]; simp
    rw [this]
    simp (disch := first | assumption | omega | exact okR_new | exact okR_one | exact trivial | (simp only [List.length_append, List.length_cons, List.length_nil]; omega) | (simp only [List.length_append, List.length_cons, List.length_nil, Nat.reduceAdd])) only [go_sem, e_go, e_cond_bool, e_w_bool, e_step_ite, e_reg_ite, e_regW_ite, e_code_ite, e_block_ite, e_evQ_ite, e_fin_ite, e_pair_ite, Try.f29]
noncomputable def iWr : List AVal → Option AVal := pimp fun xs r => ∃ (l : List Int) (a : Int) (b : Int), (l.length < 9223372036854775808) ∧ xs = [slc cI l, .int .i64 a, .int .i64 b] ∧ r = .bool (withinI l a b)
theorem iWr_eq {l : List Int} {a : Int} {b : Int} (h : l.length < 9223372036854775808) : iWr [slc cI l, .int .i64 a, .int .i64 b] = some (.bool (withinI l a b)) := pimp_eq ⟨l, a, b, h, rfl, rfl⟩ (by rintro _ ⟨l', a', b', h', e, rfl⟩; have e0 := (List.cons.inj e).1; have e0r := (List.cons.inj e).2; have e1 := (List.cons.inj e0r).1; have e1r := (List.cons.inj e0r).2; have e2 := (List.cons.inj e1r).1; have e2r := (List.cons.inj e1r).2; have q0 := slc_inj cI_len (fun _ _ _ _ => cI_inj) e0; have q1 := (AVal.int.inj e1).2; have q2 := (AVal.int.inj e2).2; subst q0; subst q1; subst q2; first | rfl | exact ⟨rfl, rfl⟩)
theorem iWr_call : ∀ xs v, iWr xs = some v → PCall Try.prog 29 xs v := fun xs v h0 => by obtain ⟨l, a, b, h, rfl, rfl⟩ := pimp_spec h0; exact w_withinR l a b h
theorem w_ValidR (p : Pk) (h : okPk p) : PCall Try.prog 20 [pkV p] (.bool (validP p)) := by
  obtain ⟨h0, h1, h2, h3, h4, h5, h6⟩ := h
  have hc := cPk_eq p
  have i1 : iWr [.sl .no p.mp.length (fl cI p.mp), .int .i64 0, .int .i64 p.wd] = _ := iWr_eq (l := p.mp) (by omega)
  have i2 : iWr [.sl .no p.bs.length (fl cI p.bs), .int .i64 0, .int .i64 ((p.nx.length : Int) + 1)] = _ := iWr_eq (l := p.bs) (by omega)
  have i3 : iWr [.sl .no p.nx.length (fl cI p.nx), .int .i64 (-1), .int .i64 (p.bs.length : Nat)] = _ := iWr_eq (l := p.nx) (by omega)
  have i4 : iWr [.sl .no p.ck.length (fl cI p.ck), .int .i64 (-1), .int .i64 (p.bs.length : Nat)] = _ := iWr_eq (l := p.ck) (by omega)
  have i5 : iWr [.sl .no p.ac.length (fl cI p.ac), .int .i64 (-1), .int .i64 40] = _ := iWr_eq (l := p.ac) (by omega)
  have i6 : iWr [.sl .no p.st.length (fl cI p.st), .int .i64 (-1), .int .i64 (p.bs.length : Nat)] = _ := iWr_eq (l := p.st) (by omega)
  refine PCall.of_w (fn := Try.f20) (Γ := gam [(29, .pure iWr)]) (mu := false) (Sound.pure iWr_call Sound.nil) mixed Try.func20 rfl (by kernel_rfl) (by simp) (by kernel_rfl) ?_
  (simp (disch := first | assumption | omega | exact okR_new | exact okR_one | exact trivial | (simp only [List.length_append, List.length_cons, List.length_nil]; omega) | (simp only [List.length_append, List.length_cons, List.length_nil, Nat.reduceAdd])) only [go_sem, e_bin_bool, Bool.true_and, Bool.and_true, Bool.false_and, Bool.and_false, Bool.true_or, Bool.or_true, Bool.false_or, Bool.or_false, Bool.not_eq_eq_eq_not, Bool.not_not, z_or, z_and, z_beq_t, z_beq_f, decide_eq_true_eq, decide_eq_false_iff_not, ite_not, Bool.not_eq_true', Bool.or_eq_true, Bool.and_eq_true, i_t, i_f, Try.f20, iWr_eq] <;> (repeat' ((first | refine w_cond_cases ?_ ?_ | refine w_go_cases ?_ ?_ | refine w_pick_cases ?_ ?_) <;> intro hq <;> (try simp only [decide_eq_true_eq, decide_eq_false_iff_not, Bool.not_eq_true', Bool.not_eq_false', Bool.or_eq_true, Bool.and_eq_true, Bool.or_eq_false_iff, Bool.and_eq_false_iff, Bool.not_eq_eq_eq_not, Bool.not_true, Bool.not_false, Bool.not_not] at hq) <;> (first | simp (disch := first | assumption | omega | exact okR_new | exact okR_one | exact trivial | (simp only [List.length_append, List.length_cons, List.length_nil]; omega) | (simp only [List.length_append, List.length_cons, List.length_nil, Nat.reduceAdd])) only [show (_ : Bool) = true from hq, go_sem, e_bin_bool, Bool.true_and, Bool.and_true, Bool.false_and, Bool.and_false, Bool.true_or, Bool.or_true, Bool.false_or, Bool.or_false, Bool.not_eq_eq_eq_not, Bool.not_not, z_or, z_and, z_beq_t, z_beq_f, decide_eq_true_eq, decide_eq_false_iff_not, ite_not, Bool.not_eq_true', Bool.or_eq_true, Bool.and_eq_true, i_t, i_f, Try.f20, iWr_eq] | simp (disch := first | assumption | omega | exact okR_new | exact okR_one | exact trivial | (simp only [List.length_append, List.length_cons, List.length_nil]; omega) | (simp only [List.length_append, List.length_cons, List.length_nil, Nat.reduceAdd])) only [show (_ : Bool) = false from hq, go_sem, e_bin_bool, Bool.true_and, Bool.and_true, Bool.false_and, Bool.and_false, Bool.true_or, Bool.or_true, Bool.false_or, Bool.or_false, Bool.not_eq_eq_eq_not, Bool.not_not, z_or, z_and, z_beq_t, z_beq_f, decide_eq_true_eq, decide_eq_false_iff_not, ite_not, Bool.not_eq_true', Bool.or_eq_true, Bool.and_eq_true, i_t, i_f, Try.f20, iWr_eq] | simp (disch := first | assumption | omega | exact okR_new | exact okR_one | exact trivial | (simp only [List.length_append, List.length_cons, List.length_nil]; omega) | (simp only [List.length_append, List.length_cons, List.length_nil, Nat.reduceAdd])) only [go_sem, e_bin_bool, Bool.true_and, Bool.and_true, Bool.false_and, Bool.and_false, Bool.true_or, Bool.or_true, Bool.false_or, Bool.or_false, Bool.not_eq_eq_eq_not, Bool.not_not, z_or, z_and, z_beq_t, z_beq_f, decide_eq_true_eq, decide_eq_false_iff_not, ite_not, Bool.not_eq_true', Bool.or_eq_true, Bool.and_eq_true, i_t, i_f, Try.f20, iWr_eq] | skip))))
  all_goals try (have hv : validP p = false := by unfold validP sizesP; simp only [Bool.and_eq_false_imp, Bool.and_eq_true, decide_eq_true_eq]; omega)
  all_goals try (rw [hv]; done)
  have hs : sizesP p = true := by unfold sizesP; simp only [Bool.and_eq_true, decide_eq_true_eq]; omega
  have hlen : p.nx.length ≤ 50000 := by omega
  have hdb : p.df.length = p.bs.length := by omega
  have hw : IntKind.i64.wrap ((p.nx.length : Int) + 1) = (p.nx.length : Int) + 1 := IntWalk.i64_in _ (by omega)
  have d3 : decide (p.wd ≤ 256) = true := decide_eq_true (by omega)
  have d4 : decide (1 ≤ p.wd) = true := decide_eq_true (by omega)
  unfold validP
  rw [hs, d3, d4]
  refine w_loop [2] [5] (fun i : Nat => p.df.length - i) (fun i => i ≤ p.df.length ∧ dfTo p.df i = true) (fun i => ⟨[.cells 0 (cPk p)], []⟩)
    (fun i => [(5, .int .i64 (i : Nat))]) 0 (fun _ => rfl) (by kernel_rfl) ⟨Nat.zero_le _, dfTo_zero⟩ (by simp only [cPk_eq]) (by simp [HasE, lk]) ?_
  rintro i ⟨hi, hq⟩
  by_cases hlt : i < p.df.length
  · have hlt2 : i < p.bs.length := by omega
    have hg : p.df[i]? = some p.df[i] := by simp [hlt]
    have hat := fl_cI_get hg
    have hnx := dfTo_next hg
    generalize p.df[i] = k at *
    have hwi : IntKind.i64.wrap ((i : Int) + 1) = (i : Int) + 1 := IntWalk.i64_in _ (by omega)
    by_cases b1 : k < -1
    · have e1 : decide (k < -1) = true := decide_eq_true b1
      have hb := dfTo_bad (n := p.df.length) hg (by simp [outI, e1]) hlt
      rw [hb]
      simp (disch := first | assumption | omega | exact okR_new | exact okR_one | exact trivial | (simp only [List.length_append, List.length_cons, List.length_nil]; omega) | (simp only [List.length_append, List.length_cons, List.length_nil, Nat.reduceAdd])) only [go_sem, e_go, e_cond_bool, e_w_bool, e_step_ite, e_reg_ite, e_regW_ite, e_code_ite, e_block_ite, e_evQ_ite, e_fin_ite, e_pair_ite, Try.f20, iWr_eq, hc, hat, e1]
      simp
    · have e1 : decide (k < -1) = false := decide_eq_false b1
      by_cases b2 : (i : Int) ≤ k
      · have e2 : decide ((i : Int) ≤ k) = true := decide_eq_true b2
        have hb := dfTo_bad (n := p.df.length) hg (by simp [outI, e2]) hlt
        rw [hb]
        simp (disch := first | assumption | omega | exact okR_new | exact okR_one | exact trivial | (simp only [List.length_append, List.length_cons, List.length_nil]; omega) | (simp only [List.length_append, List.length_cons, List.length_nil, Nat.reduceAdd])) only [go_sem, e_go, e_cond_bool, e_w_bool, e_step_ite, e_reg_ite, e_regW_ite, e_code_ite, e_block_ite, e_evQ_ite, e_fin_ite, e_pair_ite, Try.f20, iWr_eq, hc, hat, e1, e2]
        simp
      · have e2 : decide ((i : Int) ≤ k) = false := decide_eq_false b2
        simp (disch := first | assumption | omega | exact okR_new | exact okR_one | exact trivial | (simp only [List.length_append, List.length_cons, List.length_nil]; omega) | (simp only [List.length_append, List.length_cons, List.length_nil, Nat.reduceAdd])) only [go_sem, e_go, e_cond_bool, e_w_bool, e_step_ite, e_reg_ite, e_regW_ite, e_code_ite, e_block_ite, e_evQ_ite, e_fin_ite, e_pair_ite, Try.f20, iWr_eq, hc, hat, e1, e2, hwi]
        exact ⟨i + 1, dn hlt, ⟨hlt, by rw [hnx, hq]; simp [outI, e1, e2]⟩, by simp only [cPk_eq], by simp [HasE, lk]⟩
  · have hi' : i = p.df.length := by omega
    subst hi'
    rw [hq]
    unfold listsP
    (simp (disch := first | assumption | omega | exact okR_new | exact okR_one | exact trivial | (simp only [List.length_append, List.length_cons, List.length_nil]; omega) | (simp only [List.length_append, List.length_cons, List.length_nil, Nat.reduceAdd])) only [go_sem, e_bin_bool, Bool.true_and, Bool.and_true, Bool.false_and, Bool.and_false, Bool.true_or, Bool.or_true, Bool.false_or, Bool.or_false, Bool.not_eq_eq_eq_not, Bool.not_not, z_or, z_and, z_beq_t, z_beq_f, decide_eq_true_eq, decide_eq_false_iff_not, ite_not, Bool.not_eq_true', Bool.or_eq_true, Bool.and_eq_true, i_t, i_f, Try.f20, iWr_eq, hc, i1, i2, i3, i4, i5, i6, hw, hdb] <;> (repeat' ((first | refine w_cond_cases ?_ ?_ | refine w_go_cases ?_ ?_ | refine w_pick_cases ?_ ?_) <;> intro hq <;> (try simp only [decide_eq_true_eq, decide_eq_false_iff_not, Bool.not_eq_true', Bool.not_eq_false', Bool.or_eq_true, Bool.and_eq_true, Bool.or_eq_false_iff, Bool.and_eq_false_iff, Bool.not_eq_eq_eq_not, Bool.not_true, Bool.not_false, Bool.not_not] at hq) <;> (first | simp (disch := first | assumption | omega | exact okR_new | exact okR_one | exact trivial | (simp only [List.length_append, List.length_cons, List.length_nil]; omega) | (simp only [List.length_append, List.length_cons, List.length_nil, Nat.reduceAdd])) only [show (_ : Bool) = true from hq, go_sem, e_bin_bool, Bool.true_and, Bool.and_true, Bool.false_and, Bool.and_false, Bool.true_or, Bool.or_true, Bool.false_or, Bool.or_false, Bool.not_eq_eq_eq_not, Bool.not_not, z_or, z_and, z_beq_t, z_beq_f, decide_eq_true_eq, decide_eq_false_iff_not, ite_not, Bool.not_eq_true', Bool.or_eq_true, Bool.and_eq_true, i_t, i_f, Try.f20, iWr_eq, hc, i1, i2, i3, i4, i5, i6, hw, hdb] | simp (disch := first | assumption | omega | exact okR_new | exact okR_one | exact trivial | (simp only [List.length_append, List.length_cons, List.length_nil]; omega) | (simp only [List.length_append, List.length_cons, List.length_nil, Nat.reduceAdd])) only [show (_ : Bool) = false from hq, go_sem, e_bin_bool, Bool.true_and, Bool.and_true, Bool.false_and, Bool.and_false, Bool.true_or, Bool.or_true, Bool.false_or, Bool.or_false, Bool.not_eq_eq_eq_not, Bool.not_not, z_or, z_and, z_beq_t, z_beq_f, decide_eq_true_eq, decide_eq_false_iff_not, ite_not, Bool.not_eq_true', Bool.or_eq_true, Bool.and_eq_true, i_t, i_f, Try.f20, iWr_eq, hc, i1, i2, i3, i4, i5, i6, hw, hdb] | simp (disch := first | assumption | omega | exact okR_new | exact okR_one | exact trivial | (simp only [List.length_append, List.length_cons, List.length_nil]; omega) | (simp only [List.length_append, List.length_cons, List.length_nil, Nat.reduceAdd])) only [go_sem, e_bin_bool, Bool.true_and, Bool.and_true, Bool.false_and, Bool.and_false, Bool.true_or, Bool.or_true, Bool.false_or, Bool.or_false, Bool.not_eq_eq_eq_not, Bool.not_not, z_or, z_and, z_beq_t, z_beq_f, decide_eq_true_eq, decide_eq_false_iff_not, ite_not, Bool.not_eq_true', Bool.or_eq_true, Bool.and_eq_true, i_t, i_f, Try.f20, iWr_eq, hc, i1, i2, i3, i4, i5, i6, hw, hdb] | skip)))) <;> (first | rfl | omega | ((repeat' split) <;> (try rw [Bool.eq_iff_iff]) <;> (try simp only [Bool.and_eq_true, Bool.or_eq_true, decide_eq_true_eq, Bool.not_eq_true', Bool.not_eq_false', decide_eq_false_iff_not, decide_eq_decide, Bool.false_eq_true, beq_iff_eq, Bool.not_eq_eq_eq_not, Bool.not_true, Bool.not_false, true_iff, false_iff, iff_true, iff_false, and_true, true_and, not_true_eq_false, not_false_eq_true] at *) <;> first | omega | grind))
noncomputable def iVr : List AVal → Option AVal := pimp fun xs r => ∃ (p : Pk), (okPk p) ∧ xs = [pkV p] ∧ r = .bool (validP p)
theorem iVr_eq {p : Pk} (h : okPk p) : iVr [pkV p] = some (.bool (validP p)) := pimp_eq ⟨p, h, rfl, rfl⟩ (by rintro _ ⟨p', h', e, rfl⟩; have e0 := pkV_inj (List.cons.inj e).1; subst e0; rfl)
theorem iVr_call : ∀ xs v, iVr xs = some v → PCall Try.prog 20 xs v := fun xs v h0 => by obtain ⟨p, h, rfl, rfl⟩ := pimp_spec h0; exact w_ValidR p h
theorem w_Ints (l r : List Int) (hl : l.length < 9223372036854775808) (hr : r.length < 9223372036854775808) : PCall Try.prog 19 [slc cI l, slc cI r] (.bool (decide (l = r))) := by
  refine PCall.of_w (fn := Try.f19) (Γ := gam []) (mu := false) Sound.nil mixed Try.func19 rfl (by kernel_rfl) (by simp) (by kernel_rfl) ?_
  by_cases hlr : l.length = r.length
  · simp (disch := first | assumption | omega | exact okR_new | exact okR_one | exact trivial | (simp only [List.length_append, List.length_cons, List.length_nil]; omega) | (simp only [List.length_append, List.length_cons, List.length_nil, Nat.reduceAdd])) only [go_sem, e_go, e_cond_bool, e_w_bool, e_step_ite, e_reg_ite, e_regW_ite, e_code_ite, e_block_ite, e_evQ_ite, e_fin_ite, e_pair_ite, Try.f19, hlr]
    refine w_loop [4] [5] (fun i : Nat => l.length - i) (fun i => i ≤ l.length ∧ l.take i = r.take i) (fun i => ⟨[], []⟩)
      (fun i => [(5, .int .i64 (i : Nat))]) 0 (fun _ => rfl) (by kernel_rfl) ⟨Nat.zero_le _, by simp⟩ rfl (by simp [HasE, lk]) ?_
    rintro i ⟨hi, hq⟩
    by_cases hlt : i < l.length
    · have hlt2 : i < r.length := by omega
      have hg : l[i]? = some l[i] := by simp [hlt]
      have hg2 : r[i]? = some r[i] := by simp [hlt2]
      have hat := fl_cI_get hg
      have hat2 := fl_cI_get hg2
      have hwi : IntKind.i64.wrap ((i : Int) + 1) = (i : Int) + 1 := IntWalk.i64_in _ (by omega)
      have t1 := List.take_succ_eq_append_getElem hlt
      have t2 := List.take_succ_eq_append_getElem hlt2
      generalize l[i] = x at *
      generalize r[i] = y at *
      by_cases hxy : x = y
      · simp (disch := first | assumption | omega | exact okR_new | exact okR_one | exact trivial | (simp only [List.length_append, List.length_cons, List.length_nil]; omega) | (simp only [List.length_append, List.length_cons, List.length_nil, Nat.reduceAdd])) only [go_sem, e_go, e_cond_bool, e_w_bool, e_step_ite, e_reg_ite, e_regW_ite, e_code_ite, e_block_ite, e_evQ_ite, e_fin_ite, e_pair_ite, Try.f19, hat, hat2, hxy, hwi]
        exact ⟨i + 1, dn hlt, ⟨hlt, by rw [t1, t2, hq, hxy]⟩, rfl, by simp [HasE, lk]⟩
      · have hne : ¬ l = r := fun h => by subst h; rw [hg] at hg2; exact hxy (Option.some.inj hg2)
        have d1 : decide (x = y) = false := decide_eq_false hxy
        rw [decide_eq_false hne]
        simp (disch := first | assumption | omega | exact okR_new | exact okR_one | exact trivial | (simp only [List.length_append, List.length_cons, List.length_nil]; omega) | (simp only [List.length_append, List.length_cons, List.length_nil, Nat.reduceAdd])) only [go_sem, e_go, e_cond_bool, e_w_bool, e_step_ite, e_reg_ite, e_regW_ite, e_code_ite, e_block_ite, e_evQ_ite, e_fin_ite, e_pair_ite, Try.f19, hat, hat2, d1]
    · have hi' : i = l.length := by omega
      subst hi'
      have : l = r := by
        have := hq
        rw [List.take_length, hlr, List.take_length] at this
        exact this
      rw [decide_eq_true this]
      simp (disch := first | assumption | omega | exact okR_new | exact okR_one | exact trivial | (simp only [List.length_append, List.length_cons, List.length_nil]; omega) | (simp only [List.length_append, List.length_cons, List.length_nil, Nat.reduceAdd])) only [go_sem, e_go, e_cond_bool, e_w_bool, e_step_ite, e_reg_ite, e_regW_ite, e_code_ite, e_block_ite, e_evQ_ite, e_fin_ite, e_pair_ite, Try.f19]
  · have hne : ¬ l = r := fun h => hlr (by rw [h])
    have d1 : decide ((l.length : Int) = (r.length : Int)) = false := decide_eq_false (by omega)
    rw [decide_eq_false hne]
    simp (disch := first | assumption | omega | exact okR_new | exact okR_one | exact trivial | (simp only [List.length_append, List.length_cons, List.length_nil]; omega) | (simp only [List.length_append, List.length_cons, List.length_nil, Nat.reduceAdd])) only [go_sem, e_go, e_cond_bool, e_w_bool, e_step_ite, e_reg_ite, e_regW_ite, e_code_ite, e_block_ite, e_evQ_ite, e_fin_ite, e_pair_ite, Try.f19, d1]
noncomputable def iIn : List AVal → Option AVal := pimp fun xs r => ∃ (l : List Int) (q : List Int), (l.length < 9223372036854775808 ∧ q.length < 9223372036854775808) ∧ xs = [slc cI l, slc cI q] ∧ r = .bool (decide (l = q))
theorem iIn_eq {l : List Int} {q : List Int} (h : l.length < 9223372036854775808 ∧ q.length < 9223372036854775808) : iIn [slc cI l, slc cI q] = some (.bool (decide (l = q))) := pimp_eq ⟨l, q, h, rfl, rfl⟩ (by rintro _ ⟨l', q', h', e, rfl⟩; have e0 := (List.cons.inj e).1; have e0r := (List.cons.inj e).2; have e1 := (List.cons.inj e0r).1; have e1r := (List.cons.inj e0r).2; have q0 := slc_inj cI_len (fun _ _ _ _ => cI_inj) e0; have q1 := slc_inj cI_len (fun _ _ _ _ => cI_inj) e1; subst q0; subst q1; first | rfl | exact ⟨rfl, rfl⟩)
theorem iIn_call : ∀ xs v, iIn xs = some v → PCall Try.prog 19 xs v := fun xs v h0 => by obtain ⟨l, q, h, rfl, rfl⟩ := pimp_spec h0; exact w_Ints l q h.1 h.2
end Go.Hk.N
