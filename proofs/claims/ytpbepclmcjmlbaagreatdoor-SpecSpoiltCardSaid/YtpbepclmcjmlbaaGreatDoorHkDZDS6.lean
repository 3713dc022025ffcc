/- Layer 6: which rules are the same, all of them; where a rule holds. -/
import Derived.Test.YtpbepclmcjmlbaaGreatDoorHkDZDS5
set_option linter.unusedSimpArgs false
set_option linter.unusedVariables false
set_option maxRecDepth 20000
namespace Go.Hk.DZD
open Go.Proofs
theorem ti79 : tiOf Tryz.prog 79 = some { size := 1, bytes := 8, zero := some (.nilf), k := .func } := by kernel_rfl
attribute [go_sem] ti79
/-- How two elements are held against each other, by a function. -/
noncomputable def iP2_Ru (f : FuncId) (p : Ru → Ru → Bool) (D : Ru → Prop) : List AVal → Option AVal := pimp fun xs r => ∃ a b, ((okRu a ∧ okRu b) ∧ D a) ∧ xs = [ruV a, ruV b] ∧ r = .bool (p a b)
theorem iP2_Ru_eq {f : FuncId} {p : Ru → Ru → Bool} {D : Ru → Prop} {a b : Ru} (h : (okRu a ∧ okRu b) ∧ D a) : iP2_Ru f p D [ruV a, ruV b] = some (.bool (p a b)) :=
  pimp_eq ⟨a, b, h, rfl, rfl⟩ (by
    rintro _ ⟨a', b', h', e, rfl⟩
    have e2 := (List.cons.inj e).2
    rw [ruV_inj h.1.1 h'.1.1 (List.cons.inj e).1, ruV_inj h.1.2 h'.1.2 (List.cons.inj e2).1])
theorem w_Eq_Ru {f : FuncId} {p : Ru → Ru → Bool} {D : Ru → Prop} (hf : ∀ a b, (okRu a ∧ okRu b) ∧ D a → PCall Tryz.prog f [ruV a, ruV b] (.bool (p a b))) (l r : List Ru) (h : (l.length < 9223372036854775808 ∧ r.length < 9223372036854775808) ∧ (∀ y ∈ l, okRu y ∧ D y) ∧ ∀ y ∈ r, okRu y) :
    PCall Tryz.prog 32 [slc cRu l, slc cRu r, .fn f [] []] (.bool (decide (l.length = r.length) && all2 p l r)) := by
  obtain ⟨⟨hl, hr⟩, hml, hmr⟩ := h
  have snd : Sound Tryz.prog (gam [(f, .pure (iP2_Ru f p D))]) := Sound.pure (fun xs v h0 => by obtain ⟨a, b, hy, rfl, rfl⟩ := pimp_spec h0; exact hf a b hy) Sound.nil
  refine PCall.of_w (fn := Tryz.f32) (Γ := gam [(f, .pure (iP2_Ru f p D))]) (mu := false) snd mixed Tryz.func32 rfl (by kernel_rfl) (by simp) (by kernel_rfl) ?_
  by_cases hlr : l.length = r.length
  · simp (disch := first | assumption | omega | exact okR_new | exact okR_one | exact trivial | (simp only [List.length_append, List.length_cons, List.length_nil]; omega) | (simp only [List.length_append, List.length_cons, List.length_nil, Nat.reduceAdd])) only [go_sem, e_go, e_cond_bool, e_w_bool, e_step_ite, e_reg_ite, e_regW_ite, e_code_ite, e_block_ite, e_evQ_ite, e_fin_ite, e_pair_ite, Tryz.f32]
    refine w_loopc [6] [17] (fun i : Nat => l.length - i) (fun i => i ≤ l.length ∧ all2To p l r i = true) (fun i => ⟨[], []⟩)
      (fun i => [(17, .int .i64 (i : Nat))]) 0 (fun _ => rfl) (by kernel_rfl) ⟨Nat.zero_le _, all2To_zero⟩ ⟨[], [], by simp⟩ (by simp [HasE, lk]) ?_ ?_
    · rintro i -
      simp (disch := assumption) [cloE, clo, cloL, cloB, c_Rno, c_Rfull, c_append, c_flRu]
    rintro i ⟨hi, hq⟩
    by_cases h : i < l.length
    · have hg : l[i]? = some l[i] := by simp [h]
      have hg' : r[i]? = some (r[i]'(by omega)) := by simp
      have hat := fl_at cRu_len hg
      have hat' := fl_at cRu_len hg'
      have hle : i * 22 + 22 ≤ l.length * 22 := by omega
      have hle' : i * 22 + 22 ≤ r.length * 22 := by omega
      have hy := hml _ (List.getElem_mem h)
      have hy' := hmr _ (List.mem_of_getElem? hg')
      have hcall := iP2_Ru_eq (f := f) (p := p) (D := D) ⟨⟨hy.1, hy'⟩, hy.2⟩
      cases hp : p l[i] (r[i]'(by omega))
      · have hn := all2_not hlr hg hg' hp
        simp (disch := first | assumption | omega | exact okR_new | exact okR_one | exact trivial | (simp only [List.length_append, List.length_cons, List.length_nil]; omega) | (simp only [List.length_append, List.length_cons, List.length_nil, Nat.reduceAdd])) only [go_sem, e_go, e_cond_bool, e_w_bool, e_step_ite, e_reg_ite, e_regW_ite, e_code_ite, e_block_ite, e_evQ_ite, e_fin_ite, e_pair_ite, Tryz.f32, hat, hat', hcall, hp, hn] <;> rfl
      · simp (disch := first | assumption | omega | exact okR_new | exact okR_one | exact trivial | (simp only [List.length_append, List.length_cons, List.length_nil]; omega) | (simp only [List.length_append, List.length_cons, List.length_nil, Nat.reduceAdd])) only [go_sem, e_go, e_cond_bool, e_w_bool, e_step_ite, e_reg_ite, e_regW_ite, e_code_ite, e_block_ite, e_evQ_ite, e_fin_ite, e_pair_ite, Tryz.f32, hat, hat', hcall, hp]
        exact ⟨i + 1, dn h, ⟨h, all2To_step hq hg hg' hp⟩, ⟨_, _, rfl⟩, by simp [HasE, lk]⟩
    · have hi' : i = l.length := by omega
      subst hi'
      rw [all2To_all hlr] at hq
      simp (disch := first | assumption | omega | exact okR_new | exact okR_one | exact trivial | (simp only [List.length_append, List.length_cons, List.length_nil]; omega) | (simp only [List.length_append, List.length_cons, List.length_nil, Nat.reduceAdd])) only [go_sem, e_go, e_cond_bool, e_w_bool, e_step_ite, e_reg_ite, e_regW_ite, e_code_ite, e_block_ite, e_evQ_ite, e_fin_ite, e_pair_ite, Tryz.f32, hq, hlr] <;> rfl
  · have hn : decide (l.length = r.length) = false := by simp [hlr]
    simp (disch := first | assumption | omega | exact okR_new | exact okR_one | exact trivial | (simp only [List.length_append, List.length_cons, List.length_nil]; omega) | (simp only [List.length_append, List.length_cons, List.length_nil, Nat.reduceAdd])) only [go_sem, e_go, e_cond_bool, e_w_bool, e_step_ite, e_reg_ite, e_regW_ite, e_code_ite, e_block_ite, e_evQ_ite, e_fin_ite, e_pair_ite, Tryz.f32, hn] <;> rfl
noncomputable def iE_Ru (f : FuncId) (p : Ru → Ru → Bool) (D : Ru → Prop) : List AVal → Option AVal := pimp fun xs v => ∃ l r : List Ru, ((l.length < 9223372036854775808 ∧ r.length < 9223372036854775808) ∧ (∀ y ∈ l, okRu y ∧ D y) ∧ ∀ y ∈ r, okRu y) ∧ xs = [slc cRu l, slc cRu r, .fn f [] []] ∧ v = .bool (decide (l.length = r.length) && all2 p l r)
theorem iE_Ru_eq {f : FuncId} {p : Ru → Ru → Bool} {D : Ru → Prop} {l r : List Ru} (h : (l.length < 9223372036854775808 ∧ r.length < 9223372036854775808) ∧ (∀ y ∈ l, okRu y ∧ D y) ∧ ∀ y ∈ r, okRu y) : iE_Ru f p D [slc cRu l, slc cRu r, .fn f [] []] = some (.bool (decide (l.length = r.length) && all2 p l r)) :=
  pimp_eq ⟨l, r, h, rfl, rfl⟩ (by
    rintro _ ⟨l', r', h', e, rfl⟩
    have e2 := (List.cons.inj e).2
    rw [slc_inj cRu_len (fun a ha b hb e => ruV_inj (h.2.1 a ha).1 (h'.2.1 b hb).1 (congrArg AVal.agg e)) (List.cons.inj e).1, slc_inj cRu_len (fun a ha b hb e => ruV_inj (h.2.2 a ha) (h'.2.2 b hb) (congrArg AVal.agg e)) (List.cons.inj e2).1])
theorem iE_Ru_call {f : FuncId} {p : Ru → Ru → Bool} {D : Ru → Prop} (hf : ∀ a b, (okRu a ∧ okRu b) ∧ D a → PCall Tryz.prog f [ruV a, ruV b] (.bool (p a b))) : ∀ xs v, iE_Ru f p D xs = some v → PCall Tryz.prog 32 xs v :=
  fun xs v h0 => by obtain ⟨l, r, hl, rfl, rfl⟩ := pimp_spec h0; exact w_Eq_Ru hf l r hl

theorem w_Same6 (a b : Sp) (h : okSp a ∧ okSp b) : PCall Tryz.prog 14 [sV a, sV b] (.bool (sameSp a b)) := by
  obtain ⟨ha, hb⟩ := h
  have hl : a.conds.length < 9223372036854775808 ∧ b.conds.length < 9223372036854775808 := ⟨ha.nc, hb.nc⟩
  have hr : (a.rules.length < 9223372036854775808 ∧ b.rules.length < 9223372036854775808) ∧ (∀ y ∈ a.rules, okRu y ∧ True) ∧ ∀ y ∈ b.rules, okRu y := ⟨⟨ha.nr, hb.nr⟩, fun y hy => ⟨ha.ru y hy, trivial⟩, hb.ru⟩
  have hca := cSp_eq a
  have hcb := cSp_eq b
  refine PCall.of_w (fn := Tryz.f14) (Γ := gam [(31, .pure iEqC), (32, .pure (iE_Ru 33 sameRu (fun _ => True)))]) (mu := false) (Sound.pure iEqC_call (Sound.pure (iE_Ru_call fun a b h => w_sameRu a b h.1) Sound.nil)) mixed Tryz.func14 rfl (by kernel_rfl) (by simp) (by kernel_rfl) ?_
  (simp (disch := first | assumption | omega | exact okR_new | exact okR_one | exact trivial | (simp only [List.length_append, List.length_cons, List.length_nil]; omega) | (simp only [List.length_append, List.length_cons, List.length_nil, Nat.reduceAdd])) only [go_sem, e_bin_bool, Bool.true_and, Bool.and_true, Bool.false_and, Bool.and_false, Bool.true_or, Bool.or_true, Bool.false_or, Bool.or_false, Bool.not_eq_eq_eq_not, Bool.not_not, z_or, z_and, z_beq_t, z_beq_f, decide_eq_true_eq, decide_eq_false_iff_not, ite_not, Bool.not_eq_true', Bool.or_eq_true, Bool.and_eq_true, i_t, i_f, Tryz.f14, iEqC_eq, iE_Ru_eq, hca, hcb] <;> (repeat' ((first | refine w_cond_cases ?_ ?_ | refine w_go_cases ?_ ?_ | refine w_pick_cases ?_ ?_) <;> intro hq <;> (try simp only [decide_eq_true_eq, decide_eq_false_iff_not, Bool.not_eq_true', Bool.not_eq_false', Bool.or_eq_true, Bool.and_eq_true, Bool.or_eq_false_iff, Bool.and_eq_false_iff, Bool.not_eq_eq_eq_not, Bool.not_true, Bool.not_false, Bool.not_not] at hq) <;> (first | simp (disch := first | assumption | omega | exact okR_new | exact okR_one | exact trivial | (simp only [List.length_append, List.length_cons, List.length_nil]; omega) | (simp only [List.length_append, List.length_cons, List.length_nil, Nat.reduceAdd])) only [show (_ : Bool) = true from hq, go_sem, e_bin_bool, Bool.true_and, Bool.and_true, Bool.false_and, Bool.and_false, Bool.true_or, Bool.or_true, Bool.false_or, Bool.or_false, Bool.not_eq_eq_eq_not, Bool.not_not, z_or, z_and, z_beq_t, z_beq_f, decide_eq_true_eq, decide_eq_false_iff_not, ite_not, Bool.not_eq_true', Bool.or_eq_true, Bool.and_eq_true, i_t, i_f, Tryz.f14, iEqC_eq, iE_Ru_eq, hca, hcb] | simp (disch := first | assumption | omega | exact okR_new | exact okR_one | exact trivial | (simp only [List.length_append, List.length_cons, List.length_nil]; omega) | (simp only [List.length_append, List.length_cons, List.length_nil, Nat.reduceAdd])) only [show (_ : Bool) = false from hq, go_sem, e_bin_bool, Bool.true_and, Bool.and_true, Bool.false_and, Bool.and_false, Bool.true_or, Bool.or_true, Bool.false_or, Bool.or_false, Bool.not_eq_eq_eq_not, Bool.not_not, z_or, z_and, z_beq_t, z_beq_f, decide_eq_true_eq, decide_eq_false_iff_not, ite_not, Bool.not_eq_true', Bool.or_eq_true, Bool.and_eq_true, i_t, i_f, Tryz.f14, iEqC_eq, iE_Ru_eq, hca, hcb] | simp (disch := first | assumption | omega | exact okR_new | exact okR_one | exact trivial | (simp only [List.length_append, List.length_cons, List.length_nil]; omega) | (simp only [List.length_append, List.length_cons, List.length_nil, Nat.reduceAdd])) only [go_sem, e_bin_bool, Bool.true_and, Bool.and_true, Bool.false_and, Bool.and_false, Bool.true_or, Bool.or_true, Bool.false_or, Bool.or_false, Bool.not_eq_eq_eq_not, Bool.not_not, z_or, z_and, z_beq_t, z_beq_f, decide_eq_true_eq, decide_eq_false_iff_not, ite_not, Bool.not_eq_true', Bool.or_eq_true, Bool.and_eq_true, i_t, i_f, Tryz.f14, iEqC_eq, iE_Ru_eq, hca, hcb] | skip))))
  all_goals (clear hca hcb ha hb hl hr; unfold sameSp; grind)
noncomputable def iSm6 : List AVal → Option AVal := pimp fun xs r => ∃ (a : Sp) (b : Sp), (okSp a ∧ okSp b) ∧ xs = [sV a, sV b] ∧ r = .bool (sameSp a b)
theorem iSm6_eq {a : Sp} {b : Sp} (h : okSp a ∧ okSp b) : iSm6 [sV a, sV b] = some (.bool (sameSp a b)) := pimp_eq ⟨a, b, h, rfl, rfl⟩ (by rintro _ ⟨a', b', h', e, rfl⟩; have e0 := sV_inj h.1 h'.1 (List.cons.inj e).1; have e1 := sV_inj h.2 h'.2 (List.cons.inj (List.cons.inj e).2).1; subst e0 e1; rfl)
theorem iSm6_call : ∀ xs v, iSm6 xs = some v → PCall Tryz.prog 14 xs v := fun xs v h0 => by obtain ⟨a, b, h, rfl, rfl⟩ := pimp_spec h0; exact w_Same6 a b h
theorem w_sameRuR (a b : Ru) (h : okRu a ∧ okRu b) : PCall Tryz.prog 37 [ruV a, ruV b] (.bool (sameRu a b)) := by
  obtain ⟨ha, hb⟩ := h
  have hca := cRu_eq a
  have hcb := cRu_eq b
  have hl := ha.nc
  have hl' := hb.nc
  have hx : okX a.rx ∧ okX b.rx := ⟨ha.rx, hb.rx⟩
  have hy : okX a.trail ∧ okX b.trail := ⟨ha.tr, hb.tr⟩
  refine PCall.of_w (fn := Tryz.f37) (Γ := gam [(55, .pure iSmR)]) (mu := false) (Sound.pure iSmR_call Sound.nil) mixed Tryz.func37 rfl (by kernel_rfl) (by simp) (by kernel_rfl) ?_
  by_cases hlen : a.conds.length = b.conds.length
  · simp (disch := first | assumption | omega | exact okR_new | exact okR_one | exact trivial | (simp only [List.length_append, List.length_cons, List.length_nil]; omega) | (simp only [List.length_append, List.length_cons, List.length_nil, Nat.reduceAdd])) only [go_sem, e_go, e_cond_bool, e_w_bool, e_step_ite, e_reg_ite, e_regW_ite, e_code_ite, e_block_ite, e_evQ_ite, e_fin_ite, e_pair_ite, Tryz.f37, iSmR_eq, hca, hcb]
    refine w_loop [4] [5] (fun i : Nat => a.conds.length - i) (fun i => i ≤ a.conds.length ∧ a.conds.take i = b.conds.take i) (fun i => ⟨[.cells 0 (cRu a), .cells 0 (cRu b)], []⟩)
      (fun i => [(5, .int .i64 (i : Nat))]) 0 (fun _ => rfl) (by kernel_rfl) ⟨Nat.zero_le _, rfl⟩ (by simp only [hca, hcb]) (by simp [HasE, lk]) ?_
    rintro i ⟨hi, hq⟩
    by_cases h : i < a.conds.length
    · have hg : a.conds[i]? = some a.conds[i] := by simp [h]
      have hg' : b.conds[i]? = some (b.conds[i]'(by omega)) := by simp
      have hat := fl_get1 cI_len hg
      have hat' := fl_get1 cI_len hg'
      by_cases he : a.conds[i] = b.conds[i]'(by omega)
      · simp (disch := first | assumption | omega | exact okR_new | exact okR_one | exact trivial | (simp only [List.length_append, List.length_cons, List.length_nil]; omega) | (simp only [List.length_append, List.length_cons, List.length_nil, Nat.reduceAdd])) only [go_sem, e_go, e_cond_bool, e_w_bool, e_step_ite, e_reg_ite, e_regW_ite, e_code_ite, e_block_ite, e_evQ_ite, e_fin_ite, e_pair_ite, Tryz.f37, iSmR_eq, hca, hcb, hat, hat', cI, he]
        exact ⟨i + 1, dn h, ⟨h, eqTo_step hq hg hg' he⟩, by simp only [hca, hcb], by simp [HasE, lk]⟩
      · have hn := eqTo_not hg hg' he
        have hf : sameRu a b = false := by unfold sameRu; rw [decide_eq_false hn]; simp
        simp (disch := first | assumption | omega | exact okR_new | exact okR_one | exact trivial | (simp only [List.length_append, List.length_cons, List.length_nil]; omega) | (simp only [List.length_append, List.length_cons, List.length_nil, Nat.reduceAdd])) only [go_sem, e_go, e_cond_bool, e_w_bool, e_step_ite, e_reg_ite, e_regW_ite, e_code_ite, e_block_ite, e_evQ_ite, e_fin_ite, e_pair_ite, Tryz.f37, iSmR_eq, hca, hcb, hat, hat', cI, he, hf]
    · have hi' : i = a.conds.length := by omega
      subst hi'
      have heq := eqTo_all hlen hq
      (simp (disch := first | assumption | omega | exact okR_new | exact okR_one | exact trivial | (simp only [List.length_append, List.length_cons, List.length_nil]; omega) | (simp only [List.length_append, List.length_cons, List.length_nil, Nat.reduceAdd])) only [go_sem, e_bin_bool, Bool.true_and, Bool.and_true, Bool.false_and, Bool.and_false, Bool.true_or, Bool.or_true, Bool.false_or, Bool.or_false, Bool.not_eq_eq_eq_not, Bool.not_not, z_or, z_and, z_beq_t, z_beq_f, decide_eq_true_eq, decide_eq_false_iff_not, ite_not, Bool.not_eq_true', Bool.or_eq_true, Bool.and_eq_true, i_t, i_f, Tryz.f37, iSmR_eq, hca, hcb] <;> (repeat' ((first | refine w_cond_cases ?_ ?_ | refine w_go_cases ?_ ?_ | refine w_pick_cases ?_ ?_) <;> intro hq <;> (try simp only [decide_eq_true_eq, decide_eq_false_iff_not, Bool.not_eq_true', Bool.not_eq_false', Bool.or_eq_true, Bool.and_eq_true, Bool.or_eq_false_iff, Bool.and_eq_false_iff, Bool.not_eq_eq_eq_not, Bool.not_true, Bool.not_false, Bool.not_not] at hq) <;> (first | simp (disch := first | assumption | omega | exact okR_new | exact okR_one | exact trivial | (simp only [List.length_append, List.length_cons, List.length_nil]; omega) | (simp only [List.length_append, List.length_cons, List.length_nil, Nat.reduceAdd])) only [show (_ : Bool) = true from hq, go_sem, e_bin_bool, Bool.true_and, Bool.and_true, Bool.false_and, Bool.and_false, Bool.true_or, Bool.or_true, Bool.false_or, Bool.or_false, Bool.not_eq_eq_eq_not, Bool.not_not, z_or, z_and, z_beq_t, z_beq_f, decide_eq_true_eq, decide_eq_false_iff_not, ite_not, Bool.not_eq_true', Bool.or_eq_true, Bool.and_eq_true, i_t, i_f, Tryz.f37, iSmR_eq, hca, hcb] | simp (disch := first | assumption | omega | exact okR_new | exact okR_one | exact trivial | (simp only [List.length_append, List.length_cons, List.length_nil]; omega) | (simp only [List.length_append, List.length_cons, List.length_nil, Nat.reduceAdd])) only [show (_ : Bool) = false from hq, go_sem, e_bin_bool, Bool.true_and, Bool.and_true, Bool.false_and, Bool.and_false, Bool.true_or, Bool.or_true, Bool.false_or, Bool.or_false, Bool.not_eq_eq_eq_not, Bool.not_not, z_or, z_and, z_beq_t, z_beq_f, decide_eq_true_eq, decide_eq_false_iff_not, ite_not, Bool.not_eq_true', Bool.or_eq_true, Bool.and_eq_true, i_t, i_f, Tryz.f37, iSmR_eq, hca, hcb] | simp (disch := first | assumption | omega | exact okR_new | exact okR_one | exact trivial | (simp only [List.length_append, List.length_cons, List.length_nil]; omega) | (simp only [List.length_append, List.length_cons, List.length_nil, Nat.reduceAdd])) only [go_sem, e_bin_bool, Bool.true_and, Bool.and_true, Bool.false_and, Bool.and_false, Bool.true_or, Bool.or_true, Bool.false_or, Bool.or_false, Bool.not_eq_eq_eq_not, Bool.not_not, z_or, z_and, z_beq_t, z_beq_f, decide_eq_true_eq, decide_eq_false_iff_not, ite_not, Bool.not_eq_true', Bool.or_eq_true, Bool.and_eq_true, i_t, i_f, Tryz.f37, iSmR_eq, hca, hcb] | skip))))
      all_goals (clear hca hcb ha hb hx hy; unfold sameRu; grind)
  · have hn : ¬ a.conds = b.conds := fun e => hlen (by rw [e])
    have hf : sameRu a b = false := by unfold sameRu; rw [decide_eq_false hn]; simp
    simp (disch := first | assumption | omega | exact okR_new | exact okR_one | exact trivial | (simp only [List.length_append, List.length_cons, List.length_nil]; omega) | (simp only [List.length_append, List.length_cons, List.length_nil, Nat.reduceAdd])) only [go_sem, e_go, e_cond_bool, e_w_bool, e_step_ite, e_reg_ite, e_regW_ite, e_code_ite, e_block_ite, e_evQ_ite, e_fin_ite, e_pair_ite, Tryz.f37, iSmR_eq, hca, hcb, hf]
noncomputable def iSru : List AVal → Option AVal := pimp fun xs r => ∃ (a : Ru) (b : Ru), (okRu a ∧ okRu b) ∧ xs = [ruV a, ruV b] ∧ r = .bool (sameRu a b)
theorem iSru_eq {a : Ru} {b : Ru} (h : okRu a ∧ okRu b) : iSru [ruV a, ruV b] = some (.bool (sameRu a b)) := pimp_eq ⟨a, b, h, rfl, rfl⟩ (by rintro _ ⟨a', b', h', e, rfl⟩; have e0 := ruV_inj h.1 h'.1 (List.cons.inj e).1; have e1 := ruV_inj h.2 h'.2 (List.cons.inj (List.cons.inj e).2).1; subst e0 e1; rfl)
theorem iSru_call : ∀ xs v, iSru xs = some v → PCall Tryz.prog 37 xs v := fun xs v h0 => by obtain ⟨a, b, h, rfl, rfl⟩ := pimp_spec h0; exact w_sameRuR a b h
theorem w_Same6R (a b : Sp) (h : okSp a ∧ okSp b) : PCall Tryz.prog 17 [sV a, sV b] (.bool (sameSp a b)) := by
  obtain ⟨ha, hb⟩ := h
  have hl1 := ha.nc
  have hl2 := hb.nc
  have hl3 := ha.nr
  have hl4 := hb.nr
  have hca := cSp_eq a
  have hcb := cSp_eq b
  refine PCall.of_w (fn := Tryz.f17) (Γ := gam [(37, .pure iSru)]) (mu := false) (Sound.pure iSru_call Sound.nil) mixed Tryz.func17 rfl (by kernel_rfl) (by simp) (by kernel_rfl) ?_
  by_cases hh : a.deft = b.deft ∧ a.conds.length = b.conds.length ∧ a.rules.length = b.rules.length
  · obtain ⟨hd, h1, h2⟩ := hh
    have hse : sameSp a b = (decide (a.conds = b.conds) && all2 sameRu a.rules b.rules) := by unfold sameSp; simp [hd, h2]
    simp (disch := first | assumption | omega | exact okR_new | exact okR_one | exact trivial | (simp only [List.length_append, List.length_cons, List.length_nil]; omega) | (simp only [List.length_append, List.length_cons, List.length_nil, Nat.reduceAdd])) only [go_sem, e_go, e_cond_bool, e_w_bool, e_step_ite, e_reg_ite, e_regW_ite, e_code_ite, e_block_ite, e_evQ_ite, e_fin_ite, e_pair_ite, Tryz.f17, iSru_eq, hca, hcb, hd, e_bin_bool]
    refine w_loop [4] [5] (fun i : Nat => a.conds.length - i) (fun i => i ≤ a.conds.length ∧ a.conds.take i = b.conds.take i) (fun i => ⟨[.cells 0 (cSp a), .cells 0 (cSp b)], []⟩)
      (fun i => [(5, .int .i64 (i : Nat))]) 0 (fun _ => rfl) (by kernel_rfl) ⟨Nat.zero_le _, rfl⟩ (by simp only [hca, hcb, hd]) (by simp [HasE, lk]) ?_
    rintro i ⟨hi, hq⟩
    by_cases h : i < a.conds.length
    · have hg : a.conds[i]? = some a.conds[i] := by simp [h]
      have hg' : b.conds[i]? = some (b.conds[i]'(by omega)) := by simp
      have hat := fl_at cCd_len hg
      have hat' := fl_at cCd_len hg'
      have hle : i * 2 + 2 ≤ a.conds.length * 2 := by omega
      have hle' : i * 2 + 2 ≤ b.conds.length * 2 := by omega
      by_cases he : a.conds[i] = b.conds[i]'(by omega)
      · have hn := eqTo_step hq hg hg' he
        generalize a.conds[i] = c at *
        generalize b.conds[i]'(by omega) = d at *
        have hc := cd_neq2 (c := c) (d := d)
        rw [decide_eq_true he] at hc
        simp (disch := first | assumption | omega | exact okR_new | exact okR_one | exact trivial | (simp only [List.length_append, List.length_cons, List.length_nil]; omega) | (simp only [List.length_append, List.length_cons, List.length_nil, Nat.reduceAdd])) only [go_sem, e_go, e_cond_bool, e_w_bool, e_step_ite, e_reg_ite, e_regW_ite, e_code_ite, e_block_ite, e_evQ_ite, e_fin_ite, e_pair_ite, Tryz.f17, iSru_eq, hca, hcb, hat, hat', hc, hd]
        exact ⟨i + 1, dn h, ⟨h, hn⟩, by simp only [hca, hcb, hd], by simp [HasE, lk]⟩
      · have hn := eqTo_not hg hg' he
        have hf : sameSp a b = false := by rw [hse, decide_eq_false hn]; simp
        generalize a.conds[i] = c at *
        generalize b.conds[i]'(by omega) = d at *
        have hc := cd_neq2 (c := c) (d := d)
        rw [decide_eq_false he] at hc
        simp (disch := first | assumption | omega | exact okR_new | exact okR_one | exact trivial | (simp only [List.length_append, List.length_cons, List.length_nil]; omega) | (simp only [List.length_append, List.length_cons, List.length_nil, Nat.reduceAdd])) only [go_sem, e_go, e_cond_bool, e_w_bool, e_step_ite, e_reg_ite, e_regW_ite, e_code_ite, e_block_ite, e_evQ_ite, e_fin_ite, e_pair_ite, Tryz.f17, iSru_eq, hca, hcb, hat, hat', hc, hd, hf]
    · have hi' : i = a.conds.length := by omega
      subst hi'
      have heq := eqTo_all h1 hq
      rw [decide_eq_true heq, Bool.true_and] at hse
      simp (disch := first | assumption | omega | exact okR_new | exact okR_one | exact trivial | (simp only [List.length_append, List.length_cons, List.length_nil]; omega) | (simp only [List.length_append, List.length_cons, List.length_nil, Nat.reduceAdd])) only [go_sem, e_go, e_cond_bool, e_w_bool, e_step_ite, e_reg_ite, e_regW_ite, e_code_ite, e_block_ite, e_evQ_ite, e_fin_ite, e_pair_ite, Tryz.f17, iSru_eq, hca, hcb, hd]
      refine w_loop [4] [6] (fun i : Nat => a.rules.length - i) (fun i => i ≤ a.rules.length ∧ all2To sameRu a.rules b.rules i = true) (fun i => ⟨[.cells 0 (cSp a), .cells 0 (cSp b)], []⟩)
        (fun i => [(6, .int .i64 (i : Nat))]) 0 (fun _ => rfl) (by kernel_rfl) ⟨Nat.zero_le _, all2To_zero⟩ (by simp only [hca, hcb, hd]) (by simp [HasE, lk]) ?_
      rintro i ⟨hi, hq⟩
      by_cases h : i < a.rules.length
      · have hg : a.rules[i]? = some a.rules[i] := by simp [h]
        have hg' : b.rules[i]? = some (b.rules[i]'(by omega)) := by simp
        have hat := fl_at cRu_len hg
        have hat' := fl_at cRu_len hg'
        have hle : i * 22 + 22 ≤ a.rules.length * 22 := by omega
        have hle' : i * 22 + 22 ≤ b.rules.length * 22 := by omega
        have hok : okRu a.rules[i] ∧ okRu (b.rules[i]'(by omega)) := ⟨ha.ru _ (List.getElem_mem h), hb.ru _ (List.getElem_mem _)⟩
        cases hp : sameRu a.rules[i] (b.rules[i]'(by omega))
        · have hn := all2_not h2 hg hg' hp
          have hf : sameSp a b = false := by rw [hse, hn]
          simp (disch := first | assumption | omega | exact okR_new | exact okR_one | exact trivial | (simp only [List.length_append, List.length_cons, List.length_nil]; omega) | (simp only [List.length_append, List.length_cons, List.length_nil, Nat.reduceAdd])) only [go_sem, e_go, e_cond_bool, e_w_bool, e_step_ite, e_reg_ite, e_regW_ite, e_code_ite, e_block_ite, e_evQ_ite, e_fin_ite, e_pair_ite, Tryz.f17, iSru_eq, hca, hcb, hat, hat', hp, hf, hd]
        · simp (disch := first | assumption | omega | exact okR_new | exact okR_one | exact trivial | (simp only [List.length_append, List.length_cons, List.length_nil]; omega) | (simp only [List.length_append, List.length_cons, List.length_nil, Nat.reduceAdd])) only [go_sem, e_go, e_cond_bool, e_w_bool, e_step_ite, e_reg_ite, e_regW_ite, e_code_ite, e_block_ite, e_evQ_ite, e_fin_ite, e_pair_ite, Tryz.f17, iSru_eq, hca, hcb, hat, hat', hp, hd]
          exact ⟨i + 1, dn h, ⟨h, all2To_step hq hg hg' hp⟩, by simp only [hca, hcb, hd], by simp [HasE, lk]⟩
      · have hi' : i = a.rules.length := by omega
        subst hi'
        rw [all2To_all h2] at hq
        have hf : sameSp a b = true := by rw [hse, hq]
        simp (disch := first | assumption | omega | exact okR_new | exact okR_one | exact trivial | (simp only [List.length_append, List.length_cons, List.length_nil]; omega) | (simp only [List.length_append, List.length_cons, List.length_nil, Nat.reduceAdd])) only [go_sem, e_go, e_cond_bool, e_w_bool, e_step_ite, e_reg_ite, e_regW_ite, e_code_ite, e_block_ite, e_evQ_ite, e_fin_ite, e_pair_ite, Tryz.f17, iSru_eq, hca, hcb, hf, hd]
  · have hf : sameSp a b = false := by
      unfold sameSp
      by_cases h1 : a.conds = b.conds
      · simp only [h1, true_and] at hh; grind
      · simp [h1]
    (simp (disch := first | assumption | omega | exact okR_new | exact okR_one | exact trivial | (simp only [List.length_append, List.length_cons, List.length_nil]; omega) | (simp only [List.length_append, List.length_cons, List.length_nil, Nat.reduceAdd])) only [go_sem, e_bin_bool, Bool.true_and, Bool.and_true, Bool.false_and, Bool.and_false, Bool.true_or, Bool.or_true, Bool.false_or, Bool.or_false, Bool.not_eq_eq_eq_not, Bool.not_not, z_or, z_and, z_beq_t, z_beq_f, decide_eq_true_eq, decide_eq_false_iff_not, ite_not, Bool.not_eq_true', Bool.or_eq_true, Bool.and_eq_true, i_t, i_f, Tryz.f17, iSru_eq, hca, hcb] <;> (repeat' ((first | refine w_cond_cases ?_ ?_ | refine w_go_cases ?_ ?_ | refine w_pick_cases ?_ ?_) <;> intro hq <;> (try simp only [decide_eq_true_eq, decide_eq_false_iff_not, Bool.not_eq_true', Bool.not_eq_false', Bool.or_eq_true, Bool.and_eq_true, Bool.or_eq_false_iff, Bool.and_eq_false_iff, Bool.not_eq_eq_eq_not, Bool.not_true, Bool.not_false, Bool.not_not] at hq) <;> (first | simp (disch := first | assumption | omega | exact okR_new | exact okR_one | exact trivial | (simp only [List.length_append, List.length_cons, List.length_nil]; omega) | (simp only [List.length_append, List.length_cons, List.length_nil, Nat.reduceAdd])) only [show (_ : Bool) = true from hq, go_sem, e_bin_bool, Bool.true_and, Bool.and_true, Bool.false_and, Bool.and_false, Bool.true_or, Bool.or_true, Bool.false_or, Bool.or_false, Bool.not_eq_eq_eq_not, Bool.not_not, z_or, z_and, z_beq_t, z_beq_f, decide_eq_true_eq, decide_eq_false_iff_not, ite_not, Bool.not_eq_true', Bool.or_eq_true, Bool.and_eq_true, i_t, i_f, Tryz.f17, iSru_eq, hca, hcb] | simp (disch := first | assumption | omega | exact okR_new | exact okR_one | exact trivial | (simp only [List.length_append, List.length_cons, List.length_nil]; omega) | (simp only [List.length_append, List.length_cons, List.length_nil, Nat.reduceAdd])) only [show (_ : Bool) = false from hq, go_sem, e_bin_bool, Bool.true_and, Bool.and_true, Bool.false_and, Bool.and_false, Bool.true_or, Bool.or_true, Bool.false_or, Bool.or_false, Bool.not_eq_eq_eq_not, Bool.not_not, z_or, z_and, z_beq_t, z_beq_f, decide_eq_true_eq, decide_eq_false_iff_not, ite_not, Bool.not_eq_true', Bool.or_eq_true, Bool.and_eq_true, i_t, i_f, Tryz.f17, iSru_eq, hca, hcb] | simp (disch := first | assumption | omega | exact okR_new | exact okR_one | exact trivial | (simp only [List.length_append, List.length_cons, List.length_nil]; omega) | (simp only [List.length_append, List.length_cons, List.length_nil, Nat.reduceAdd])) only [go_sem, e_bin_bool, Bool.true_and, Bool.and_true, Bool.false_and, Bool.and_false, Bool.true_or, Bool.or_true, Bool.false_or, Bool.or_false, Bool.not_eq_eq_eq_not, Bool.not_not, z_or, z_and, z_beq_t, z_beq_f, decide_eq_true_eq, decide_eq_false_iff_not, ite_not, Bool.not_eq_true', Bool.or_eq_true, Bool.and_eq_true, i_t, i_f, Tryz.f17, iSru_eq, hca, hcb] | skip))))
    all_goals first | (exfalso; grind) | rw [hf]
noncomputable def iSm6R : List AVal → Option AVal := pimp fun xs r => ∃ (a : Sp) (b : Sp), (okSp a ∧ okSp b) ∧ xs = [sV a, sV b] ∧ r = .bool (sameSp a b)
theorem iSm6R_eq {a : Sp} {b : Sp} (h : okSp a ∧ okSp b) : iSm6R [sV a, sV b] = some (.bool (sameSp a b)) := pimp_eq ⟨a, b, h, rfl, rfl⟩ (by rintro _ ⟨a', b', h', e, rfl⟩; have e0 := sV_inj h.1 h'.1 (List.cons.inj e).1; have e1 := sV_inj h.2 h'.2 (List.cons.inj (List.cons.inj e).2).1; subst e0 e1; rfl)
theorem iSm6R_call : ∀ xs v, iSm6R xs = some v → PCall Tryz.prog 17 xs v := fun xs v h0 => by obtain ⟨a, b, h, rfl, rfl⟩ := pimp_spec h0; exact w_Same6R a b h
theorem w_Act (s : Sp) (i c : Int) (h' : okSp s) : PCall Tryz.prog 13 [sV s, .int .i64 i, .int .i64 c] (.bool (activeS s i c)) := by
  have hl := h'.nc
  have hl2 := h'.nr
  have hcs := cSp_eq s
  refine PCall.of_w (fn := Tryz.f13) (Γ := gam [(30, .pure iCn)]) (mu := false) (Sound.pure iCn_call Sound.nil) mixed Tryz.func13 rfl (by kernel_rfl) (by simp) (by kernel_rfl) ?_
  by_cases hb : 0 ≤ i ∧ i < s.rules.length ∧ 0 ≤ c ∧ c < s.conds.length
  · obtain ⟨h1, h2, h3, h4⟩ := hb
    obtain ⟨k, rfl⟩ : ∃ k : Nat, i = (k : Nat) := ⟨i.toNat, by omega⟩
    obtain ⟨j, rfl⟩ : ∃ j : Nat, c = (j : Nat) := ⟨c.toNat, by omega⟩
    have hk : k < s.rules.length := by omega
    have hj : j < s.conds.length := by omega
    have hg : s.rules[k]? = some s.rules[k] := by simp [hk]
    have hgc : s.conds[j]? = some s.conds[j] := by simp [hj]
    have hat := fl_at cRu_len hg
    have hc1 := fl_get cCd_len hgc (j := 1) (by omega)
    simp only [cCd, List.getElem?_cons_zero, List.getElem?_cons_succ] at hc1
    have hle : k * 22 + 22 ≤ s.rules.length * 22 := by omega
    have hle2 : j * 2 + 2 ≤ s.conds.length * 2 := by omega
    have hor := (h'.ru _ (List.getElem_mem hk)).nc
    have ha : activeS s (k : Nat) (j : Nat) = (s.rules[k].all || s.rules[k].conds.any (fun a => decide (((j : Nat) : Int) = a)) || (decide (s.rules[k].conds.length = 0) && !s.conds[j].ex)) := by
      unfold activeS
      rw [if_pos ⟨h1, h2, h3, h4⟩]
      simp [List.getD_eq_getElem?_getD, hg, hgc]
    rw [ha]
    generalize s.rules[k] = r at *
    generalize s.conds[j] = d at *
    have hcr := cRu_eq r
    clear ha
    (simp (disch := first | assumption | omega | exact okR_new | exact okR_one | exact trivial | (simp only [List.length_append, List.length_cons, List.length_nil]; omega) | (simp only [List.length_append, List.length_cons, List.length_nil, Nat.reduceAdd])) only [go_sem, e_bin_bool, Bool.true_and, Bool.and_true, Bool.false_and, Bool.and_false, Bool.true_or, Bool.or_true, Bool.false_or, Bool.or_false, Bool.not_eq_eq_eq_not, Bool.not_not, z_or, z_and, z_beq_t, z_beq_f, decide_eq_true_eq, decide_eq_false_iff_not, ite_not, Bool.not_eq_true', Bool.or_eq_true, Bool.and_eq_true, i_t, i_f, Tryz.f13, iCn_eq, hcs, hat, hc1, hcr] <;> (repeat' ((first | refine w_cond_cases ?_ ?_ | refine w_go_cases ?_ ?_ | refine w_pick_cases ?_ ?_) <;> intro hq <;> (try simp only [decide_eq_true_eq, decide_eq_false_iff_not, Bool.not_eq_true', Bool.not_eq_false', Bool.or_eq_true, Bool.and_eq_true, Bool.or_eq_false_iff, Bool.and_eq_false_iff, Bool.not_eq_eq_eq_not, Bool.not_true, Bool.not_false, Bool.not_not] at hq) <;> (first | simp (disch := first | assumption | omega | exact okR_new | exact okR_one | exact trivial | (simp only [List.length_append, List.length_cons, List.length_nil]; omega) | (simp only [List.length_append, List.length_cons, List.length_nil, Nat.reduceAdd])) only [show (_ : Bool) = true from hq, go_sem, e_bin_bool, Bool.true_and, Bool.and_true, Bool.false_and, Bool.and_false, Bool.true_or, Bool.or_true, Bool.false_or, Bool.or_false, Bool.not_eq_eq_eq_not, Bool.not_not, z_or, z_and, z_beq_t, z_beq_f, decide_eq_true_eq, decide_eq_false_iff_not, ite_not, Bool.not_eq_true', Bool.or_eq_true, Bool.and_eq_true, i_t, i_f, Tryz.f13, iCn_eq, hcs, hat, hc1, hcr] | simp (disch := first | assumption | omega | exact okR_new | exact okR_one | exact trivial | (simp only [List.length_append, List.length_cons, List.length_nil]; omega) | (simp only [List.length_append, List.length_cons, List.length_nil, Nat.reduceAdd])) only [show (_ : Bool) = false from hq, go_sem, e_bin_bool, Bool.true_and, Bool.and_true, Bool.false_and, Bool.and_false, Bool.true_or, Bool.or_true, Bool.false_or, Bool.or_false, Bool.not_eq_eq_eq_not, Bool.not_not, z_or, z_and, z_beq_t, z_beq_f, decide_eq_true_eq, decide_eq_false_iff_not, ite_not, Bool.not_eq_true', Bool.or_eq_true, Bool.and_eq_true, i_t, i_f, Tryz.f13, iCn_eq, hcs, hat, hc1, hcr] | simp (disch := first | assumption | omega | exact okR_new | exact okR_one | exact trivial | (simp only [List.length_append, List.length_cons, List.length_nil]; omega) | (simp only [List.length_append, List.length_cons, List.length_nil, Nat.reduceAdd])) only [go_sem, e_bin_bool, Bool.true_and, Bool.and_true, Bool.false_and, Bool.and_false, Bool.true_or, Bool.or_true, Bool.false_or, Bool.or_false, Bool.not_eq_eq_eq_not, Bool.not_not, z_or, z_and, z_beq_t, z_beq_f, decide_eq_true_eq, decide_eq_false_iff_not, ite_not, Bool.not_eq_true', Bool.or_eq_true, Bool.and_eq_true, i_t, i_f, Tryz.f13, iCn_eq, hcs, hat, hc1, hcr] | skip))))
    all_goals (clear hcs hat hc1 hcr; grind)
  · have hf : activeS s i c = false := by unfold activeS; rw [if_neg hb]
    (simp (disch := first | assumption | omega | exact okR_new | exact okR_one | exact trivial | (simp only [List.length_append, List.length_cons, List.length_nil]; omega) | (simp only [List.length_append, List.length_cons, List.length_nil, Nat.reduceAdd])) only [go_sem, e_bin_bool, Bool.true_and, Bool.and_true, Bool.false_and, Bool.and_false, Bool.true_or, Bool.or_true, Bool.false_or, Bool.or_false, Bool.not_eq_eq_eq_not, Bool.not_not, z_or, z_and, z_beq_t, z_beq_f, decide_eq_true_eq, decide_eq_false_iff_not, ite_not, Bool.not_eq_true', Bool.or_eq_true, Bool.and_eq_true, i_t, i_f, Tryz.f13, iCn_eq, hcs] <;> (repeat' ((first | refine w_cond_cases ?_ ?_ | refine w_go_cases ?_ ?_ | refine w_pick_cases ?_ ?_) <;> intro hq <;> (try simp only [decide_eq_true_eq, decide_eq_false_iff_not, Bool.not_eq_true', Bool.not_eq_false', Bool.or_eq_true, Bool.and_eq_true, Bool.or_eq_false_iff, Bool.and_eq_false_iff, Bool.not_eq_eq_eq_not, Bool.not_true, Bool.not_false, Bool.not_not] at hq) <;> (first | simp (disch := first | assumption | omega | exact okR_new | exact okR_one | exact trivial | (simp only [List.length_append, List.length_cons, List.length_nil]; omega) | (simp only [List.length_append, List.length_cons, List.length_nil, Nat.reduceAdd])) only [show (_ : Bool) = true from hq, go_sem, e_bin_bool, Bool.true_and, Bool.and_true, Bool.false_and, Bool.and_false, Bool.true_or, Bool.or_true, Bool.false_or, Bool.or_false, Bool.not_eq_eq_eq_not, Bool.not_not, z_or, z_and, z_beq_t, z_beq_f, decide_eq_true_eq, decide_eq_false_iff_not, ite_not, Bool.not_eq_true', Bool.or_eq_true, Bool.and_eq_true, i_t, i_f, Tryz.f13, iCn_eq, hcs] | simp (disch := first | assumption | omega | exact okR_new | exact okR_one | exact trivial | (simp only [List.length_append, List.length_cons, List.length_nil]; omega) | (simp only [List.length_append, List.length_cons, List.length_nil, Nat.reduceAdd])) only [show (_ : Bool) = false from hq, go_sem, e_bin_bool, Bool.true_and, Bool.and_true, Bool.false_and, Bool.and_false, Bool.true_or, Bool.or_true, Bool.false_or, Bool.or_false, Bool.not_eq_eq_eq_not, Bool.not_not, z_or, z_and, z_beq_t, z_beq_f, decide_eq_true_eq, decide_eq_false_iff_not, ite_not, Bool.not_eq_true', Bool.or_eq_true, Bool.and_eq_true, i_t, i_f, Tryz.f13, iCn_eq, hcs] | simp (disch := first | assumption | omega | exact okR_new | exact okR_one | exact trivial | (simp only [List.length_append, List.length_cons, List.length_nil]; omega) | (simp only [List.length_append, List.length_cons, List.length_nil, Nat.reduceAdd])) only [go_sem, e_bin_bool, Bool.true_and, Bool.and_true, Bool.false_and, Bool.and_false, Bool.true_or, Bool.or_true, Bool.false_or, Bool.or_false, Bool.not_eq_eq_eq_not, Bool.not_not, z_or, z_and, z_beq_t, z_beq_f, decide_eq_true_eq, decide_eq_false_iff_not, ite_not, Bool.not_eq_true', Bool.or_eq_true, Bool.and_eq_true, i_t, i_f, Tryz.f13, iCn_eq, hcs] | skip))))
    all_goals first | (exfalso; grind) | rw [hf]
noncomputable def iAct : List AVal → Option AVal := pimp fun xs r => ∃ (u : Sp) (i : Int) (c : Int), (okSp u) ∧ xs = [sV u, .int .i64 i, .int .i64 c] ∧ r = .bool (activeS u i c)
theorem iAct_eq {u : Sp} {i : Int} {c : Int} (h : okSp u) : iAct [sV u, .int .i64 i, .int .i64 c] = some (.bool (activeS u i c)) := pimp_eq ⟨u, i, c, h, rfl, rfl⟩ (by rintro _ ⟨u', i', c', h', e, rfl⟩; have e0 := sV_inj h h' (List.cons.inj e).1; have e1 := (AVal.int.inj (List.cons.inj (List.cons.inj e).2).1).2; have e2 := (AVal.int.inj (List.cons.inj (List.cons.inj (List.cons.inj e).2).2).1).2; subst e0 e1 e2; rfl)
theorem iAct_call : ∀ xs v, iAct xs = some v → PCall Tryz.prog 13 xs v := fun xs v h0 => by obtain ⟨u, i, c, h, rfl, rfl⟩ := pimp_spec h0; exact w_Act u i c h
end Go.Hk.DZD
