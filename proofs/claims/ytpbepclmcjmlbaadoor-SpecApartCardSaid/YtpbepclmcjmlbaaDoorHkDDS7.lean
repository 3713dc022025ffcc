/- Layer 6: the texts of rules. -/
import Derived.Test.YtpbepclmcjmlbaaDoorHkDDS6
import Derived.Test.YtpbepclmcjmlbaaDoorHkPh
set_option linter.unusedSimpArgs false
set_option linter.unusedVariables false
set_option maxRecDepth 20000
namespace Go.Hk.DD
open Go.Proofs
theorem ti95 : tiOf Tryd.prog 95 = some { size := 1, bytes := 8, zero := some (.int .i64 0), k := .int .i64 } := by kernel_rfl
attribute [go_sem] ti95
theorem w_acS (n : Int) : PCall Tryd.prog 60 [.int .i64 n] (.str (if n = 1 then [101, 109, 105, 116] else if n = 2 then [115, 107, 105, 112] else [98, 101, 103, 105, 110])) := by
  refine PCall.of_w (fn := Tryd.f60) (Γ := gam []) (mu := false) Sound.nil mixed Tryd.func60 rfl (by kernel_rfl) (by simp) (by kernel_rfl) ?_
  by_cases h1 : n = 1
  · simp (disch := first | assumption | omega | exact okR_new | exact okR_one | exact trivial | (simp only [List.length_append, List.length_cons, List.length_nil]; omega) | (simp only [List.length_append, List.length_cons, List.length_nil, Nat.reduceAdd])) only [go_sem, e_go, e_cond_bool, e_w_bool, e_step_ite, e_reg_ite, e_regW_ite, e_code_ite, e_block_ite, e_evQ_ite, e_fin_ite, e_pair_ite, Tryd.f60, h1]
  · by_cases h2 : n = 2
    · simp (disch := first | assumption | omega | exact okR_new | exact okR_one | exact trivial | (simp only [List.length_append, List.length_cons, List.length_nil]; omega) | (simp only [List.length_append, List.length_cons, List.length_nil, Nat.reduceAdd])) only [go_sem, e_go, e_cond_bool, e_w_bool, e_step_ite, e_reg_ite, e_regW_ite, e_code_ite, e_block_ite, e_evQ_ite, e_fin_ite, e_pair_ite, Tryd.f60, h1, h2]
    · simp (disch := first | assumption | omega | exact okR_new | exact okR_one | exact trivial | (simp only [List.length_append, List.length_cons, List.length_nil]; omega) | (simp only [List.length_append, List.length_cons, List.length_nil, Nat.reduceAdd])) only [go_sem, e_go, e_cond_bool, e_w_bool, e_step_ite, e_reg_ite, e_regW_ite, e_code_ite, e_block_ite, e_evQ_ite, e_fin_ite, e_pair_ite, Tryd.f60, h1, h2]
noncomputable def iAcS : List AVal → Option AVal := pimp fun xs r => ∃ (n : Int), (True) ∧ xs = [.int .i64 n] ∧ r = .str (if n = 1 then [101, 109, 105, 116] else if n = 2 then [115, 107, 105, 112] else [98, 101, 103, 105, 110])
theorem iAcS_eq {n : Int} (h : True) : iAcS [.int .i64 n] = some (.str (if n = 1 then [101, 109, 105, 116] else if n = 2 then [115, 107, 105, 112] else [98, 101, 103, 105, 110])) := pimp_eq ⟨n, h, rfl, rfl⟩ (by rintro _ ⟨n', h', e, rfl⟩; have e0 := (List.cons.inj e).1; have e0r := (List.cons.inj e).2; have q0 := (AVal.int.inj e0).2; subst q0; first | rfl | exact ⟨rfl, rfl⟩)
theorem iAcS_call : ∀ xs v, iAcS xs = some v → PCall Tryd.prog 60 xs v := fun xs v h0 => by obtain ⟨n, h, rfl, rfl⟩ := pimp_spec h0; exact w_acS n
theorem w_ruT (q : Ru) (h : okRu q ∧ matchB q = true) : PCall Tryd.prog 59 [ruV q] (.str (ruT q)) := by
  obtain ⟨ho, hm⟩ := h
  have hx := ho.rx
  have hy := ho.tr
  have hcq := cRu_eq q
  simp only [matchB] at hm
  unfold ruT
  refine PCall.of_w (fn := Tryd.f59) (Γ := gam [(48, .pure iNo), (73, .pure iPr)]) (mu := false) (Sound.pure iNo_call (Sound.pure iPr_call Sound.nil)) mixed Tryd.func59 rfl (by kernel_rfl) (by simp) (by kernel_rfl) ?_
  cases he : q.eof
  · simp only [he, Bool.false_eq_true, if_false, Bool.and_eq_true] at hm ⊢
    obtain ⟨h1, h2⟩ := hm
    have l1 := text_short h1
    have p1 : printV q.rx = .tup (.str (text q.rx)) [.int .i64 0] := by unfold printV; rw [if_pos h1]
    cases hb : q.bol <;> cases hn : noneX q.trail
    all_goals (
      first
      | (have h3 : rightT q.trail = true := by simpa [hn] using h2
         have l2 := text_short h3
         have p2 : printV q.trail = .tup (.str (text q.trail)) [.int .i64 0] := by unfold printV; rw [if_pos h3]
         simp (disch := first | assumption | omega | exact okR_new | exact okR_one | exact trivial | (simp only [List.length_append, List.length_cons, List.length_nil]; omega) | (simp only [List.length_append, List.length_cons, List.length_nil, Nat.reduceAdd])) only [go_sem, e_go, e_cond_bool, e_w_bool, e_step_ite, e_reg_ite, e_regW_ite, e_code_ite, e_block_ite, e_evQ_ite, e_fin_ite, e_pair_ite, Tryd.f59, iNo_eq, iPr_eq, hcq, he, hb, hn, p1, p2]
         try simp)
      | (simp (disch := first | assumption | omega | exact okR_new | exact okR_one | exact trivial | (simp only [List.length_append, List.length_cons, List.length_nil]; omega) | (simp only [List.length_append, List.length_cons, List.length_nil, Nat.reduceAdd])) only [go_sem, e_go, e_cond_bool, e_w_bool, e_step_ite, e_reg_ite, e_regW_ite, e_code_ite, e_block_ite, e_evQ_ite, e_fin_ite, e_pair_ite, Tryd.f59, iNo_eq, iPr_eq, hcq, he, hb, hn, p1]
         try simp))
  · simp (disch := first | assumption | omega | exact okR_new | exact okR_one | exact trivial | (simp only [List.length_append, List.length_cons, List.length_nil]; omega) | (simp only [List.length_append, List.length_cons, List.length_nil, Nat.reduceAdd])) only [go_sem, e_go, e_cond_bool, e_w_bool, e_step_ite, e_reg_ite, e_regW_ite, e_code_ite, e_block_ite, e_evQ_ite, e_fin_ite, e_pair_ite, Tryd.f59, iNo_eq, iPr_eq, hcq, he]
noncomputable def iRuT : List AVal → Option AVal := pimp fun xs r => ∃ (u : Ru), (okRu u ∧ matchB u = true) ∧ xs = [ruV u] ∧ r = .str (ruT u)
theorem iRuT_eq {u : Ru} (h : okRu u ∧ matchB u = true) : iRuT [ruV u] = some (.str (ruT u)) := pimp_eq ⟨u, h, rfl, rfl⟩ (by rintro _ ⟨u', h', e, rfl⟩; have e0 := ruV_inj h.1 h'.1 (List.cons.inj e).1; subst e0; rfl)
theorem iRuT_call : ∀ xs v, iRuT xs = some v → PCall Tryd.prog 59 xs v := fun xs v h0 => by obtain ⟨u, h, rfl, rfl⟩ := pimp_spec h0; exact w_ruT u h
end Go.Hk.DD
