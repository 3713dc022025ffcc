import Derived.Test.YtojahfdjfacgaaaHkQ37
/- Layer 14: bytes as tables. -/
set_option linter.unusedSimpArgs false
set_option linter.unusedVariables false
set_option maxRecDepth 20000
namespace Go.Hk.N
open Go.Proofs

theorem w_HasPre (s : List UInt8) (h : s.length < 400000000) : PCall Try.prog 33 [.str s, .str magic] (.bool (decide (s.take 4 = magic))) := by
  refine PCall.of_w (fn := Try.f33) (Γ := gam []) (mu := false) Sound.nil mixed Try.func33 rfl (by kernel_rfl) (by simp) (by kernel_rfl) ?_
  unfold magic
  by_cases h4 : 4 ≤ s.length
  · have d : decide (4 ≤ (s.length : Int)) = true := decide_eq_true (by omega)
    simp (disch := first | assumption | omega | exact okR_new | exact okR_one | exact trivial | (simp only [List.length_append, List.length_cons, List.length_nil]; omega) | (simp only [List.length_append, List.length_cons, List.length_nil, Nat.reduceAdd])) only [go_sem, e_go, e_cond_bool, e_w_bool, e_step_ite, e_reg_ite, e_regW_ite, e_code_ite, e_block_ite, e_evQ_ite, e_fin_ite, e_pair_ite, Try.f33, d]
  · have d : decide (4 ≤ (s.length : Int)) = false := decide_eq_false (by omega)
    rw [decide_eq_false (fun h => by have := congrArg List.length h; simp at this; omega)]
    simp (disch := first | assumption | omega | exact okR_new | exact okR_one | exact trivial | (simp only [List.length_append, List.length_cons, List.length_nil]; omega) | (simp only [List.length_append, List.length_cons, List.length_nil, Nat.reduceAdd])) only [go_sem, e_go, e_cond_bool, e_w_bool, e_step_ite, e_reg_ite, e_regW_ite, e_code_ite, e_block_ite, e_evQ_ite, e_fin_ite, e_pair_ite, Try.f33, d]
noncomputable def iHp : List AVal → Option AVal := pimp fun xs r => ∃ (s : List UInt8), (s.length < 400000000) ∧ xs = [.str s, .str magic] ∧ r = .bool (decide (s.take 4 = magic))
theorem iHp_eq {s : List UInt8} (h : s.length < 400000000) : iHp [.str s, .str magic] = some (.bool (decide (s.take 4 = magic))) := pimp_eq ⟨s, h, rfl, rfl⟩ (by rintro _ ⟨s', h', e, rfl⟩; have e0 := (List.cons.inj e).1; have e0r := (List.cons.inj e).2; have e1 := (List.cons.inj e0r).1; have e1r := (List.cons.inj e0r).2; have q0 := AVal.str.inj e0; subst q0; first | rfl | exact ⟨rfl, rfl⟩)
theorem iHp_call : ∀ xs v, iHp xs = some v → PCall Try.prog 33 xs v := fun xs v h0 => by obtain ⟨s, h, rfl, rfl⟩ := pimp_spec h0; exact w_HasPre s h
theorem w_CutPre (s : List UInt8) (h : s.length < 400000000) : PCall Try.prog 28 [.str s, .str magic] (if s.take 4 = magic then .tup (.str (s.drop 4)) [.bool true] else .tup (.str s) [.bool false]) := by
  have hH := iHp_eq (s := s) h
  refine PCall.of_w (fn := Try.f28) (Γ := gam [(33, .pure iHp)]) (mu := false) (Sound.pure iHp_call Sound.nil) mixed Try.func28 rfl (by kernel_rfl) (by simp) (by kernel_rfl) ?_
  by_cases hm : s.take 4 = magic
  · rw [if_pos hm]
    rw [decide_eq_true hm] at hH
    have hl : 4 ≤ s.length := by have := congrArg List.length hm; simp [magic] at this; omega
    have hds : List.take (s.length - 4) (List.drop 4 s) = s.drop 4 := List.take_of_length_le (by simp)
    unfold magic at *
    simp (disch := first | assumption | omega | exact okR_new | exact okR_one | exact trivial | (simp only [List.length_append, List.length_cons, List.length_nil]; omega) | (simp only [List.length_append, List.length_cons, List.length_nil, Nat.reduceAdd])) only [go_sem, e_go, e_cond_bool, e_w_bool, e_step_ite, e_reg_ite, e_regW_ite, e_code_ite, e_block_ite, e_evQ_ite, e_fin_ite, e_pair_ite, Try.f28, iHp_eq, hH, hds]
  · rw [if_neg hm]
    rw [decide_eq_false hm] at hH
    unfold magic at *
    simp (disch := first | assumption | omega | exact okR_new | exact okR_one | exact trivial | (simp only [List.length_append, List.length_cons, List.length_nil]; omega) | (simp only [List.length_append, List.length_cons, List.length_nil, Nat.reduceAdd])) only [go_sem, e_go, e_cond_bool, e_w_bool, e_step_ite, e_reg_ite, e_regW_ite, e_code_ite, e_block_ite, e_evQ_ite, e_fin_ite, e_pair_ite, Try.f28, iHp_eq, hH]
noncomputable def iCp0 : List AVal → Option AVal := pimp fun xs r => ∃ (s : List UInt8), (s.length < 400000000) ∧ xs = [.str s, .str magic] ∧ r = (if s.take 4 = magic then .tup (.str (s.drop 4)) [.bool true] else .tup (.str s) [.bool false])
theorem iCp0_eq {s : List UInt8} (h : s.length < 400000000) : iCp0 [.str s, .str magic] = some ((if s.take 4 = magic then .tup (.str (s.drop 4)) [.bool true] else .tup (.str s) [.bool false])) := pimp_eq ⟨s, h, rfl, rfl⟩ (by rintro _ ⟨s', h', e, rfl⟩; have e0 := (List.cons.inj e).1; have e0r := (List.cons.inj e).2; have e1 := (List.cons.inj e0r).1; have e1r := (List.cons.inj e0r).2; have q0 := AVal.str.inj e0; subst q0; first | rfl | exact ⟨rfl, rfl⟩)
theorem iCp0_call : ∀ xs v, iCp0 xs = some v → PCall Try.prog 28 xs v := fun xs v h0 => by obtain ⟨s, h, rfl, rfl⟩ := pimp_spec h0; exact w_CutPre s h
theorem w_CutPre2 (s : List UInt8) (h : s.length < 400000000) : PCall Try.prog 17 [.str s, .str magic] (if s.take 4 = magic then .tup (.str (s.drop 4)) [.bool true] else .tup (.str s) [.bool false]) := by
  have hH := iCp0_eq (s := s) h
  refine PCall.of_w (fn := Try.f17) (Γ := gam [(28, .pure iCp0)]) (mu := false) (Sound.pure iCp0_call Sound.nil) mixed Try.func17 rfl (by kernel_rfl) (by simp) (by kernel_rfl) ?_
  by_cases hm : s.take 4 = magic
  · rw [if_pos hm] at hH ⊢
    unfold magic at *
    simp (disch := first | assumption | omega | exact okR_new | exact okR_one | exact trivial | (simp only [List.length_append, List.length_cons, List.length_nil]; omega) | (simp only [List.length_append, List.length_cons, List.length_nil, Nat.reduceAdd])) only [go_sem, e_go, e_cond_bool, e_w_bool, e_step_ite, e_reg_ite, e_regW_ite, e_code_ite, e_block_ite, e_evQ_ite, e_fin_ite, e_pair_ite, Try.f17, iCp0_eq, hH]
  · rw [if_neg hm] at hH ⊢
    unfold magic at *
    simp (disch := first | assumption | omega | exact okR_new | exact okR_one | exact trivial | (simp only [List.length_append, List.length_cons, List.length_nil]; omega) | (simp only [List.length_append, List.length_cons, List.length_nil, Nat.reduceAdd])) only [go_sem, e_go, e_cond_bool, e_w_bool, e_step_ite, e_reg_ite, e_regW_ite, e_code_ite, e_block_ite, e_evQ_ite, e_fin_ite, e_pair_ite, Try.f17, iCp0_eq, hH]
noncomputable def iCp : List AVal → Option AVal := pimp fun xs r => ∃ (s : List UInt8), (s.length < 400000000) ∧ xs = [.str s, .str magic] ∧ r = (if s.take 4 = magic then .tup (.str (s.drop 4)) [.bool true] else .tup (.str s) [.bool false])
theorem iCp_eq {s : List UInt8} (h : s.length < 400000000) : iCp [.str s, .str magic] = some ((if s.take 4 = magic then .tup (.str (s.drop 4)) [.bool true] else .tup (.str s) [.bool false])) := pimp_eq ⟨s, h, rfl, rfl⟩ (by rintro _ ⟨s', h', e, rfl⟩; have e0 := (List.cons.inj e).1; have e0r := (List.cons.inj e).2; have e1 := (List.cons.inj e0r).1; have e1r := (List.cons.inj e0r).2; have q0 := AVal.str.inj e0; subst q0; first | rfl | exact ⟨rfl, rfl⟩)
theorem iCp_call : ∀ xs v, iCp xs = some v → PCall Try.prog 17 xs v := fun xs v h0 => by obtain ⟨s, h, rfl, rfl⟩ := pimp_spec h0; exact w_CutPre2 s h
end Go.Hk.N
/- Layer 14: bytes as tables: what is recovered. -/
namespace Go.Hk.N
open Go.Proofs

theorem nocall {l : List Oper} (h : (l.all fun o => match o.op with | .call _ => false | _ => true) = true) : ∀ o ∈ l, ∀ c, o.op ≠ .call c := by
  intro o ho c hc
  have := List.all_eq_true.1 h o ho
  rw [hc] at this
  cases this
theorem ta_no : atassert Try.prog .nili 52 true = some (.tup (.agg [.int .i64 0]) [.bool false]) := by simp [atassert, ti52, tas]
theorem ta_yes {v : AVal} : atassert Try.prog (.ifc 52 v) 52 true = some (.tup v [.bool true]) := by simp [atassert, ti52, tas]
theorem d_ret (H : List ABlk) (T : List (Nat × (Nat × Nat))) (hs : shut ⟨H, T⟩ = true) : DCall Try.prog 16 [.ptr 0 0 0, .ptr 1 0 0] ⟨H, T⟩ .returning ⟨H, T⟩ .returning := by
  refine DCall.of_bodyK (Γ := gam []) (mu := false) (v := .nili) Sound.nil (fn := Try.f16) Try.func16 rfl (by simp) rfl rfl rfl rfl rfl rfl (nocall (by kernel_rfl)) (by kernel_rfl) (Nat.le_refl _) (Nat.le_refl _) rfl (.inl ⟨rfl, rfl, rfl⟩) ?_
  intro K hK
  simp (disch := first | assumption | omega | exact okR_new | exact okR_one | exact trivial | (simp only [List.length_append, List.length_cons, List.length_nil]; omega) | (simp only [List.length_append, List.length_cons, List.length_nil, Nat.reduceAdd])) only [go_sem, e_go, e_cond_bool, e_w_bool, e_step_ite, e_reg_ite, e_regW_ite, e_code_ite, e_block_ite, e_evQ_ite, e_fin_ite, e_pair_ite, Try.f16, m_own0, m_put0, ta_no]
  refine hK _ ?_
  refine AWp.w (Γ := gam []) (mu := false) Sound.nil mixed _ _ _ (by kernel_rfl) ?_
  simp (disch := first | assumption | omega | exact okR_new | exact okR_one | exact trivial | (simp only [List.length_append, List.length_cons, List.length_nil]; omega) | (simp only [List.length_append, List.length_cons, List.length_nil, Nat.reduceAdd])) only [go_sem, e_go, e_cond_bool, e_w_bool, e_step_ite, e_reg_ite, e_regW_ite, e_code_ite, e_block_ite, e_evQ_ite, e_fin_ite, e_pair_ite, Try.f16]
  exact ⟨.inl trivial, leftM_one hs⟩
def z8 : List AVal := [.sl .nil 0 [], .int .i64 0, .sl .nil 0 [], .sl .nil 0 [], .sl .nil 0 [], .sl .nil 0 [], .sl .nil 0 [], .sl .nil 0 []]
theorem eight {l : List AVal} (h : l.length = 8) : ∃ a b c d e f g i, l = [a, b, c, d, e, f, g, i] := by
  match l, h with
  | [a, b, c, d, e, f, g, i], _ => exact ⟨a, b, c, d, e, f, g, i, rfl⟩
theorem d_pan (C0 C1 : List AVal) (H : List ABlk) (T : List (Nat × (Nat × Nat))) (n : Nat) (h0 : C0.length = 8) (h1 : C1.length = 1) (hs : shut ⟨.cells 0 (z8) :: .cells 0 [.int .i64 60] :: H, T⟩ = true) :
    DCall Try.prog 16 [.ptr 0 0 0, .ptr 1 0 0] ⟨.cells 0 C0 :: .cells 0 C1 :: H, T⟩ (.panicking [{ v := shortV n, recovered := false }]) ⟨.cells 0 (z8) :: .cells 0 [.int .i64 60] :: H, T⟩ (.panicking [{ v := shortV n, recovered := true }]) := by
  refine DCall.of_bodyK (Γ := gam []) (mu := false) (v := .ifc 52 (.agg [.int .i64 (n : Nat)])) Sound.nil (fn := Try.f16) Try.func16 rfl (by simp) rfl rfl rfl rfl rfl rfl (nocall (by kernel_rfl)) (by kernel_rfl) (by simp) (Nat.le_refl _) rfl (.inr ⟨_, rfl, rfl, ?_⟩) ?_
  · intro κ
    refine .ifc _ _ _ (.agg _ _ rfl (fun j hj => ?_) (fun j hj => ?_))
    · have : j = 0 := by simpa using hj
      subst this
      exact .int _ _
    · have : j = 0 := by simpa using hj
      subst this
      rfl
  · intro K hK
    obtain ⟨a0, a1, a2, a3, a4, a5, a6, a7, rfl⟩ := eight h0
    obtain ⟨b0, rfl⟩ := List.length_eq_one_iff.1 h1
    simp (disch := first | assumption | omega | exact okR_new | exact okR_one | exact trivial | (simp only [List.length_append, List.length_cons, List.length_nil]; omega) | (simp only [List.length_append, List.length_cons, List.length_nil, Nat.reduceAdd])) only [go_sem, e_go, e_cond_bool, e_w_bool, e_step_ite, e_reg_ite, e_regW_ite, e_code_ite, e_block_ite, e_evQ_ite, e_fin_ite, e_pair_ite, Try.f16, m_own0, m_put0, ta_yes]
    refine hK _ ?_
    refine AWp.w (Γ := gam []) (mu := false) Sound.nil mixed _ _ _ (by kernel_rfl) ?_
    simp (disch := first | assumption | omega | exact okR_new | exact okR_one | exact trivial | (simp only [List.length_append, List.length_cons, List.length_nil]; omega) | (simp only [List.length_append, List.length_cons, List.length_nil, Nat.reduceAdd])) only [go_sem, e_go, e_cond_bool, e_w_bool, e_step_ite, e_reg_ite, e_regW_ite, e_code_ite, e_block_ite, e_evQ_ite, e_fin_ite, e_pair_ite, Try.f16]
    exact ⟨.inl trivial, leftM_one (G := .cells 0 z8 :: .cells 0 [.int .i64 60] :: H) hs⟩
end Go.Hk.N
