/- Layer 3: texts of bytes. -/
import Derived.Test.YtpbepclmcjmlbaaGreatDoorHkDZDRC
import Derived.Test.YtpbepclmcjmlbaaGreatDoorHkDZDJN
import Derived.Test.YtpbepclmcjmlbaaGreatDoorHkDZDR4
import Derived.Test.YtpbepclmcjmlbaaGreatDoorHkPg
set_option linter.unusedSimpArgs false
set_option linter.unusedVariables false
namespace Go.Hk.DZD
open Go.Proofs
theorem ti121 : tiOf Tryz.prog 121 = some { size := 1, bytes := 8, zero := some (.int .u64 0), k := .int .u64 } := by kernel_rfl
attribute [go_sem] ti121
theorem w_plain (n : Nat) (h : n < 256) : PCall Tryz.prog 95 [.int .u8 (n : Nat)] (.bool (plain n)) := by
  refine PCall.of_w (fn := Tryz.f95) (Γ := gam []) (mu := false) Sound.nil mixed Tryz.func95 rfl (by kernel_rfl) (by simp) (by kernel_rfl) ?_
  (simp (disch := first | assumption | omega | exact okR_new | exact okR_one | exact trivial | (simp only [List.length_append, List.length_cons, List.length_nil]; omega) | (simp only [List.length_append, List.length_cons, List.length_nil, Nat.reduceAdd])) only [go_sem, e_bin_bool, Bool.true_and, Bool.and_true, Bool.false_and, Bool.and_false, Bool.true_or, Bool.or_true, Bool.false_or, Bool.or_false, Bool.not_eq_eq_eq_not, Bool.not_not, z_or, z_and, z_beq_t, z_beq_f, decide_eq_true_eq, decide_eq_false_iff_not, ite_not, Bool.not_eq_true', Bool.or_eq_true, Bool.and_eq_true, i_t, i_f, Tryz.f95] <;> (repeat' ((first | refine w_cond_cases ?_ ?_ | refine w_go_cases ?_ ?_ | refine w_pick_cases ?_ ?_) <;> intro hq <;> (try simp only [decide_eq_true_eq, decide_eq_false_iff_not, Bool.not_eq_true', Bool.not_eq_false', Bool.or_eq_true, Bool.and_eq_true, Bool.or_eq_false_iff, Bool.and_eq_false_iff, Bool.not_eq_eq_eq_not, Bool.not_true, Bool.not_false, Bool.not_not] at hq) <;> (first | simp (disch := first | assumption | omega | exact okR_new | exact okR_one | exact trivial | (simp only [List.length_append, List.length_cons, List.length_nil]; omega) | (simp only [List.length_append, List.length_cons, List.length_nil, Nat.reduceAdd])) only [show (_ : Bool) = true from hq, go_sem, e_bin_bool, Bool.true_and, Bool.and_true, Bool.false_and, Bool.and_false, Bool.true_or, Bool.or_true, Bool.false_or, Bool.or_false, Bool.not_eq_eq_eq_not, Bool.not_not, z_or, z_and, z_beq_t, z_beq_f, decide_eq_true_eq, decide_eq_false_iff_not, ite_not, Bool.not_eq_true', Bool.or_eq_true, Bool.and_eq_true, i_t, i_f, Tryz.f95] | simp (disch := first | assumption | omega | exact okR_new | exact okR_one | exact trivial | (simp only [List.length_append, List.length_cons, List.length_nil]; omega) | (simp only [List.length_append, List.length_cons, List.length_nil, Nat.reduceAdd])) only [show (_ : Bool) = false from hq, go_sem, e_bin_bool, Bool.true_and, Bool.and_true, Bool.false_and, Bool.and_false, Bool.true_or, Bool.or_true, Bool.false_or, Bool.or_false, Bool.not_eq_eq_eq_not, Bool.not_not, z_or, z_and, z_beq_t, z_beq_f, decide_eq_true_eq, decide_eq_false_iff_not, ite_not, Bool.not_eq_true', Bool.or_eq_true, Bool.and_eq_true, i_t, i_f, Tryz.f95] | simp (disch := first | assumption | omega | exact okR_new | exact okR_one | exact trivial | (simp only [List.length_append, List.length_cons, List.length_nil]; omega) | (simp only [List.length_append, List.length_cons, List.length_nil, Nat.reduceAdd])) only [go_sem, e_bin_bool, Bool.true_and, Bool.and_true, Bool.false_and, Bool.and_false, Bool.true_or, Bool.or_true, Bool.false_or, Bool.or_false, Bool.not_eq_eq_eq_not, Bool.not_not, z_or, z_and, z_beq_t, z_beq_f, decide_eq_true_eq, decide_eq_false_iff_not, ite_not, Bool.not_eq_true', Bool.or_eq_true, Bool.and_eq_true, i_t, i_f, Tryz.f95] | skip))))
  all_goals (first | rfl | omega | (unfold plain; (repeat' split) <;> (try rw [Bool.eq_iff_iff]) <;> (try simp only [Bool.and_eq_true, Bool.or_eq_true, decide_eq_true_eq, Bool.not_eq_true', Bool.not_eq_false', decide_eq_false_iff_not, decide_eq_decide, Bool.false_eq_true, beq_iff_eq, Bool.not_eq_eq_eq_not, Bool.not_true, Bool.not_false, true_iff, false_iff, iff_true, iff_false, and_true, true_and, not_true_eq_false, not_false_eq_true] at *) <;> first | omega | grind))
noncomputable def iPl : List AVal → Option AVal := pimp fun xs r => ∃ (n : Nat), (n < 256) ∧ xs = [.int .u8 (n : Nat)] ∧ r = .bool (plain n)
theorem iPl_eq {n : Nat} (h : n < 256) : iPl [.int .u8 (n : Nat)] = some (.bool (plain n)) := pimp_eq ⟨n, h, rfl, rfl⟩ (by rintro _ ⟨n', h', e, rfl⟩; have e0 := (List.cons.inj e).1; have e0r := (List.cons.inj e).2; have q0 : n' = n := (by have := (AVal.int.inj e0).2; omega); subst q0; first | rfl | exact ⟨rfl, rfl⟩)
theorem iPl_call : ∀ xs v, iPl xs = some v → PCall Tryz.prog 95 xs v := fun xs v h0 => by obtain ⟨n, h, rfl, rfl⟩ := pimp_spec h0; exact w_plain n h
theorem w_Plain (n : Int) : PCall Tryz.prog 85 [.int .i64 n] (.bool (plain n)) := by
  refine PCall.of_w (fn := Tryz.f85) (Γ := gam []) (mu := false) Sound.nil mixed Tryz.func85 rfl (by kernel_rfl) (by simp) (by kernel_rfl) ?_
  (simp (disch := first | assumption | omega | exact okR_new | exact okR_one | exact trivial | (simp only [List.length_append, List.length_cons, List.length_nil]; omega) | (simp only [List.length_append, List.length_cons, List.length_nil, Nat.reduceAdd])) only [go_sem, e_bin_bool, Bool.true_and, Bool.and_true, Bool.false_and, Bool.and_false, Bool.true_or, Bool.or_true, Bool.false_or, Bool.or_false, Bool.not_eq_eq_eq_not, Bool.not_not, z_or, z_and, z_beq_t, z_beq_f, decide_eq_true_eq, decide_eq_false_iff_not, ite_not, Bool.not_eq_true', Bool.or_eq_true, Bool.and_eq_true, i_t, i_f, Tryz.f85] <;> (repeat' ((first | refine w_cond_cases ?_ ?_ | refine w_go_cases ?_ ?_ | refine w_pick_cases ?_ ?_) <;> intro hq <;> (try simp only [decide_eq_true_eq, decide_eq_false_iff_not, Bool.not_eq_true', Bool.not_eq_false', Bool.or_eq_true, Bool.and_eq_true, Bool.or_eq_false_iff, Bool.and_eq_false_iff, Bool.not_eq_eq_eq_not, Bool.not_true, Bool.not_false, Bool.not_not] at hq) <;> (first | simp (disch := first | assumption | omega | exact okR_new | exact okR_one | exact trivial | (simp only [List.length_append, List.length_cons, List.length_nil]; omega) | (simp only [List.length_append, List.length_cons, List.length_nil, Nat.reduceAdd])) only [show (_ : Bool) = true from hq, go_sem, e_bin_bool, Bool.true_and, Bool.and_true, Bool.false_and, Bool.and_false, Bool.true_or, Bool.or_true, Bool.false_or, Bool.or_false, Bool.not_eq_eq_eq_not, Bool.not_not, z_or, z_and, z_beq_t, z_beq_f, decide_eq_true_eq, decide_eq_false_iff_not, ite_not, Bool.not_eq_true', Bool.or_eq_true, Bool.and_eq_true, i_t, i_f, Tryz.f85] | simp (disch := first | assumption | omega | exact okR_new | exact okR_one | exact trivial | (simp only [List.length_append, List.length_cons, List.length_nil]; omega) | (simp only [List.length_append, List.length_cons, List.length_nil, Nat.reduceAdd])) only [show (_ : Bool) = false from hq, go_sem, e_bin_bool, Bool.true_and, Bool.and_true, Bool.false_and, Bool.and_false, Bool.true_or, Bool.or_true, Bool.false_or, Bool.or_false, Bool.not_eq_eq_eq_not, Bool.not_not, z_or, z_and, z_beq_t, z_beq_f, decide_eq_true_eq, decide_eq_false_iff_not, ite_not, Bool.not_eq_true', Bool.or_eq_true, Bool.and_eq_true, i_t, i_f, Tryz.f85] | simp (disch := first | assumption | omega | exact okR_new | exact okR_one | exact trivial | (simp only [List.length_append, List.length_cons, List.length_nil]; omega) | (simp only [List.length_append, List.length_cons, List.length_nil, Nat.reduceAdd])) only [go_sem, e_bin_bool, Bool.true_and, Bool.and_true, Bool.false_and, Bool.and_false, Bool.true_or, Bool.or_true, Bool.false_or, Bool.or_false, Bool.not_eq_eq_eq_not, Bool.not_not, z_or, z_and, z_beq_t, z_beq_f, decide_eq_true_eq, decide_eq_false_iff_not, ite_not, Bool.not_eq_true', Bool.or_eq_true, Bool.and_eq_true, i_t, i_f, Tryz.f85] | skip))))
  all_goals (first | rfl | omega | (unfold plain; (repeat' split) <;> (try rw [Bool.eq_iff_iff]) <;> (try simp only [Bool.and_eq_true, Bool.or_eq_true, decide_eq_true_eq, Bool.not_eq_true', Bool.not_eq_false', decide_eq_false_iff_not, decide_eq_decide, Bool.false_eq_true, beq_iff_eq, Bool.not_eq_eq_eq_not, Bool.not_true, Bool.not_false, true_iff, false_iff, iff_true, iff_false, and_true, true_and, not_true_eq_false, not_false_eq_true] at *) <;> first | omega | grind))
noncomputable def iPlR : List AVal → Option AVal := pimp fun xs r => ∃ (n : Int), (True) ∧ xs = [.int .i64 n] ∧ r = .bool (plain n)
theorem iPlR_eq {n : Int} (h : True) : iPlR [.int .i64 n] = some (.bool (plain n)) := pimp_eq ⟨n, h, rfl, rfl⟩ (by rintro _ ⟨n', h', e, rfl⟩; have e0 := (List.cons.inj e).1; have e0r := (List.cons.inj e).2; have q0 := (AVal.int.inj e0).2; subst q0; first | rfl | exact ⟨rfl, rfl⟩)
theorem iPlR_call : ∀ xs v, iPlR xs = some v → PCall Tryz.prog 85 xs v := fun xs v h0 => by obtain ⟨n, h, rfl, rfl⟩ := pimp_spec h0; exact w_Plain n
theorem bU1 {mu : Bool} {m : AMem} {a : Int} : abuildSlice Tryz.prog mu m 22 1 [(0, .int .u8 a)] = some (.sl .full 1 [.int .u8 a], m) := build_one ti22 ti5 rfl rfl rfl rfl (by decide) (by decide)
theorem bU2 {m : AMem} {a b : Int} : abuildSlice Tryz.prog false m 22 2 [(0, .int .u8 a), (1, .int .u8 b)] = some (.sl .full 2 [.int .u8 a, .int .u8 b], m) := build_seq (mu := false) (vs := [.int .u8 a, .int .u8 b]) ti22 rfl ti5 rfl rfl (by decide) rfl (by decide)
theorem bU4 {m : AMem} {a b c d : Int} : abuildSlice Tryz.prog false m 22 4 [(0, .int .u8 a), (1, .int .u8 b), (2, .int .u8 c), (3, .int .u8 d)] = some (.sl .full 4 [.int .u8 a, .int .u8 b, .int .u8 c, .int .u8 d], m) := build_seq (mu := false) (vs := [.int .u8 a, .int .u8 b, .int .u8 c, .int .u8 d]) ti22 rfl ti5 rfl rfl (by decide) rfl (by decide)
theorem w_char (n : Nat) (h : n < 256) : PCall Tryz.prog 91 [.int .i64 (n : Nat)] (.str (charT n)) := by
  have h1 : n / 2 ^ 4 < 16 := by omega
  have h2 : n % 16 < 16 := by omega
  have hd1 := (hexd (n / 2 ^ 4)).toNat_lt
  have hd2 := (hexd (n % 16)).toNat_lt
  have ha := and15 h
  refine PCall.of_w (fn := Tryz.f91) (Γ := gam [(95, .pure iPl)]) (mu := false) (Sound.pure iPl_call Sound.nil) mixed Tryz.func91 rfl (by kernel_rfl) (by simp) (by kernel_rfl) ?_
  cases hp : plain n
  · simp (disch := first | assumption | omega | exact okR_new | exact okR_one | exact trivial | (simp only [List.length_append, List.length_cons, List.length_nil]; omega) | (simp only [List.length_append, List.length_cons, List.length_nil, Nat.reduceAdd])) only [go_sem, e_go, e_cond_bool, e_w_bool, e_step_ite, e_reg_ite, e_regW_ite, e_code_ite, e_block_ite, e_evQ_ite, e_fin_ite, e_pair_ite, Tryz.f91, iPl_eq, hp, hexs_at h1, hexs_at h2, ha, bU4]
    simp [charT, hp]
  · simp (disch := first | assumption | omega | exact okR_new | exact okR_one | exact trivial | (simp only [List.length_append, List.length_cons, List.length_nil]; omega) | (simp only [List.length_append, List.length_cons, List.length_nil, Nat.reduceAdd])) only [go_sem, e_go, e_cond_bool, e_w_bool, e_step_ite, e_reg_ite, e_regW_ite, e_code_ite, e_block_ite, e_evQ_ite, e_fin_ite, e_pair_ite, Tryz.f91, iPl_eq, hp, bU1]
    simp [charT, hp]
theorem w_charI (n : Int) (h : 0 ≤ n ∧ n < 256) : PCall Tryz.prog 91 [.int .i64 n] (.str (charI n)) := by
  obtain ⟨k, rfl⟩ := Int.eq_ofNat_of_zero_le h.1
  exact w_char k (by omega)
noncomputable def iCh : List AVal → Option AVal := pimp fun xs r => ∃ (n : Int), (0 ≤ n ∧ n < 256) ∧ xs = [.int .i64 n] ∧ r = .str (charI n)
theorem iCh_eq {n : Int} (h : 0 ≤ n ∧ n < 256) : iCh [.int .i64 n] = some (.str (charI n)) := pimp_eq ⟨n, h, rfl, rfl⟩ (by rintro _ ⟨n', h', e, rfl⟩; have e0 := (List.cons.inj e).1; have e0r := (List.cons.inj e).2; have q0 := (AVal.int.inj e0).2; subst q0; first | rfl | exact ⟨rfl, rfl⟩)
theorem iCh_call : ∀ xs v, iCh xs = some v → PCall Tryz.prog 91 xs v := fun xs v h0 => by obtain ⟨n, h, rfl, rfl⟩ := pimp_spec h0; exact w_charI n h
theorem w_charR (n : Nat) (h : n < 256) : PCall Tryz.prog 79 [.int .i64 (n : Nat)] (.str (charT n)) := by
  have h1 : n / 16 < 16 := by omega
  have h2 : n % 16 < 16 := by omega
  have hd1 := (hexd (n / 16)).toNat_lt
  have hd2 := (hexd (n % 16)).toNat_lt
  have ha : ((n : Nat) : Int).tdiv 16 = ((n / 16 : Nat) : Int) := by rw [Int.tdiv_eq_ediv_of_nonneg (by omega)]; rfl
  have hb : ((n : Nat) : Int).tmod 16 = ((n % 16 : Nat) : Int) := by rw [Int.tmod_eq_emod_of_nonneg (by omega)]; rfl
  refine PCall.of_w (fn := Tryz.f79) (Γ := gam [(85, .pure iPlR)]) (mu := false) (Sound.pure iPlR_call Sound.nil) mixed Tryz.func79 rfl (by kernel_rfl) (by simp) (by kernel_rfl) ?_
  cases hp : plain n
  · simp (disch := first | assumption | omega | exact okR_new | exact okR_one | exact trivial | (simp only [List.length_append, List.length_cons, List.length_nil]; omega) | (simp only [List.length_append, List.length_cons, List.length_nil, Nat.reduceAdd])) only [go_sem, e_go, e_cond_bool, e_w_bool, e_step_ite, e_reg_ite, e_regW_ite, e_code_ite, e_block_ite, e_evQ_ite, e_fin_ite, e_pair_ite, Tryz.f79, iPlR_eq, hp, hexs_at h1, hexs_at h2, ha, hb, bU2]
    simp [charT, hp]
  · simp (disch := first | assumption | omega | exact okR_new | exact okR_one | exact trivial | (simp only [List.length_append, List.length_cons, List.length_nil]; omega) | (simp only [List.length_append, List.length_cons, List.length_nil, Nat.reduceAdd])) only [go_sem, e_go, e_cond_bool, e_w_bool, e_step_ite, e_reg_ite, e_regW_ite, e_code_ite, e_block_ite, e_evQ_ite, e_fin_ite, e_pair_ite, Tryz.f79, iPlR_eq, hp, bU1]
    simp [charT, hp]
theorem w_charIR (n : Int) (h : 0 ≤ n ∧ n < 256) : PCall Tryz.prog 79 [.int .i64 n] (.str (charI n)) := by
  obtain ⟨k, rfl⟩ := Int.eq_ofNat_of_zero_le h.1
  exact w_charR k (by omega)
noncomputable def iChR : List AVal → Option AVal := pimp fun xs r => ∃ (n : Int), (0 ≤ n ∧ n < 256) ∧ xs = [.int .i64 n] ∧ r = .str (charI n)
theorem iChR_eq {n : Int} (h : 0 ≤ n ∧ n < 256) : iChR [.int .i64 n] = some (.str (charI n)) := pimp_eq ⟨n, h, rfl, rfl⟩ (by rintro _ ⟨n', h', e, rfl⟩; have e0 := (List.cons.inj e).1; have e0r := (List.cons.inj e).2; have q0 := (AVal.int.inj e0).2; subst q0; first | rfl | exact ⟨rfl, rfl⟩)
theorem iChR_call : ∀ xs v, iChR xs = some v → PCall Tryz.prog 79 xs v := fun xs v h0 => by obtain ⟨n, h, rfl, rfl⟩ := pimp_spec h0; exact w_charIR n h
theorem small_lo (k : Fin 10) : List.take (((k.val : Nat) + 1 : Int).toNat - k.val) (List.drop k.val [48, 49, 50, 51, 52, 53, 54, 55, 56, 57, 97, 98, 99, 100, 101, 102, 103, 104, 105, 106, 107, 108, 109, 110, 111, 112, 113, 114, 115, 116, 117, 118, 119, 120, 121, 122]) = itoa (k.val : Nat) := by
  revert k; decide +kernel
set_option maxRecDepth 100000 in
theorem w_small (n : Int) (h : 0 ≤ n ∧ n ≤ 20) : PCall Tryz.prog 98 [.int .i64 n] (.str (itoa n)) := by
  refine PCall.of_w (fn := Tryz.f98) (Γ := gam []) (mu := false) Sound.nil mixed Tryz.func98 rfl (by kernel_rfl) (by simp) (by kernel_rfl) ?_
  by_cases h10 : n < 10
  · obtain ⟨k, rfl⟩ := Int.eq_ofNat_of_zero_le h.1
    simp (disch := first | assumption | omega | exact okR_new | exact okR_one | exact trivial | (simp only [List.length_append, List.length_cons, List.length_nil]; omega) | (simp only [List.length_append, List.length_cons, List.length_nil, Nat.reduceAdd])) only [go_sem, e_go, e_cond_bool, e_w_bool, e_step_ite, e_reg_ite, e_regW_ite, e_code_ite, e_block_ite, e_evQ_ite, e_fin_ite, e_pair_ite, Tryz.f98]
    exact congrArg AVal.str (small_lo ⟨k, by omega⟩)
  · have hn : n = 10 ∨ n = 11 ∨ n = 12 ∨ n = 13 ∨ n = 14 ∨ n = 15 ∨ n = 16 ∨ n = 17 ∨ n = 18 ∨ n = 19 ∨ n = 20 := by omega
    rcases hn with rfl | rfl | rfl | rfl | rfl | rfl | rfl | rfl | rfl | rfl | rfl
    all_goals
      simp (disch := first | assumption | omega | exact okR_new | exact okR_one | exact trivial | (simp only [List.length_append, List.length_cons, List.length_nil]; omega) | (simp only [List.length_append, List.length_cons, List.length_nil, Nat.reduceAdd])) only [go_sem, e_go, e_cond_bool, e_w_bool, e_step_ite, e_reg_ite, e_regW_ite, e_code_ite, e_block_ite, e_evQ_ite, e_fin_ite, e_pair_ite, Tryz.f98, List.append_eq]
      rfl
end Go.Hk.DZD
