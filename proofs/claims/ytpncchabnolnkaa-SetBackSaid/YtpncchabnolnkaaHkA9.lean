/- Layer 1: a set out of its runs, walked. -/
import Derived.Test.YtpncchabnolnkaaHkA8
set_option linter.unusedSimpArgs false
set_option linter.unusedVariables false
namespace Go.Hk.A
open Go.Proofs
theorem pairL_fst : ∀ (l : List (Int × Int)) (i : Nat) (_ : i < l.length), (pairL l)[i * 2]? = some (.int .i64 (l[i]?.getD (0, 0)).1)
  | p :: l, 0, _ => by simp [pairL]
  | p :: l, i + 1, h => by
    have := pairL_fst l i (by simpa using h)
    rw [show (i + 1) * 2 = i * 2 + 2 by omega]
    simpa [pairL] using this
theorem pairL_snd : ∀ (l : List (Int × Int)) (i : Nat) (_ : i < l.length), (pairL l)[i * 2 + 1]? = some (.int .i64 (l[i]?.getD (0, 0)).2)
  | p :: l, 0, _ => by simp [pairL]
  | p :: l, i + 1, h => by
    have := pairL_snd l i (by simpa using h)
    rw [show (i + 1) * 2 + 1 = i * 2 + 1 + 2 by omega]
    simpa [pairL] using this
theorem apart_get : ∀ (l : List (Int × Int)) (i : Nat), Apart l → i < l.length → (l[i]?.getD (0, 0)).1 ≤ (l[i]?.getD (0, 0)).2 ∧ (0 < i → (l[i - 1]?.getD (0, 0)).2 + 1 < (l[i]?.getD (0, 0)).1)
  | [p], 0, h, _ => ⟨h, fun h => by omega⟩
  | p :: q :: l, 0, h, _ => ⟨h.1, fun h => by omega⟩
  | p :: q :: l, 1, h, _ => by
    have := apart_get (q :: l) 0 h.2.2 (by simp)
    exact ⟨by simpa using this.1, fun _ => by simpa using h.2.1⟩
  | p :: q :: l, i + 2, h, hl => by
    have := apart_get (q :: l) (i + 1) h.2.2 (by simpa using hl)
    exact ⟨by simpa using this.1, fun _ => by simpa using this.2 (by omega)⟩
theorem cntR_le (rs : List (Int × Int)) (h : ∀ p ∈ rs, 0 ≤ p.1 ∧ p.2 < 256 ∧ p.1 ≤ p.2) : 0 ≤ cntR rs ∧ cntR rs ≤ 256 * rs.length := by
  have key : ∀ (rs : List (Int × Int)) (n : Int), (∀ p ∈ rs, 0 ≤ p.1 ∧ p.2 < 256 ∧ p.1 ≤ p.2) → n ≤ rs.foldl (fun n p => n + p.2 - p.1 + 1) n ∧ rs.foldl (fun n p => n + p.2 - p.1 + 1) n ≤ n + 256 * rs.length := by
    intro rs
    induction rs with
    | nil => intro n _; simp
    | cons p rs ih =>
      intro n hp
      have h1 := ih (n + p.2 - p.1 + 1) fun q hq => hp q (by simp [hq])
      have h2 := hp p (by simp)
      simp only [List.foldl_cons, List.length_cons]
      omega
  have := key rs 0 h
  simp only [cntR]
  omega
theorem mk_self {A : Nat} (h : A < 2 ^ 256) : mk (fun i => A.testBit i) 256 = A := set_ext (mk_lt _ _) h fun i hi => by rw [mk_bit]; simp [hi]
theorem accR_lt (rs : List (Int × Int)) : accR rs < 2 ^ 256 := by
  have key : ∀ (rs : List (Int × Int)) (s : Nat), s < 2 ^ 256 → rs.foldl (fun s p => s ||| ofN p.1 p.2) s < 2 ^ 256 := by
    intro rs
    induction rs with
    | nil => intro s hs; exact hs
    | cons p rs ih => intro s hs; exact ih _ (or_lt2 hs (ofN_lt _ _))
  exact key rs 0 (by decide)
theorem l6 (A : Nat) (hA : A < 2 ^ 256) : PCall Try.prog 6 [setV A] (.bool true) := by
  obtain ⟨b1, b2, b3, b4⟩ := runs_back A 256 (Nat.le_refl _)
  have b5 := runsN_len A 256
  have b6 := lst_len A 256
  rw [mk_self hA] at b1
  have o6 : 0 < 2 ^ 256 := by decide
  refine PCall.of_w (fn := Try.f6) (Γ := gam gL1) (mu := false) sL1 mixed Try.func6 rfl (by kernel_rfl) (by simp) (by kernel_rfl) ?_
  have p1 : ∀ l, strip (pairV l) = some (pairV l) := fun l => by simp only [pairV, strip, pairL_strip]
  simp (disch := first | assumption | omega) only [e_ops, e_prep_nil, e_prep_cons, e_prep_cons_g, e_ops_nil, e_step, e_step_g, e_step_ite, e_dst0, e_dst, e_yield_undef, e_go_true, e_go_false, e_fin, e_fin_ite, e_pair, e_pair_ite, e_put, e_reg, e_reg_ite, e_seq, e_code, e_code_ret, e_code_exit, e_code_ite, e_cond, e_cond_true, e_cond_false, e_block, e_block_normal, e_block_ret, e_block_exit, e_block_exit_ne, e_block_ite, e_exit, e_ret, e_skip, e_label, e_evQ, e_evQ_ite, e_lk_same, e_tmp, e_func, e_int, e_bool, e_str, e_nilp, e_nils, e_nilm, e_nilf, e_nili, e_agg, e_move, e_assign, e_pick, e_pick_true, e_pick_false, e_pick_bool, e_box, e_alloc, e_build, e_buildSlice, e_load, e_store, e_nilCheck, e_binOp, e_unOp, e_convert, e_makeFunc, e_makeSlice, e_slice, e_fieldAddr, e_field, e_indexAddr, e_index, e_extract, e_builtin, e_call, e_call_dyn, e_dyn, e_acall, e_acallP, e_con_pure, e_con_raw, e_conP_pure, e_gam, e_callPure, e_cp, e_bin_int, e_bin_str, e_add, e_sub, e_mul, e_quo, e_rem, e_and, e_or, e_xor, e_eql, e_neq, e_lss, e_leq, e_gtr, e_geq, e_shl, e_shr, e_eqop_eql, e_eqop_neq, e_not, e_neg, e_xor1, w_i64, w_i32, w_u64, w_u32, w_u8, d_t, d_f, i_t, i_f, k_u64, k_i64, k_u32, k_i32, k_u8, k_min, k_fdiv, e_cells_agg, e_cells_int, e_cells_bool, e_cells_str, e_cells_sl, e_cells_msl, e_cells_ptr, e_cells_ipt, e_cells_fn, e_cells_nilp, e_cells_nilf, e_cells_nilm, e_cells_map, e_push, e_set_nil, e_set_cons, s_nil, s_cons, s_consO, s_ptr, s_msl, s_amap, s_int, s_bool, s_str, s_nilp, s_nilm, s_nilf, s_nili, s_undef, s_sl, s_agg, s_ipt, s_fn, s_tup, s_mapO, s_mapO2, e_w_seq, e_w_block, e_w_skip, e_w_ret, e_w_exit, e_w_label, e_w_cond, e_w_true, e_w_false, e_w_region, e_regW, e_regW_ite, e_q_seq, e_q_seq_ret, e_q_seq_exit, e_q_block, e_q_block_ret, e_q_block_exit, e_fn_ret, e_fn_normal, e_view, e_view_some, n_tdiv64, n_tmod64, n_pow, n_has, n_or, n_href, n_many, n_agg, e_lk, e_put_none, aindexAddr, afieldAddr, afield, aindex, aload, astore, abuiltin, alen, aextract, anil, apart, andL, aeq, List.map_cons, List.map_nil, List.getElem?_cons_zero, List.getElem?_cons_succ, List.getElem?_nil, List.length_cons, List.length_nil, List.nil_append, List.cons_append, Nat.reduceAdd, Int.reduceEq, Int.reduceLT, Int.reduceLE, Int.reduceNe, Int.reduceAdd, Int.reduceSub, Int.reduceMul, Int.reduceToNat, FnQ, ares, aresL, exists_eq_left', Option.some.injEq, AVal.bool.injEq, Int.one_mul, Int.natCast_nonneg, Int.toNat_natCast, setL_get, setL_len, Nat.le_refl, setV_cells, setV_strip, setV_zero, setL_zero, setL_all, n_set, Option.getD_some, Nat.min_self, TK.agg, Nat.reduceMul, Nat.reduceLT, Nat.reduceLeDiff, Nat.reduceEqDiff, Nat.succ_ne_self, ↓reduceIte, if_true, if_false, reduceCtorEq, envFrom, Option.bind_some, Option.map_some, Nat.zero_add, Nat.add_zero, beq_self_eq_true, Bool.false_eq_true, Bool.true_beq, Bool.false_beq, Bool.not_true, Bool.not_false, e_yield_bool, e_go, e_cond_bool, e_w_bool, and_self, and_true, true_and, List.set_cons_zero, List.set_cons_succ, List.set_nil, Nat.reduceSub, Nat.reduceDiv, Nat.sub_zero, Nat.zero_mul, Nat.mul_one, Nat.one_ne_zero, Nat.zero_ne_one, not_true_eq_false, not_false_eq_true, decide_true, decide_false, Try.f6, gL1, gL0, ti3, ti4, ti22, ti24, ti32, ti35, ti39, iAwake_eq, iRuns_eq, setL_take, p1]
  generalize hrs : runsN A 256 = rs at *
  refine w_loop (fun i : Nat => rs.length - i) (fun i => i ≤ rs.length) (fun i => ⟨[.cells 0 (setL A), .cells 0 (setL (accR (rs.take i)))], []⟩)
    (fun i => [(1, .ptr 0 0 0), (3, .bool true), (4, .ptr 1 0 0), (5, .int .i64 (cntR (rs.take i))), (6, pairV rs), (7, .int .i64 (i : Nat))]) 0 (by simp) rfl (by simp [HasE, lk, cntR]) ?_
  rintro i hi E ⟨l1, l3, l4, l5, l6, l7, -⟩
  have o1 := accR_lt (rs.take i)
  obtain ⟨c1, c2⟩ := cntR_le (rs.take i) fun p hp => by have := b4 p (List.mem_of_mem_take hp); omega
  have c3 : (rs.take i).length ≤ 256 := by rw [List.length_take]; omega
  by_cases h : i < rs.length
  · obtain ⟨a1, a2⟩ := apart_get rs i b3 h
    have hg : rs[i]?.getD (0, 0) = rs[i] := by simp [h]
    have a3 := b4 rs[i] (List.getElem_mem h)
    have hs : accR (rs.take (i + 1)) = accR (rs.take i) ||| ofN (rs[i]?.getD (0, 0)).1 (rs[i]?.getD (0, 0)).2 := by
      rw [List.take_succ_eq_append_getElem h, accR_add, hg]
    have hc : cntR (rs.take (i + 1)) = cntR (rs.take i) + (rs[i]?.getD (0, 0)).2 - (rs[i]?.getD (0, 0)).1 + 1 := by
      rw [List.take_succ_eq_append_getElem h, cntR_add, hg]
    rw [← hg] at a3
    have o2 := ofN_lt (rs[i]?.getD (0, 0)).1 (rs[i]?.getD (0, 0)).2
    by_cases h0 : 0 < i
    · have a4 := a2 h0
      have hi1 : i - 1 < rs.length := by omega
      have hg2 : rs[i - 1]?.getD (0, 0) = rs[i - 1] := by simp [hi1]
      have a5 := b4 rs[i - 1] (List.getElem_mem hi1)
      rw [← hg2] at a5
      have e1 : ((i : Int) - 1) = ((i - 1 : Nat) : Int) := by omega
      simp (disch := first | assumption | omega) only [e_ops, e_prep_nil, e_prep_cons, e_prep_cons_g, e_ops_nil, e_step, e_step_g, e_step_ite, e_dst0, e_dst, e_yield_undef, e_go_true, e_go_false, e_fin, e_fin_ite, e_pair, e_pair_ite, e_put, e_reg, e_reg_ite, e_seq, e_code, e_code_ret, e_code_exit, e_code_ite, e_cond, e_cond_true, e_cond_false, e_block, e_block_normal, e_block_ret, e_block_exit, e_block_exit_ne, e_block_ite, e_exit, e_ret, e_skip, e_label, e_evQ, e_evQ_ite, e_lk_same, e_tmp, e_func, e_int, e_bool, e_str, e_nilp, e_nils, e_nilm, e_nilf, e_nili, e_agg, e_move, e_assign, e_pick, e_pick_true, e_pick_false, e_pick_bool, e_box, e_alloc, e_build, e_buildSlice, e_load, e_store, e_nilCheck, e_binOp, e_unOp, e_convert, e_makeFunc, e_makeSlice, e_slice, e_fieldAddr, e_field, e_indexAddr, e_index, e_extract, e_builtin, e_call, e_call_dyn, e_dyn, e_acall, e_acallP, e_con_pure, e_con_raw, e_conP_pure, e_gam, e_callPure, e_cp, e_bin_int, e_bin_str, e_add, e_sub, e_mul, e_quo, e_rem, e_and, e_or, e_xor, e_eql, e_neq, e_lss, e_leq, e_gtr, e_geq, e_shl, e_shr, e_eqop_eql, e_eqop_neq, e_not, e_neg, e_xor1, w_i64, w_i32, w_u64, w_u32, w_u8, d_t, d_f, i_t, i_f, k_u64, k_i64, k_u32, k_i32, k_u8, k_min, k_fdiv, e_cells_agg, e_cells_int, e_cells_bool, e_cells_str, e_cells_sl, e_cells_msl, e_cells_ptr, e_cells_ipt, e_cells_fn, e_cells_nilp, e_cells_nilf, e_cells_nilm, e_cells_map, e_push, e_set_nil, e_set_cons, s_nil, s_cons, s_consO, s_ptr, s_msl, s_amap, s_int, s_bool, s_str, s_nilp, s_nilm, s_nilf, s_nili, s_undef, s_sl, s_agg, s_ipt, s_fn, s_tup, s_mapO, s_mapO2, e_w_seq, e_w_block, e_w_skip, e_w_ret, e_w_exit, e_w_label, e_w_cond, e_w_true, e_w_false, e_w_region, e_regW, e_regW_ite, e_q_seq, e_q_seq_ret, e_q_seq_exit, e_q_block, e_q_block_ret, e_q_block_exit, e_fn_ret, e_fn_normal, e_view, e_view_some, n_tdiv64, n_tmod64, n_pow, n_has, n_or, n_href, n_many, n_agg, e_lk, e_put_none, aindexAddr, afieldAddr, afield, aindex, aload, astore, abuiltin, alen, aextract, anil, apart, andL, aeq, List.map_cons, List.map_nil, List.getElem?_cons_zero, List.getElem?_cons_succ, List.getElem?_nil, List.length_cons, List.length_nil, List.nil_append, List.cons_append, Nat.reduceAdd, Int.reduceEq, Int.reduceLT, Int.reduceLE, Int.reduceNe, Int.reduceAdd, Int.reduceSub, Int.reduceMul, Int.reduceToNat, FnQ, ares, aresL, exists_eq_left', Option.some.injEq, AVal.bool.injEq, Int.one_mul, Int.natCast_nonneg, Int.toNat_natCast, setL_get, setL_len, Nat.le_refl, setV_cells, setV_strip, setV_zero, setL_zero, setL_all, n_set, Option.getD_some, Nat.min_self, TK.agg, Nat.reduceMul, Nat.reduceLT, Nat.reduceLeDiff, Nat.reduceEqDiff, Nat.succ_ne_self, ↓reduceIte, if_true, if_false, reduceCtorEq, envFrom, Option.bind_some, Option.map_some, Nat.zero_add, Nat.add_zero, beq_self_eq_true, Bool.false_eq_true, Bool.true_beq, Bool.false_beq, Bool.not_true, Bool.not_false, e_yield_bool, e_go, e_cond_bool, e_w_bool, and_self, and_true, true_and, List.set_cons_zero, List.set_cons_succ, List.set_nil, Nat.reduceSub, Nat.reduceDiv, Nat.sub_zero, Nat.zero_mul, Nat.mul_one, Nat.one_ne_zero, Nat.zero_ne_one, not_true_eq_false, not_false_eq_true, decide_true, decide_false, gL1, gL0, ti3, ti4, ti22, ti24, ti32, ti35, ti39, l1, l3, l4, l5, l6, l7, pairV, pairL_len, pairL_fst, pairL_snd, e1, iOf_eq, iOr_eq, setL_take]
      exact ⟨i + 1, dn h, h, by simp only [hs], by simp [HasE, lk, l1, l3, l4, l6, hc, pairV]⟩
    · simp (disch := first | assumption | omega) only [e_ops, e_prep_nil, e_prep_cons, e_prep_cons_g, e_ops_nil, e_step, e_step_g, e_step_ite, e_dst0, e_dst, e_yield_undef, e_go_true, e_go_false, e_fin, e_fin_ite, e_pair, e_pair_ite, e_put, e_reg, e_reg_ite, e_seq, e_code, e_code_ret, e_code_exit, e_code_ite, e_cond, e_cond_true, e_cond_false, e_block, e_block_normal, e_block_ret, e_block_exit, e_block_exit_ne, e_block_ite, e_exit, e_ret, e_skip, e_label, e_evQ, e_evQ_ite, e_lk_same, e_tmp, e_func, e_int, e_bool, e_str, e_nilp, e_nils, e_nilm, e_nilf, e_nili, e_agg, e_move, e_assign, e_pick, e_pick_true, e_pick_false, e_pick_bool, e_box, e_alloc, e_build, e_buildSlice, e_load, e_store, e_nilCheck, e_binOp, e_unOp, e_convert, e_makeFunc, e_makeSlice, e_slice, e_fieldAddr, e_field, e_indexAddr, e_index, e_extract, e_builtin, e_call, e_call_dyn, e_dyn, e_acall, e_acallP, e_con_pure, e_con_raw, e_conP_pure, e_gam, e_callPure, e_cp, e_bin_int, e_bin_str, e_add, e_sub, e_mul, e_quo, e_rem, e_and, e_or, e_xor, e_eql, e_neq, e_lss, e_leq, e_gtr, e_geq, e_shl, e_shr, e_eqop_eql, e_eqop_neq, e_not, e_neg, e_xor1, w_i64, w_i32, w_u64, w_u32, w_u8, d_t, d_f, i_t, i_f, k_u64, k_i64, k_u32, k_i32, k_u8, k_min, k_fdiv, e_cells_agg, e_cells_int, e_cells_bool, e_cells_str, e_cells_sl, e_cells_msl, e_cells_ptr, e_cells_ipt, e_cells_fn, e_cells_nilp, e_cells_nilf, e_cells_nilm, e_cells_map, e_push, e_set_nil, e_set_cons, s_nil, s_cons, s_consO, s_ptr, s_msl, s_amap, s_int, s_bool, s_str, s_nilp, s_nilm, s_nilf, s_nili, s_undef, s_sl, s_agg, s_ipt, s_fn, s_tup, s_mapO, s_mapO2, e_w_seq, e_w_block, e_w_skip, e_w_ret, e_w_exit, e_w_label, e_w_cond, e_w_true, e_w_false, e_w_region, e_regW, e_regW_ite, e_q_seq, e_q_seq_ret, e_q_seq_exit, e_q_block, e_q_block_ret, e_q_block_exit, e_fn_ret, e_fn_normal, e_view, e_view_some, n_tdiv64, n_tmod64, n_pow, n_has, n_or, n_href, n_many, n_agg, e_lk, e_put_none, aindexAddr, afieldAddr, afield, aindex, aload, astore, abuiltin, alen, aextract, anil, apart, andL, aeq, List.map_cons, List.map_nil, List.getElem?_cons_zero, List.getElem?_cons_succ, List.getElem?_nil, List.length_cons, List.length_nil, List.nil_append, List.cons_append, Nat.reduceAdd, Int.reduceEq, Int.reduceLT, Int.reduceLE, Int.reduceNe, Int.reduceAdd, Int.reduceSub, Int.reduceMul, Int.reduceToNat, FnQ, ares, aresL, exists_eq_left', Option.some.injEq, AVal.bool.injEq, Int.one_mul, Int.natCast_nonneg, Int.toNat_natCast, setL_get, setL_len, Nat.le_refl, setV_cells, setV_strip, setV_zero, setL_zero, setL_all, n_set, Option.getD_some, Nat.min_self, TK.agg, Nat.reduceMul, Nat.reduceLT, Nat.reduceLeDiff, Nat.reduceEqDiff, Nat.succ_ne_self, ↓reduceIte, if_true, if_false, reduceCtorEq, envFrom, Option.bind_some, Option.map_some, Nat.zero_add, Nat.add_zero, beq_self_eq_true, Bool.false_eq_true, Bool.true_beq, Bool.false_beq, Bool.not_true, Bool.not_false, e_yield_bool, e_go, e_cond_bool, e_w_bool, and_self, and_true, true_and, List.set_cons_zero, List.set_cons_succ, List.set_nil, Nat.reduceSub, Nat.reduceDiv, Nat.sub_zero, Nat.zero_mul, Nat.mul_one, Nat.one_ne_zero, Nat.zero_ne_one, not_true_eq_false, not_false_eq_true, decide_true, decide_false, gL1, gL0, ti3, ti4, ti22, ti24, ti32, ti35, ti39, l1, l3, l4, l5, l6, l7, pairV, pairL_len, pairL_fst, pairL_snd, iOf_eq, iOr_eq, setL_take]
      exact ⟨i + 1, dn h, h, by simp only [hs], by simp [HasE, lk, l1, l3, l4, l6, hc, pairV]⟩
  · have h4 : i = rs.length := by omega
    subst h4
    rw [List.take_length] at *
    rw [b1] at *
    simp (disch := first | assumption | omega) only [e_ops, e_prep_nil, e_prep_cons, e_prep_cons_g, e_ops_nil, e_step, e_step_g, e_step_ite, e_dst0, e_dst, e_yield_undef, e_go_true, e_go_false, e_fin, e_fin_ite, e_pair, e_pair_ite, e_put, e_reg, e_reg_ite, e_seq, e_code, e_code_ret, e_code_exit, e_code_ite, e_cond, e_cond_true, e_cond_false, e_block, e_block_normal, e_block_ret, e_block_exit, e_block_exit_ne, e_block_ite, e_exit, e_ret, e_skip, e_label, e_evQ, e_evQ_ite, e_lk_same, e_tmp, e_func, e_int, e_bool, e_str, e_nilp, e_nils, e_nilm, e_nilf, e_nili, e_agg, e_move, e_assign, e_pick, e_pick_true, e_pick_false, e_pick_bool, e_box, e_alloc, e_build, e_buildSlice, e_load, e_store, e_nilCheck, e_binOp, e_unOp, e_convert, e_makeFunc, e_makeSlice, e_slice, e_fieldAddr, e_field, e_indexAddr, e_index, e_extract, e_builtin, e_call, e_call_dyn, e_dyn, e_acall, e_acallP, e_con_pure, e_con_raw, e_conP_pure, e_gam, e_callPure, e_cp, e_bin_int, e_bin_str, e_add, e_sub, e_mul, e_quo, e_rem, e_and, e_or, e_xor, e_eql, e_neq, e_lss, e_leq, e_gtr, e_geq, e_shl, e_shr, e_eqop_eql, e_eqop_neq, e_not, e_neg, e_xor1, w_i64, w_i32, w_u64, w_u32, w_u8, d_t, d_f, i_t, i_f, k_u64, k_i64, k_u32, k_i32, k_u8, k_min, k_fdiv, e_cells_agg, e_cells_int, e_cells_bool, e_cells_str, e_cells_sl, e_cells_msl, e_cells_ptr, e_cells_ipt, e_cells_fn, e_cells_nilp, e_cells_nilf, e_cells_nilm, e_cells_map, e_push, e_set_nil, e_set_cons, s_nil, s_cons, s_consO, s_ptr, s_msl, s_amap, s_int, s_bool, s_str, s_nilp, s_nilm, s_nilf, s_nili, s_undef, s_sl, s_agg, s_ipt, s_fn, s_tup, s_mapO, s_mapO2, e_w_seq, e_w_block, e_w_skip, e_w_ret, e_w_exit, e_w_label, e_w_cond, e_w_true, e_w_false, e_w_region, e_regW, e_regW_ite, e_q_seq, e_q_seq_ret, e_q_seq_exit, e_q_block, e_q_block_ret, e_q_block_exit, e_fn_ret, e_fn_normal, e_view, e_view_some, n_tdiv64, n_tmod64, n_pow, n_has, n_or, n_href, n_many, n_agg, e_lk, e_put_none, aindexAddr, afieldAddr, afield, aindex, aload, astore, abuiltin, alen, aextract, anil, apart, andL, aeq, List.map_cons, List.map_nil, List.getElem?_cons_zero, List.getElem?_cons_succ, List.getElem?_nil, List.length_cons, List.length_nil, List.nil_append, List.cons_append, Nat.reduceAdd, Int.reduceEq, Int.reduceLT, Int.reduceLE, Int.reduceNe, Int.reduceAdd, Int.reduceSub, Int.reduceMul, Int.reduceToNat, FnQ, ares, aresL, exists_eq_left', Option.some.injEq, AVal.bool.injEq, Int.one_mul, Int.natCast_nonneg, Int.toNat_natCast, setL_get, setL_len, Nat.le_refl, setV_cells, setV_strip, setV_zero, setL_zero, setL_all, n_set, Option.getD_some, Nat.min_self, TK.agg, Nat.reduceMul, Nat.reduceLT, Nat.reduceLeDiff, Nat.reduceEqDiff, Nat.succ_ne_self, ↓reduceIte, if_true, if_false, reduceCtorEq, envFrom, Option.bind_some, Option.map_some, Nat.zero_add, Nat.add_zero, beq_self_eq_true, Bool.false_eq_true, Bool.true_beq, Bool.false_beq, Bool.not_true, Bool.not_false, e_yield_bool, e_go, e_cond_bool, e_w_bool, and_self, and_true, true_and, List.set_cons_zero, List.set_cons_succ, List.set_nil, Nat.reduceSub, Nat.reduceDiv, Nat.sub_zero, Nat.zero_mul, Nat.mul_one, Nat.one_ne_zero, Nat.zero_ne_one, not_true_eq_false, not_false_eq_true, decide_true, decide_false, gL1, gL0, ti3, ti4, ti22, ti24, ti32, ti35, ti39, l1, l3, l4, l5, l6, l7, pairV, pairL_len, set_eql, iList_eq, intV, intL_len, setL_take, b2]
end Go.Hk.A
