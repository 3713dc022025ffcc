/- Layer 1: turning over, and a set out of its runs. -/
import Derived.Test.YtpncchabnolnkaaHkA6
set_option linter.unusedSimpArgs false
set_option linter.unusedVariables false
namespace Go.Hk.A
open Go.Proofs
theorem notN_bit (A i : Nat) (h : i < 256) : (notN A).testBit i = !A.testBit i := by rw [notN, mk_bit]; simp [h]
theorem foldN_bit (A i : Nat) (h : i < 256) : (foldN A).testBit i = (A.testBit i || A.testBit (oth i)) := by rw [foldN, mk_bit]; simp [h]
theorem not_not' {A : Nat} (h : A < 2 ^ 256) : notN (notN A) = A := set_ext (notN_lt _) h fun i hi => by rw [notN_bit _ i hi, notN_bit _ i hi]; simp
theorem not_or' (A B : Nat) : notN (A ||| B) = notN A &&& notN B := set_ext (notN_lt _) (Nat.and_lt_two_pow _ (notN_lt _)) fun i hi => by
  rw [Nat.testBit_and, notN_bit _ i hi, notN_bit _ i hi, notN_bit _ i hi, Nat.testBit_or]; simp
theorem fold_fold (A : Nat) : foldN (foldN A) = foldN A := set_ext (foldN_lt _) (foldN_lt _) fun i hi => by
  rw [foldN_bit _ i hi, foldN_bit _ i hi, foldN_bit _ _ (oth_lt hi), oth_oth]; cases A.testBit i <;> cases A.testBit (oth i) <;> rfl
theorem fold_or {A : Nat} (h : A < 2 ^ 256) : foldN A ||| A = foldN A := set_ext (Nat.or_lt_two_pow (foldN_lt _) h) (foldN_lt _) fun i hi => by
  rw [Nat.testBit_or, foldN_bit _ i hi]; cases A.testBit i <;> cases A.testBit (oth i) <;> rfl
theorem and_not (A : Nat) : A &&& notN A = 0 := set_ext (Nat.and_lt_two_pow _ (notN_lt _)) (by decide) fun i hi => by
  rw [Nat.testBit_and, notN_bit _ i hi]; simp
theorem l5 (A B : Nat) (hA : A < 2 ^ 256) (hB : B < 2 ^ 256) : PCall Try.prog 5 [setV A, setV B] (.bool true) := by
  have o1 := or_lt2 hA hB
  have o2 := notN_lt A
  have o3 := notN_lt B
  have o4 := foldN_lt A
  have o5 : notN A &&& notN B < 2 ^ 256 := and_lt2 o3
  have o6 : 0 < 2 ^ 256 := by decide
  refine PCall.of_w (fn := Try.f5) (Γ := gam gL1) (mu := false) sL1 mixed Try.func5 rfl (by kernel_rfl) (by simp) (by kernel_rfl) ?_
  simp (disch := first | assumption | omega) only [e_ops, e_prep_nil, e_prep_cons, e_prep_cons_g, e_ops_nil, e_step, e_step_g, e_step_ite, e_dst0, e_dst, e_yield_undef, e_go_true, e_go_false, e_fin, e_fin_ite, e_pair, e_pair_ite, e_put, e_reg, e_reg_ite, e_seq, e_code, e_code_ret, e_code_exit, e_code_ite, e_cond, e_cond_true, e_cond_false, e_block, e_block_normal, e_block_ret, e_block_exit, e_block_exit_ne, e_block_ite, e_exit, e_ret, e_skip, e_label, e_evQ, e_evQ_ite, e_lk_same, e_tmp, e_func, e_int, e_bool, e_str, e_nilp, e_nils, e_nilm, e_nilf, e_nili, e_agg, e_move, e_assign, e_pick, e_pick_true, e_pick_false, e_pick_bool, e_box, e_alloc, e_build, e_buildSlice, e_load, e_store, e_nilCheck, e_binOp, e_unOp, e_convert, e_makeFunc, e_makeSlice, e_slice, e_fieldAddr, e_field, e_indexAddr, e_index, e_extract, e_builtin, e_call, e_call_dyn, e_dyn, e_acall, e_acallP, e_con_pure, e_con_raw, e_conP_pure, e_gam, e_callPure, e_cp, e_bin_int, e_bin_str, e_add, e_sub, e_mul, e_quo, e_rem, e_and, e_or, e_xor, e_eql, e_neq, e_lss, e_leq, e_gtr, e_geq, e_shl, e_shr, e_eqop_eql, e_eqop_neq, e_not, e_neg, e_xor1, w_i64, w_i32, w_u64, w_u32, w_u8, d_t, d_f, i_t, i_f, k_u64, k_i64, k_u32, k_i32, k_u8, k_min, k_fdiv, e_cells_agg, e_cells_int, e_cells_bool, e_cells_str, e_cells_sl, e_cells_msl, e_cells_ptr, e_cells_ipt, e_cells_fn, e_cells_nilp, e_cells_nilf, e_cells_nilm, e_cells_map, e_push, e_set_nil, e_set_cons, s_nil, s_cons, s_consO, s_ptr, s_msl, s_amap, s_int, s_bool, s_str, s_nilp, s_nilm, s_nilf, s_nili, s_undef, s_sl, s_agg, s_ipt, s_fn, s_tup, s_mapO, s_mapO2, e_w_seq, e_w_block, e_w_skip, e_w_ret, e_w_exit, e_w_label, e_w_cond, e_w_true, e_w_false, e_w_region, e_regW, e_regW_ite, e_q_seq, e_q_seq_ret, e_q_seq_exit, e_q_block, e_q_block_ret, e_q_block_exit, e_fn_ret, e_fn_normal, e_view, e_view_some, n_tdiv64, n_tmod64, n_pow, n_has, n_or, n_href, n_many, n_agg, e_lk, e_put_none, aindexAddr, afieldAddr, afield, aindex, aload, astore, abuiltin, alen, aextract, anil, apart, andL, aeq, List.map_cons, List.map_nil, List.getElem?_cons_zero, List.getElem?_cons_succ, List.getElem?_nil, List.length_cons, List.length_nil, List.nil_append, List.cons_append, Nat.reduceAdd, Int.reduceEq, Int.reduceLT, Int.reduceLE, Int.reduceNe, Int.reduceAdd, Int.reduceSub, Int.reduceMul, Int.reduceToNat, FnQ, ares, aresL, exists_eq_left', Option.some.injEq, AVal.bool.injEq, Int.one_mul, Int.natCast_nonneg, Int.toNat_natCast, setL_get, setL_len, Nat.le_refl, setV_cells, setV_strip, setV_zero, setL_zero, setL_all, n_set, Option.getD_some, Nat.min_self, TK.agg, Nat.reduceMul, Nat.reduceLT, Nat.reduceLeDiff, Nat.reduceEqDiff, Nat.succ_ne_self, ↓reduceIte, if_true, if_false, reduceCtorEq, envFrom, Option.bind_some, Option.map_some, Nat.zero_add, Nat.add_zero, beq_self_eq_true, Bool.false_eq_true, Bool.true_beq, Bool.false_beq, Bool.not_true, Bool.not_false, e_yield_bool, e_go, e_cond_bool, e_w_bool, and_self, and_true, true_and, List.set_cons_zero, List.set_cons_succ, List.set_nil, Nat.reduceSub, Nat.reduceDiv, Nat.sub_zero, Nat.zero_mul, Nat.mul_one, Nat.one_ne_zero, Nat.zero_ne_one, not_true_eq_false, not_false_eq_true, decide_true, decide_false, Try.f5, gL1, gL0, ti3, ti4, ti22, ti24, ti32, ti35, ti39, iAwake_eq, iOf_eq, iOr_eq, iAnd_eq, iNot_eq, iFold_eq, bool_eql, set_eql, setL_take, build24, not_not', not_or', fold_fold, fold_or, and_not]

/-! a set is what its runs are -/
def accR (rs : List (Int × Int)) : Nat := rs.foldl (fun s p => s ||| ofN p.1 p.2) 0
def cntR (rs : List (Int × Int)) : Int := rs.foldl (fun n p => n + p.2 - p.1 + 1) 0
theorem accR_add (l : List (Int × Int)) (p : Int × Int) : accR (l ++ [p]) = accR l ||| ofN p.1 p.2 := by simp [accR]
theorem cntR_add (l : List (Int × Int)) (p : Int × Int) : cntR (l ++ [p]) = cntR l + p.2 - p.1 + 1 := by simp [cntR]
/-- Rising, with room between. -/
def Apart : List (Int × Int) → Prop
  | [] => True
  | [p] => p.1 ≤ p.2
  | p :: q :: l => p.1 ≤ p.2 ∧ p.2 + 1 < q.1 ∧ Apart (q :: l)
theorem apart_add : ∀ (l : List (Int × Int)) (p : Int × Int), Apart (l ++ [p]) ↔ Apart l ∧ p.1 ≤ p.2 ∧ ∀ q, l.getLast? = some q → q.2 + 1 < p.1
  | [], p => by simp [Apart]
  | [a], p => by simp [Apart]; omega
  | a :: b :: l, p => by
    have := apart_add (b :: l) p
    simp only [List.cons_append, Apart] at this ⊢
    rw [this]
    simp only [List.getLast?_cons_cons]
    constructor
    · rintro ⟨h1, h2, h3, h4⟩; exact ⟨⟨h1, h2, h3⟩, h4⟩
    · rintro ⟨⟨h1, h2, h3⟩, h4⟩; exact ⟨h1, h2, h3, h4⟩
theorem ofN_one {n : Nat} (h : n < 256) : ofN n n = 2 ^ n := set_ext (ofN_lt _ _) (Nat.pow_lt_pow_right (by decide) h) fun i hi => by
  rw [ofN, mk_bit, Nat.testBit_two_pow, inOf]
  by_cases e : n = i
  · subst e; simp [hi]
  · have : ¬ ((n : Int) ≤ i ∧ (i : Int) ≤ n) := by omega
    simp only [hi, decide_true, Bool.true_and, ← Bool.decide_and, this, decide_false, e]
theorem ofN_more {p : Int} {n : Nat} (h : n < 256) (hp : p ≤ n) : ofN p n = ofN p ((n : Int) - 1) ||| 2 ^ n := set_ext (ofN_lt _ _) (or_lt (ofN_lt _ _) h) fun i hi => by
  rw [Nat.testBit_or, ofN, mk_bit, ofN, mk_bit, Nat.testBit_two_pow, inOf, inOf]
  by_cases e : n = i
  · subst e; simp [hi, hp]
  · simp only [hi, decide_true, Bool.true_and, e, decide_false, Bool.or_false]
    by_cases h1 : p ≤ (i : Int) <;> by_cases h2 : (i : Int) ≤ n
    · have : (i : Int) ≤ (n : Int) - 1 := by omega
      simp [h1, h2, this]
    · have : ¬ (i : Int) ≤ (n : Int) - 1 := by omega
      simp [h1, h2, this]
    · simp [h1]
    · simp [h1]
theorem runs_back (A : Nat) : ∀ n, n ≤ 256 → accR (runsN A n) = mk (fun i => A.testBit i) n ∧ cntR (runsN A n) = ((lst A n).length : Nat) ∧ Apart (runsN A n) ∧ ∀ p ∈ runsN A n, 0 ≤ p.1 ∧ p.2 < n ∧ p.1 ≤ p.2
  | 0, _ => ⟨rfl, rfl, trivial, fun p hp => by simp [runsN] at hp⟩
  | n + 1, hn => by
    obtain ⟨h1, h2, h3, h4⟩ := runs_back A n (by omega)
    obtain ⟨k1, k2⟩ := runsN_last A n
    have hn' : n < 256 := by omega
    cases hb : A.testBit n with
    | false =>
      have hr : runsN A (n + 1) = runsN A n := by simp [runsN, hb]
      have hl : lst A (n + 1) = lst A n := by simp [lst, hb]
      rw [hr, hl, mk_step]
      simp only [hb, Bool.false_eq_true, if_false]
      exact ⟨h1, h2, h3, fun p hp => by have := h4 p hp; omega⟩
    | true =>
      have hl : ((lst A (n + 1)).length : Int) = (lst A n).length + 1 := by simp [lst, hb]
      rw [mk_step]
      simp only [hb, if_true]
      by_cases hp : 0 < n ∧ A.testBit (n - 1) = true
      · obtain ⟨l, p, hrn⟩ := k1 hp
        have hr : runsN A (n + 1) = l ++ [(p, (n : Int))] := by
          have : runsN A (n + 1) = setLast (runsN A n) n := by simp [runsN, hb, hp]
          rw [this, hrn, setLast_add]
        rw [hrn] at h1 h2 h3 h4
        rw [accR_add] at h1
        rw [cntR_add] at h2
        rw [apart_add] at h3
        have h5 := h4 (p, (n : Int) - 1) (by simp)
        simp only at h1 h2 h3 h5
        rw [hr, accR_add, cntR_add, apart_add, hl]
        refine ⟨?_, by simp only; omega, ⟨h3.1, by simp only; omega, h3.2.2⟩, fun q hq => ?_⟩
        · rw [ofN_more hn' (by omega), ← Nat.or_assoc, h1]
        · rcases List.mem_append.1 hq with hq | hq
          · have := h4 q (List.mem_append_left _ hq); omega
          · simp only [List.mem_singleton] at hq; subst hq; simp only; omega
      · have hr : runsN A (n + 1) = runsN A n ++ [((n : Int), (n : Int))] := by simp only [runsN, hb, if_true, if_neg hp]
        rw [hr, accR_add, cntR_add, apart_add, hl]
        refine ⟨by rw [ofN_one hn', h1], by simp only; omega, ⟨h3, by simp, fun q hq => ?_⟩, fun q hq => ?_⟩
        · rcases List.eq_nil_or_concat (runsN A n) with he | ⟨l, p, he⟩
          · rw [he] at hq; simp at hq
          · rw [List.concat_eq_append] at he
            have hqp : q = p := by rw [he] at hq; simp at hq; exact hq.symm
            subst hqp
            have := k2 l q.1 q.2 he
            have hne : q.2 ≠ (n : Int) - 1 := fun e => hp (this.2 e)
            have := this.1
            simp only
            omega
        · rcases List.mem_append.1 hq with hq | hq
          · have := h4 q hq; omega
          · simp only [List.mem_singleton] at hq; subst hq; simp only; omega
end Go.Hk.A
