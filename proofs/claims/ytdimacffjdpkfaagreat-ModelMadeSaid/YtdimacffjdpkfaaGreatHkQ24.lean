import Derived.Test.YtdimacffjdpkfaaGreatChecked
import Derived.Test.YtdimacffjdpkfaaGreatHkQ15
import Derived.KernelRfl
import Derived.Test.YtdimacffjdpkfaaGreatHkQ16
set_option linter.unusedSimpArgs false
set_option linter.unusedVariables false
namespace Go.Hk.MZ
open Go.Proofs
theorem ti3 : tiOf Tryz.prog 3 = some { size := 1, bytes := 8, zero := some (.int .i64 0), k := .int .i64 } := by kernel_rfl
attribute [go_sem] ti3
theorem ti4 : tiOf Tryz.prog 4 = some { size := 1, bytes := 1, zero := some (.bool false), k := .bool } := by kernel_rfl
attribute [go_sem] ti4
theorem ti32 : tiOf Tryz.prog 32 = some { size := 1, bytes := 8, zero := some (.int .u64 0), k := .int .u64 } := by kernel_rfl
attribute [go_sem] ti32
theorem ti34 : tiOf Tryz.prog 34 = some { size := 4, bytes := 32, zero := some (.agg [.int .u64 0, .int .u64 0, .int .u64 0, .int .u64 0]), k := .arr 4 32 } := by kernel_rfl
attribute [go_sem] ti34
theorem mixed : Tryz.prog.follows .mixedOrders = true := by kernel_rfl
theorem w_set_Has : ∀ (A : Nat) (n : Int), PCall Tryz.prog 81 [setV A, .int .i64 n] (.bool (has A n)) := by
  apply has_call <;> intros <;> refine PCall.of_w (fn := Tryz.f81) (Γ := gam []) (mu := false) Sound.nil mixed Tryz.func81 rfl (by kernel_rfl) (by simp) (by kernel_rfl) ?_ <;> simp (disch := first | assumption | omega | exact okR_new | exact okR_one | exact trivial | (simp only [lnA, lnC, lnN]; omega) | (simp only [lnA, lnC, lnN, Nat.reduceAdd])) only [go_sem, e_go, e_cond_bool, e_w_bool, e_step_ite, e_reg_ite, e_regW_ite, e_code_ite, e_block_ite, e_evQ_ite, e_fin_ite, e_pair_ite, Tryz.f81]
  rename_i A b h
  cases A.testBit b <;> rfl
noncomputable def iHas : List AVal → Option AVal := pimp fun xs r => ∃ (A : Nat) (n : Int), (A < 2 ^ 256) ∧ xs = [setV A, .int .i64 n] ∧ r = .bool (has A n)
theorem iHas_eq {A : Nat} {n : Int} (h : A < 2 ^ 256) : iHas [setV A, .int .i64 n] = some (.bool (has A n)) := pimp_eq ⟨A, n, h, rfl, rfl⟩ (by rintro _ ⟨A', n', h', e, rfl⟩; have e0 := (List.cons.inj e).1; have e0r := (List.cons.inj e).2; have e1 := (List.cons.inj e0r).1; have e1r := (List.cons.inj e0r).2; have q0 := setV_inj (by first | assumption | exact h | exact h.1 | exact h.1.1 | exact h.1.1.1 | exact h.2 | exact h.2.1 | exact h.2.2 | exact h.2.2.1) (by first | assumption | exact h' | exact h'.1 | exact h'.1.1 | exact h'.1.1.1 | exact h'.2 | exact h'.2.1 | exact h'.2.2 | exact h'.2.2.1) e0; have q1 := (AVal.int.inj e1).2; subst q0; subst q1; first | rfl | exact ⟨rfl, rfl⟩)
theorem iHas_call : ∀ xs v, iHas xs = some v → PCall Tryz.prog 81 xs v := fun xs v h0 => by obtain ⟨A, n, h, rfl, rfl⟩ := pimp_spec h0; exact w_set_Has A n
theorem w_ref_Has : ∀ (A : Nat) (n : Int), PCall Tryz.prog 87 [setV A, .int .i64 n] (.bool (has A n)) := by
  apply has_call <;> intros <;> refine PCall.of_w (fn := Tryz.f87) (Γ := gam []) (mu := false) Sound.nil mixed Tryz.func87 rfl (by kernel_rfl) (by simp) (by kernel_rfl) ?_ <;> simp (disch := first | assumption | omega | exact okR_new | exact okR_one | exact trivial | (simp only [lnA, lnC, lnN]; omega) | (simp only [lnA, lnC, lnN, Nat.reduceAdd])) only [go_sem, e_go, e_cond_bool, e_w_bool, e_step_ite, e_reg_ite, e_regW_ite, e_code_ite, e_block_ite, e_evQ_ite, e_fin_ite, e_pair_ite, Tryz.f87]
  rename_i A b h
  cases A.testBit b <;> rfl
noncomputable def iHas' : List AVal → Option AVal := pimp fun xs r => ∃ (A : Nat) (n : Int), (A < 2 ^ 256) ∧ xs = [setV A, .int .i64 n] ∧ r = .bool (has A n)
theorem iHas'_eq {A : Nat} {n : Int} (h : A < 2 ^ 256) : iHas' [setV A, .int .i64 n] = some (.bool (has A n)) := pimp_eq ⟨A, n, h, rfl, rfl⟩ (by rintro _ ⟨A', n', h', e, rfl⟩; have e0 := (List.cons.inj e).1; have e0r := (List.cons.inj e).2; have e1 := (List.cons.inj e0r).1; have e1r := (List.cons.inj e0r).2; have q0 := setV_inj (by first | assumption | exact h | exact h.1 | exact h.1.1 | exact h.1.1.1 | exact h.2 | exact h.2.1 | exact h.2.2 | exact h.2.2.1) (by first | assumption | exact h' | exact h'.1 | exact h'.1.1 | exact h'.1.1.1 | exact h'.2 | exact h'.2.1 | exact h'.2.2 | exact h'.2.2.1) e0; have q1 := (AVal.int.inj e1).2; subst q0; subst q1; first | rfl | exact ⟨rfl, rfl⟩)
theorem iHas'_call : ∀ xs v, iHas' xs = some v → PCall Tryz.prog 87 xs v := fun xs v h0 => by obtain ⟨A, n, h, rfl, rfl⟩ := pimp_spec h0; exact w_ref_Has A n
theorem w_add (A b : Nat) (h : b < 256) : PCall Tryz.prog 18 [setV A, .int .i64 b] (setV (A ||| 2 ^ b)) := by
  refine PCall.of_w (fn := Tryz.f18) (Γ := gam []) (mu := false) Sound.nil mixed Tryz.func18 rfl (by kernel_rfl) (by simp) (by kernel_rfl) ?_
  simp (disch := first | assumption | omega | exact okR_new | exact okR_one | exact trivial | (simp only [lnA, lnC, lnN]; omega) | (simp only [lnA, lnC, lnN, Nat.reduceAdd])) only [go_sem, e_go, e_cond_bool, e_w_bool, e_step_ite, e_reg_ite, e_regW_ite, e_code_ite, e_block_ite, e_evQ_ite, e_fin_ite, e_pair_ite, Tryz.f18]
noncomputable def iAdd : List AVal → Option AVal := pimp fun xs r => ∃ (A : Nat) (b : Nat), (A < 2 ^ 256 ∧ b < 256) ∧ xs = [setV A, .int .i64 (b : Nat)] ∧ r = setV (A ||| 2 ^ b)
theorem iAdd_eq {A : Nat} {b : Nat} (h : A < 2 ^ 256 ∧ b < 256) : iAdd [setV A, .int .i64 (b : Nat)] = some (setV (A ||| 2 ^ b)) := pimp_eq ⟨A, b, h, rfl, rfl⟩ (by rintro _ ⟨A', b', h', e, rfl⟩; have e0 := (List.cons.inj e).1; have e0r := (List.cons.inj e).2; have e1 := (List.cons.inj e0r).1; have e1r := (List.cons.inj e0r).2; have q0 := setV_inj (by first | assumption | exact h | exact h.1 | exact h.1.1 | exact h.1.1.1 | exact h.2 | exact h.2.1 | exact h.2.2 | exact h.2.2.1) (by first | assumption | exact h' | exact h'.1 | exact h'.1.1 | exact h'.1.1.1 | exact h'.2 | exact h'.2.1 | exact h'.2.2 | exact h'.2.2.1) e0; have q1 : b' = b := (by have := (AVal.int.inj e1).2; omega); subst q0; subst q1; first | rfl | exact ⟨rfl, rfl⟩)
theorem iAdd_call : ∀ xs v, iAdd xs = some v → PCall Tryz.prog 18 xs v := fun xs v h0 => by obtain ⟨A, b, h, rfl, rfl⟩ := pimp_spec h0; exact w_add A b h.2
theorem w_Not (A : Nat) (hA : A < 2 ^ 256) : PCall Tryz.prog 91 [setV A] (setV (notN A)) := by
  refine PCall.of_w (fn := Tryz.f91) (Γ := gam [(18, .pure iAdd), (87, .pure iHas')]) (mu := false) (Sound.pure iAdd_call (Sound.pure iHas'_call Sound.nil)) mixed Tryz.func91 rfl (by kernel_rfl) (by simp) (by kernel_rfl) ?_
  simp (disch := first | assumption | omega | exact okR_new | exact okR_one | exact trivial | (simp only [lnA, lnC, lnN]; omega) | (simp only [lnA, lnC, lnN, Nat.reduceAdd])) only [go_sem, e_go, e_cond_bool, e_w_bool, e_step_ite, e_reg_ite, e_regW_ite, e_code_ite, e_block_ite, e_evQ_ite, e_fin_ite, e_pair_ite, Tryz.f91, iAdd_eq, iHas'_eq]
  refine w_loop [] [4] (fun i : Nat => 256 - i) (fun i => i ≤ 256) (fun i => ⟨[.cells 0 (setL A), .cells 0 (setL 0), .cells 0 (setL (mk (fun i => !A.testBit i) i))], []⟩)
    (fun i => [(4, .int .i64 (i : Nat))]) 0 (fun _ => rfl) (by kernel_rfl) (by omega) rfl (by simp [HasE, lk]) ?_
  rintro i hi
  by_cases h : i < 256
  · have hR := mk_lt256 (fun i => !A.testBit i) i hi
    cases h1 : A.testBit i <;>
    · simp (disch := first | assumption | omega | exact okR_new | exact okR_one | exact trivial | (simp only [lnA, lnC, lnN]; omega) | (simp only [lnA, lnC, lnN, Nat.reduceAdd])) only [go_sem, e_go, e_cond_bool, e_w_bool, e_step_ite, e_reg_ite, e_regW_ite, e_code_ite, e_block_ite, e_evQ_ite, e_fin_ite, e_pair_ite, Tryz.f91, iAdd_eq, iHas'_eq, has_nat, h1]
      exact ⟨i + 1, dn h, h, by simp [mk_step, h1], by simp [HasE, lk]⟩
  · have h4 : i = 256 := by omega
    subst h4
    simp (disch := first | assumption | omega | exact okR_new | exact okR_one | exact trivial | (simp only [lnA, lnC, lnN]; omega) | (simp only [lnA, lnC, lnN, Nat.reduceAdd])) only [go_sem, e_go, e_cond_bool, e_w_bool, e_step_ite, e_reg_ite, e_regW_ite, e_code_ite, e_block_ite, e_evQ_ite, e_fin_ite, e_pair_ite, Tryz.f91, iAdd_eq, iHas'_eq, notN]
noncomputable def iNot : List AVal → Option AVal := pimp fun xs r => ∃ (A : Nat), (A < 2 ^ 256) ∧ xs = [setV A] ∧ r = setV (notN A)
theorem iNot_eq {A : Nat} (h : A < 2 ^ 256) : iNot [setV A] = some (setV (notN A)) := pimp_eq ⟨A, h, rfl, rfl⟩ (by rintro _ ⟨A', h', e, rfl⟩; have e0 := (List.cons.inj e).1; have e0r := (List.cons.inj e).2; have q0 := setV_inj (by first | assumption | exact h | exact h.1 | exact h.1.1 | exact h.1.1.1 | exact h.2 | exact h.2.1 | exact h.2.2 | exact h.2.2.1) (by first | assumption | exact h' | exact h'.1 | exact h'.1.1 | exact h'.1.1.1 | exact h'.2 | exact h'.2.1 | exact h'.2.2 | exact h'.2.2.1) e0; subst q0; first | rfl | exact ⟨rfl, rfl⟩)
theorem iNot_call : ∀ xs v, iNot xs = some v → PCall Tryz.prog 91 xs v := fun xs v h0 => by obtain ⟨A, h, rfl, rfl⟩ := pimp_spec h0; exact w_Not A h
theorem w_Of (lo hi : Int) : PCall Tryz.prog 9 [.int .i64 lo, .int .i64 hi] (setV (ofN lo hi)) := by
  refine PCall.of_w (fn := Tryz.f9) (Γ := gam [(18, .pure iAdd)]) (mu := false) (Sound.pure iAdd_call Sound.nil) mixed Tryz.func9 rfl (by kernel_rfl) (by simp) (by kernel_rfl) ?_
  simp (disch := first | assumption | omega | exact okR_new | exact okR_one | exact trivial | (simp only [lnA, lnC, lnN]; omega) | (simp only [lnA, lnC, lnN, Nat.reduceAdd])) only [go_sem, e_go, e_cond_bool, e_w_bool, e_step_ite, e_reg_ite, e_regW_ite, e_code_ite, e_block_ite, e_evQ_ite, e_fin_ite, e_pair_ite, Tryz.f9, iAdd_eq]
  refine w_loop [] [6] (fun i : Nat => 256 - i) (fun i => i ≤ 256) (fun i => ⟨[.cells 0 (setL 0), .cells 0 (setL (mk (inOf lo hi) i))], []⟩)
    (fun i => [(6, .int .i64 (i : Nat))]) 0 (fun _ => rfl) (by kernel_rfl) (by omega) rfl (by simp [HasE, lk]) ?_
  rintro i hi'
  by_cases h : i < 256
  · have hR := mk_lt256 (inOf lo hi) i hi'
    by_cases h1 : lo ≤ (i : Int)
    · by_cases h2 : (i : Int) ≤ hi
      · simp (disch := first | assumption | omega | exact okR_new | exact okR_one | exact trivial | (simp only [lnA, lnC, lnN]; omega) | (simp only [lnA, lnC, lnN, Nat.reduceAdd])) only [go_sem, e_go, e_cond_bool, e_w_bool, e_step_ite, e_reg_ite, e_regW_ite, e_code_ite, e_block_ite, e_evQ_ite, e_fin_ite, e_pair_ite, Tryz.f9, iAdd_eq]
        exact ⟨i + 1, dn h, h, by simp [mk_step, inOf, h1, h2], by simp [HasE, lk]⟩
      · simp (disch := first | assumption | omega | exact okR_new | exact okR_one | exact trivial | (simp only [lnA, lnC, lnN]; omega) | (simp only [lnA, lnC, lnN, Nat.reduceAdd])) only [go_sem, e_go, e_cond_bool, e_w_bool, e_step_ite, e_reg_ite, e_regW_ite, e_code_ite, e_block_ite, e_evQ_ite, e_fin_ite, e_pair_ite, Tryz.f9, iAdd_eq]
        exact ⟨i + 1, dn h, h, by simp [mk_step, inOf, h1, h2], by simp [HasE, lk]⟩
    · simp (disch := first | assumption | omega | exact okR_new | exact okR_one | exact trivial | (simp only [lnA, lnC, lnN]; omega) | (simp only [lnA, lnC, lnN, Nat.reduceAdd])) only [go_sem, e_go, e_cond_bool, e_w_bool, e_step_ite, e_reg_ite, e_regW_ite, e_code_ite, e_block_ite, e_evQ_ite, e_fin_ite, e_pair_ite, Tryz.f9, iAdd_eq]
      exact ⟨i + 1, dn h, h, by simp [mk_step, inOf, h1], by simp [HasE, lk]⟩
  · have h4 : i = 256 := by omega
    subst h4
    simp (disch := first | assumption | omega | exact okR_new | exact okR_one | exact trivial | (simp only [lnA, lnC, lnN]; omega) | (simp only [lnA, lnC, lnN, Nat.reduceAdd])) only [go_sem, e_go, e_cond_bool, e_w_bool, e_step_ite, e_reg_ite, e_regW_ite, e_code_ite, e_block_ite, e_evQ_ite, e_fin_ite, e_pair_ite, Tryz.f9, iAdd_eq, ofN]
noncomputable def iOf : List AVal → Option AVal := pimp fun xs r => ∃ (lo : Int) (hi : Int), (True) ∧ xs = [.int .i64 lo, .int .i64 hi] ∧ r = setV (ofN lo hi)
theorem iOf_eq {lo : Int} {hi : Int} (h : True) : iOf [.int .i64 lo, .int .i64 hi] = some (setV (ofN lo hi)) := pimp_eq ⟨lo, hi, h, rfl, rfl⟩ (by rintro _ ⟨lo', hi', h', e, rfl⟩; have e0 := (List.cons.inj e).1; have e0r := (List.cons.inj e).2; have e1 := (List.cons.inj e0r).1; have e1r := (List.cons.inj e0r).2; have q0 := (AVal.int.inj e0).2; have q1 := (AVal.int.inj e1).2; subst q0; subst q1; first | rfl | exact ⟨rfl, rfl⟩)
theorem iOf_call : ∀ xs v, iOf xs = some v → PCall Tryz.prog 9 xs v := fun xs v h0 => by obtain ⟨lo, hi, h, rfl, rfl⟩ := pimp_spec h0; exact w_Of lo hi
end Go.Hk.MZ
namespace Go.Hk.MZ
open Go.Proofs

structure Ls where
  i : Nat
  r : Rt
  T : List (Nat × (Nat × Nat))
end Go.Hk.MZ
namespace Go.Hk.MZ
open Go.Proofs
theorem ti35 : tiOf Tryz.prog 35 = some { size := 1, bytes := 24, zero := some (.sl .nil 0 []), k := .slice 37 } := by kernel_rfl
attribute [go_sem] ti35
theorem ti37 : tiOf Tryz.prog 37 = some { size := 8, bytes := 80, zero := some (.agg [.int .i64 0, .int .u64 0, .int .u64 0, .int .u64 0, .int .u64 0, .int .i64 0, .int .i64 0, .sl .nil 0 []]), k := .struct [(true, 3, 0), (true, 34, 1), (true, 3, 5), (true, 3, 6), (true, 35, 7)] } := by kernel_rfl
attribute [go_sem] ti37
noncomputable def iNod' (n : Nat) : List AVal → Option AVal := pimp fun xs r => ∃ (x : Rx) (m : Int), ((okW x ∧ 0 ≤ m ∧ m < 1000000) ∧ sz x < n) ∧ xs = [rV x, .int .i64 m] ∧ r = .int .i64 (nodes x m)
theorem iNod'_eq {n : Nat} {x : Rx} {m : Int} (h0 : (okW x ∧ 0 ≤ m ∧ m < 1000000) ∧ sz x < n) : iNod' n [rV x, .int .i64 m] = some (.int .i64 (nodes x m)) := by
  have h := h0.1
  refine pimp_eq ⟨x, m, h0, rfl, rfl⟩ ?_
  rintro _ ⟨x', m', h0', e, rfl⟩
  have h' := h0'.1
  have e0 := (List.cons.inj e).1; have e0r := (List.cons.inj e).2; have e1 := (List.cons.inj e0r).1; have e1r := (List.cons.inj e0r).2; have q0 := rV_inj (by first | assumption | exact h | exact h.1 | exact h.1.1 | exact h.1.1.1 | exact h.2 | exact h.2.1 | exact h.2.2 | exact h.2.2.1) (by first | assumption | exact h' | exact h'.1 | exact h'.1.1 | exact h'.1.1.1 | exact h'.2 | exact h'.2.1 | exact h'.2.2 | exact h'.2.2.1) e0; have q1 := (AVal.int.inj e1).2; subst q0; subst q1; first | rfl | exact ⟨rfl, rfl⟩
theorem w_Nodes (n : Nat) (ih_iNod' : ∀ xs v, iNod' n xs = some v → PCall Tryz.prog 107 xs v) (x : Rx) (m : Int) (h : okW x ∧ 0 ≤ m ∧ m < 1000000) (hn : sz x ≤ n) : PCall Tryz.prog 107 [rV x, .int .i64 m] (.int .i64 (nodes x m)) := by
  obtain ⟨hx, h0, h1⟩ := h
  have hl := hx.len
  have hc := cR_eq x
  refine PCall.of_w (fn := Tryz.f107) (Γ := gam [(107, .pure (iNod' n))]) (mu := false) (Sound.pure ih_iNod' Sound.nil) mixed Tryz.func107 rfl (by kernel_rfl) (by simp) (by kernel_rfl) ?_
  simp (disch := first | assumption | omega | exact okR_new | exact okR_one | exact trivial | (simp only [lnA, lnC, lnN]; omega) | (simp only [lnA, lnC, lnN, Nat.reduceAdd])) only [go_sem, e_go, e_cond_bool, e_w_bool, e_step_ite, e_reg_ite, e_regW_ite, e_code_ite, e_block_ite, e_evQ_ite, e_fin_ite, e_pair_ite, Tryz.f107, iNod'_eq, hc]
  refine w_loop [] [1, 5] (fun i : Nat => x.l.length - i) (fun i => i ≤ x.l.length) (fun i => ⟨[.cells 0 (cR x)], []⟩)
    (fun i => [(1, .int .i64 (fo nstep (m - 1) x.l i)), (5, .int .i64 (i : Nat))]) 0 (fun _ => rfl) (by kernel_rfl) (Nat.zero_le _) (by simp only [hc]) (by simp [HasE, lk, fo_zero]) ?_
  intro i hi
  have hb := nfo_bd x.l (m - 1) i (by omega)
  by_cases h : i < x.l.length
  · by_cases hm : 0 ≤ fo nstep (m - 1) x.l i
    · have hg : x.l[i]? = some x.l[i] := by simp [h]
      have hat := fl_at cR_len hg
      have hs := fo_succ (g := nstep) (b := m - 1) hg
      have hok : (okW x.l[i] ∧ 0 ≤ fo nstep (m - 1) x.l i ∧ fo nstep (m - 1) x.l i < 1000000) ∧ sz x.l[i] < n := ⟨⟨hx.kid hg, hm, by omega⟩, by have := sz_kid hg; omega⟩
      have hle : i * 8 + 8 ≤ x.l.length * 8 := by omega
      simp (disch := first | assumption | omega | exact okR_new | exact okR_one | exact trivial | (simp only [lnA, lnC, lnN]; omega) | (simp only [lnA, lnC, lnN, Nat.reduceAdd])) only [go_sem, e_go, e_cond_bool, e_w_bool, e_step_ite, e_reg_ite, e_regW_ite, e_code_ite, e_block_ite, e_evQ_ite, e_fin_ite, e_pair_ite, Tryz.f107, iNod'_eq, hc, hat]
      exact ⟨i + 1, dn h, h, rfl, by simp [HasE, lk, hs, nstep, hm]⟩
    · have e := nfo_stay (l := x.l) (m := m - 1) (i := i) (by omega)
      simp (disch := first | assumption | omega | exact okR_new | exact okR_one | exact trivial | (simp only [lnA, lnC, lnN]; omega) | (simp only [lnA, lnC, lnN, Nat.reduceAdd])) only [go_sem, e_go, e_cond_bool, e_w_bool, e_step_ite, e_reg_ite, e_regW_ite, e_code_ite, e_block_ite, e_evQ_ite, e_fin_ite, e_pair_ite, Tryz.f107, iNod'_eq, hc, nodes_eq, e]
  · have hi' : i = x.l.length := by omega
    subst hi'
    simp (disch := first | assumption | omega | exact okR_new | exact okR_one | exact trivial | (simp only [lnA, lnC, lnN]; omega) | (simp only [lnA, lnC, lnN, Nat.reduceAdd])) only [go_sem, e_go, e_cond_bool, e_w_bool, e_step_ite, e_reg_ite, e_regW_ite, e_code_ite, e_block_ite, e_evQ_ite, e_fin_ite, e_pair_ite, Tryz.f107, iNod'_eq, hc, nodes_eq, fo_all]
theorem iNod'_all : ∀ n xs v, iNod' n xs = some v → PCall Tryz.prog 107 xs v := by
  intro n
  induction n with
  | zero => intro xs v h0; obtain ⟨x, m, h, rfl, rfl⟩ := pimp_spec h0; exact absurd h.2 (Nat.not_lt_zero _)
  | succ n ih => intro xs v h0; obtain ⟨x, m, h, rfl, rfl⟩ := pimp_spec h0; exact w_Nodes n ih x m h.1 (Nat.le_of_lt_succ h.2)
noncomputable def iNod : List AVal → Option AVal := pimp fun xs r => ∃ (x : Rx) (m : Int), (okW x ∧ 0 ≤ m ∧ m < 1000000) ∧ xs = [rV x, .int .i64 m] ∧ r = .int .i64 (nodes x m)
theorem iNod_eq {x : Rx} {m : Int} (h : okW x ∧ 0 ≤ m ∧ m < 1000000) : iNod [rV x, .int .i64 m] = some (.int .i64 (nodes x m)) := pimp_eq ⟨x, m, h, rfl, rfl⟩ (by rintro _ ⟨x', m', h', e, rfl⟩; have e0 := (List.cons.inj e).1; have e0r := (List.cons.inj e).2; have e1 := (List.cons.inj e0r).1; have e1r := (List.cons.inj e0r).2; have q0 := rV_inj (by first | assumption | exact h | exact h.1 | exact h.1.1 | exact h.1.1.1 | exact h.2 | exact h.2.1 | exact h.2.2 | exact h.2.2.1) (by first | assumption | exact h' | exact h'.1 | exact h'.1.1 | exact h'.1.1.1 | exact h'.2 | exact h'.2.1 | exact h'.2.2 | exact h'.2.2.1) e0; have q1 := (AVal.int.inj e1).2; subst q0; subst q1; first | rfl | exact ⟨rfl, rfl⟩)
theorem iNod_call : ∀ xs v, iNod xs = some v → PCall Tryz.prog 107 xs v := fun xs v h0 => by obtain ⟨x, m, h, rfl, rfl⟩ := pimp_spec h0; exact iNod'_all (sz x + 1) _ _ (iNod'_eq ⟨h, Nat.lt_succ_self _⟩)
noncomputable def iNd' (n : Nat) : List AVal → Option AVal := pimp fun xs r => ∃ (x : Rx) (m : Int), ((okX x ∧ 0 ≤ m ∧ m < 1000000) ∧ sz x < n) ∧ xs = [rV x, .int .i64 m] ∧ r = .int .i64 (nodes x m)
theorem iNd'_eq {n : Nat} {x : Rx} {m : Int} (h0 : (okX x ∧ 0 ≤ m ∧ m < 1000000) ∧ sz x < n) : iNd' n [rV x, .int .i64 m] = some (.int .i64 (nodes x m)) := by
  have h := h0.1
  refine pimp_eq ⟨x, m, h0, rfl, rfl⟩ ?_
  rintro _ ⟨x', m', h0', e, rfl⟩
  have h' := h0'.1
  have e0 := (List.cons.inj e).1; have e0r := (List.cons.inj e).2; have e1 := (List.cons.inj e0r).1; have e1r := (List.cons.inj e0r).2; have q0 := rV_inj (by first | assumption | exact h | exact h.1 | exact h.1.1 | exact h.1.1.1 | exact h.2 | exact h.2.1 | exact h.2.2 | exact h.2.2.1) (by first | assumption | exact h' | exact h'.1 | exact h'.1.1 | exact h'.1.1.1 | exact h'.2 | exact h'.2.1 | exact h'.2.2 | exact h'.2.2.1) e0; have q1 := (AVal.int.inj e1).2; subst q0; subst q1; first | rfl | exact ⟨rfl, rfl⟩
theorem w_nodes (n : Nat) (ih_iNd' : ∀ xs v, iNd' n xs = some v → PCall Tryz.prog 57 xs v) (x : Rx) (m : Int) (h : okX x ∧ 0 ≤ m ∧ m < 1000000) (hn : sz x ≤ n) : PCall Tryz.prog 57 [rV x, .int .i64 m] (.int .i64 (nodes x m)) := by
  obtain ⟨hx, h0, h1⟩ := h
  have hl := hx.len
  have hc := cR_eq x
  refine PCall.of_w (fn := Tryz.f57) (Γ := gam [(57, .pure (iNd' n))]) (mu := false) (Sound.pure ih_iNd' Sound.nil) mixed Tryz.func57 rfl (by kernel_rfl) (by simp) (by kernel_rfl) ?_
  simp (disch := first | assumption | omega | exact okR_new | exact okR_one | exact trivial | (simp only [lnA, lnC, lnN]; omega) | (simp only [lnA, lnC, lnN, Nat.reduceAdd])) only [go_sem, e_go, e_cond_bool, e_w_bool, e_step_ite, e_reg_ite, e_regW_ite, e_code_ite, e_block_ite, e_evQ_ite, e_fin_ite, e_pair_ite, Tryz.f57, iNd'_eq, hc]
  refine w_loopc [] [1, 12] (fun i : Nat => x.l.length - i) (fun i => i ≤ x.l.length) (fun i => ⟨[.cells 0 (cR x)], []⟩)
    (fun i => [(1, .int .i64 (fo nstep (m - 1) x.l i)), (12, .int .i64 (i : Nat))]) 0 (fun _ => rfl) (by kernel_rfl) (Nat.zero_le _) ⟨[], [], by simp only [hc, List.append_nil]⟩ (by simp [HasE, lk, fo_zero]) ?_ ?_
  · intro i hi
    simp (disch := assumption) [cloE, clo, cloL, cloB, c_Rno, c_Rfull, c_append, c_cR, c_flR, c_rV]
  intro i hi
  have hb := nfo_bd x.l (m - 1) i (by omega)
  by_cases h : i < x.l.length
  · have hg : x.l[i]? = some x.l[i] := by simp [h]
    have hat := fl_at cR_len hg
    have hs := fo_succ (g := nstep) (b := m - 1) hg
    have hle : i * 8 + 8 ≤ x.l.length * 8 := by omega
    by_cases hm : 0 ≤ fo nstep (m - 1) x.l i
    · have hok : (okX x.l[i] ∧ 0 ≤ fo nstep (m - 1) x.l i ∧ fo nstep (m - 1) x.l i < 1000000) ∧ sz x.l[i] < n := ⟨⟨hx.kid hg, hm, by omega⟩, by have := sz_kid hg; omega⟩
      simp (disch := first | assumption | omega | exact okR_new | exact okR_one | exact trivial | (simp only [lnA, lnC, lnN]; omega) | (simp only [lnA, lnC, lnN, Nat.reduceAdd])) only [go_sem, e_go, e_cond_bool, e_w_bool, e_step_ite, e_reg_ite, e_regW_ite, e_code_ite, e_block_ite, e_evQ_ite, e_fin_ite, e_pair_ite, Tryz.f57, iNd'_eq, hc, hat]
      exact ⟨i + 1, dn h, h, ⟨_, [], by simp [hc]; rfl⟩, by simp [HasE, lk, hs, nstep, hm]⟩
    · simp (disch := first | assumption | omega | exact okR_new | exact okR_one | exact trivial | (simp only [lnA, lnC, lnN]; omega) | (simp only [lnA, lnC, lnN, Nat.reduceAdd])) only [go_sem, e_go, e_cond_bool, e_w_bool, e_step_ite, e_reg_ite, e_regW_ite, e_code_ite, e_block_ite, e_evQ_ite, e_fin_ite, e_pair_ite, Tryz.f57, iNd'_eq, hc, hat]
      exact ⟨i + 1, dn h, h, ⟨_, [], by simp [hc]; rfl⟩, by simp [HasE, lk, hs, nstep, hm]⟩
  · have hi' : i = x.l.length := by omega
    subst hi'
    simp (disch := first | assumption | omega | exact okR_new | exact okR_one | exact trivial | (simp only [lnA, lnC, lnN]; omega) | (simp only [lnA, lnC, lnN, Nat.reduceAdd])) only [go_sem, e_go, e_cond_bool, e_w_bool, e_step_ite, e_reg_ite, e_regW_ite, e_code_ite, e_block_ite, e_evQ_ite, e_fin_ite, e_pair_ite, Tryz.f57, iNd'_eq, hc, nodes_eq, fo_all]
theorem iNd'_all : ∀ n xs v, iNd' n xs = some v → PCall Tryz.prog 57 xs v := by
  intro n
  induction n with
  | zero => intro xs v h0; obtain ⟨x, m, h, rfl, rfl⟩ := pimp_spec h0; exact absurd h.2 (Nat.not_lt_zero _)
  | succ n ih => intro xs v h0; obtain ⟨x, m, h, rfl, rfl⟩ := pimp_spec h0; exact w_nodes n ih x m h.1 (Nat.le_of_lt_succ h.2)
noncomputable def iNd : List AVal → Option AVal := pimp fun xs r => ∃ (x : Rx) (m : Int), (okX x ∧ 0 ≤ m ∧ m < 1000000) ∧ xs = [rV x, .int .i64 m] ∧ r = .int .i64 (nodes x m)
theorem iNd_eq {x : Rx} {m : Int} (h : okX x ∧ 0 ≤ m ∧ m < 1000000) : iNd [rV x, .int .i64 m] = some (.int .i64 (nodes x m)) := pimp_eq ⟨x, m, h, rfl, rfl⟩ (by rintro _ ⟨x', m', h', e, rfl⟩; have e0 := (List.cons.inj e).1; have e0r := (List.cons.inj e).2; have e1 := (List.cons.inj e0r).1; have e1r := (List.cons.inj e0r).2; have q0 := rV_inj (by first | assumption | exact h | exact h.1 | exact h.1.1 | exact h.1.1.1 | exact h.2 | exact h.2.1 | exact h.2.2 | exact h.2.2.1) (by first | assumption | exact h' | exact h'.1 | exact h'.1.1 | exact h'.1.1.1 | exact h'.2 | exact h'.2.1 | exact h'.2.2 | exact h'.2.2.1) e0; have q1 := (AVal.int.inj e1).2; subst q0; subst q1; first | rfl | exact ⟨rfl, rfl⟩)
theorem iNd_call : ∀ xs v, iNd xs = some v → PCall Tryz.prog 57 xs v := fun xs v h0 => by obtain ⟨x, m, h, rfl, rfl⟩ := pimp_spec h0; exact iNd'_all (sz x + 1) _ _ (iNd'_eq ⟨h, Nat.lt_succ_self _⟩)
noncomputable def iSz' (n : Nat) : List AVal → Option AVal := pimp fun xs r => ∃ (x : Rx), ((okX x) ∧ sz x < n) ∧ xs = [rV x] ∧ r = .int .i64 (size x)
theorem iSz'_eq {n : Nat} {x : Rx} (h0 : (okX x) ∧ sz x < n) : iSz' n [rV x] = some (.int .i64 (size x)) := by
  have h := h0.1
  refine pimp_eq ⟨x, h0, rfl, rfl⟩ ?_
  rintro _ ⟨x', h0', e, rfl⟩
  have h' := h0'.1
  have e0 := (List.cons.inj e).1; have e0r := (List.cons.inj e).2; have q0 := rV_inj (by first | assumption | exact h | exact h.1 | exact h.1.1 | exact h.1.1.1 | exact h.2 | exact h.2.1 | exact h.2.2 | exact h.2.2.1) (by first | assumption | exact h' | exact h'.1 | exact h'.1.1 | exact h'.1.1.1 | exact h'.2 | exact h'.2.1 | exact h'.2.2 | exact h'.2.2.1) e0; subst q0; first | rfl | exact ⟨rfl, rfl⟩
theorem w_Size (n : Nat) (ih_iSz' : ∀ xs v, iSz' n xs = some v → PCall Tryz.prog 56 xs v) (x : Rx) (h : okX x) (hn : sz x ≤ n) : PCall Tryz.prog 56 [rV x] (.int .i64 (size x)) := by
  have hx := h
  have hl := hx.len
  have hc := cR_eq x
  have hse := size_eq x
  refine PCall.of_w (fn := Tryz.f56) (Γ := gam [(56, .pure (iSz' n))]) (mu := false) (Sound.pure ih_iSz' Sound.nil) mixed Tryz.func56 rfl (by kernel_rfl) (by simp) (by kernel_rfl) ?_
  by_cases k2 : x.k = 2
  · rw [if_pos k2] at hse
    simp (disch := first | assumption | omega | exact okR_new | exact okR_one | exact trivial | (simp only [lnA, lnC, lnN]; omega) | (simp only [lnA, lnC, lnN, Nat.reduceAdd])) only [go_sem, e_go, e_cond_bool, e_w_bool, e_step_ite, e_reg_ite, e_regW_ite, e_code_ite, e_block_ite, e_evQ_ite, e_fin_ite, e_pair_ite, Tryz.f56, iSz'_eq, hc, k2, hse]
  · rw [if_neg k2] at hse
    by_cases k3 : x.k < 3
    · rw [if_pos (.inl k3)] at hse
      simp (disch := first | assumption | omega | exact okR_new | exact okR_one | exact trivial | (simp only [lnA, lnC, lnN]; omega) | (simp only [lnA, lnC, lnN, Nat.reduceAdd])) only [go_sem, e_go, e_cond_bool, e_w_bool, e_step_ite, e_reg_ite, e_regW_ite, e_code_ite, e_block_ite, e_evQ_ite, e_fin_ite, e_pair_ite, Tryz.f56, iSz'_eq, hc, hse]
    · by_cases k5 : 5 < x.k
      · rw [if_pos (.inr k5)] at hse
        simp (disch := first | assumption | omega | exact okR_new | exact okR_one | exact trivial | (simp only [lnA, lnC, lnN]; omega) | (simp only [lnA, lnC, lnN, Nat.reduceAdd])) only [go_sem, e_go, e_cond_bool, e_w_bool, e_step_ite, e_reg_ite, e_regW_ite, e_code_ite, e_block_ite, e_evQ_ite, e_fin_ite, e_pair_ite, Tryz.f56, iSz'_eq, hc, hse]
      · rw [if_neg (by omega)] at hse
        simp (disch := first | assumption | omega | exact okR_new | exact okR_one | exact trivial | (simp only [lnA, lnC, lnN]; omega) | (simp only [lnA, lnC, lnN, Nat.reduceAdd])) only [go_sem, e_go, e_cond_bool, e_w_bool, e_step_ite, e_reg_ite, e_regW_ite, e_code_ite, e_block_ite, e_evQ_ite, e_fin_ite, e_pair_ite, Tryz.f56, iSz'_eq, hc]
        refine w_loopc [] [2, 19] (fun i : Nat => x.l.length - i) (fun i => i ≤ x.l.length) (fun i => ⟨[.cells 0 (cR x)], []⟩)
          (fun i => [(2, .int .i64 (sizes (x.l.take i))), (19, .int .i64 (i : Nat))]) 0 (fun _ => rfl) (by kernel_rfl) (Nat.zero_le _) ⟨[], [], by simp only [hc, List.append_nil]⟩ (by simp [HasE, lk, sizes]) ?_ ?_
        · intro i hi
          simp (disch := assumption) [cloE, clo, cloL, cloB, c_Rno, c_Rfull, c_append, c_cR, c_flR, c_rV]
        intro i hi
        have hb := sizes_bd (x.l.take i)
        by_cases h : i < x.l.length
        · have hg : x.l[i]? = some x.l[i] := by simp [h]
          have hat := fl_at cR_len hg
          have hs := sizes_next hg
          have hle : i * 8 + 8 ≤ x.l.length * 8 := by omega
          have hy := size_pos x.l[i]
          have hok : okX x.l[i] ∧ sz x.l[i] < n := ⟨hx.kid hg, by have := sz_kid hg; omega⟩
          simp (disch := first | assumption | omega | exact okR_new | exact okR_one | exact trivial | (simp only [lnA, lnC, lnN]; omega) | (simp only [lnA, lnC, lnN, Nat.reduceAdd])) only [go_sem, e_go, e_cond_bool, e_w_bool, e_step_ite, e_reg_ite, e_regW_ite, e_code_ite, e_block_ite, e_evQ_ite, e_fin_ite, e_pair_ite, Tryz.f56, iSz'_eq, hc, hat]
          exact ⟨i + 1, dn h, h, ⟨_, [], by simp [hc]; rfl⟩, by simp [HasE, lk, hs]⟩
        · have hi' : i = x.l.length := by omega
          subst hi'
          rw [List.take_length] at hb
          have ht := times_bd (lo := x.lo) (hi := x.hi) hb
          by_cases k5' : x.k = 5
          · rw [if_pos k5'] at hse
            simp (disch := first | assumption | omega | exact okR_new | exact okR_one | exact trivial | (simp only [lnA, lnC, lnN]; omega) | (simp only [lnA, lnC, lnN, Nat.reduceAdd])) only [go_sem, e_go, e_cond_bool, e_w_bool, e_step_ite, e_reg_ite, e_regW_ite, e_code_ite, e_block_ite, e_evQ_ite, e_fin_ite, e_pair_ite, Tryz.f56, iSz'_eq, hc, List.take_length, hse, k5']
          · rw [if_neg k5'] at hse
            simp (disch := first | assumption | omega | exact okR_new | exact okR_one | exact trivial | (simp only [lnA, lnC, lnN]; omega) | (simp only [lnA, lnC, lnN, Nat.reduceAdd])) only [go_sem, e_go, e_cond_bool, e_w_bool, e_step_ite, e_reg_ite, e_regW_ite, e_code_ite, e_block_ite, e_evQ_ite, e_fin_ite, e_pair_ite, Tryz.f56, iSz'_eq, hc, List.take_length, hse]
theorem iSz'_all : ∀ n xs v, iSz' n xs = some v → PCall Tryz.prog 56 xs v := by
  intro n
  induction n with
  | zero => intro xs v h0; obtain ⟨x, h, rfl, rfl⟩ := pimp_spec h0; exact absurd h.2 (Nat.not_lt_zero _)
  | succ n ih => intro xs v h0; obtain ⟨x, h, rfl, rfl⟩ := pimp_spec h0; exact w_Size n ih x h.1 (Nat.le_of_lt_succ h.2)
noncomputable def iSz : List AVal → Option AVal := pimp fun xs r => ∃ (x : Rx), (okX x) ∧ xs = [rV x] ∧ r = .int .i64 (size x)
theorem iSz_eq {x : Rx} (h : okX x) : iSz [rV x] = some (.int .i64 (size x)) := pimp_eq ⟨x, h, rfl, rfl⟩ (by rintro _ ⟨x', h', e, rfl⟩; have e0 := (List.cons.inj e).1; have e0r := (List.cons.inj e).2; have q0 := rV_inj (by first | assumption | exact h | exact h.1 | exact h.1.1 | exact h.1.1.1 | exact h.2 | exact h.2.1 | exact h.2.2 | exact h.2.2.1) (by first | assumption | exact h' | exact h'.1 | exact h'.1.1 | exact h'.1.1.1 | exact h'.2 | exact h'.2.1 | exact h'.2.2 | exact h'.2.2.1) e0; subst q0; first | rfl | exact ⟨rfl, rfl⟩)
theorem iSz_call : ∀ xs v, iSz xs = some v → PCall Tryz.prog 56 xs v := fun xs v h0 => by obtain ⟨x, h, rfl, rfl⟩ := pimp_spec h0; exact iSz'_all (sz x + 1) _ _ (iSz'_eq ⟨h, Nat.lt_succ_self _⟩)
noncomputable def iSr' (n : Nat) : List AVal → Option AVal := pimp fun xs r => ∃ (x : Rx), ((okX x) ∧ sz x < n) ∧ xs = [rV x] ∧ r = .int .i64 (size x)
theorem iSr'_eq {n : Nat} {x : Rx} (h0 : (okX x) ∧ sz x < n) : iSr' n [rV x] = some (.int .i64 (size x)) := by
  have h := h0.1
  refine pimp_eq ⟨x, h0, rfl, rfl⟩ ?_
  rintro _ ⟨x', h0', e, rfl⟩
  have h' := h0'.1
  have e0 := (List.cons.inj e).1; have e0r := (List.cons.inj e).2; have q0 := rV_inj (by first | assumption | exact h | exact h.1 | exact h.1.1 | exact h.1.1.1 | exact h.2 | exact h.2.1 | exact h.2.2 | exact h.2.2.1) (by first | assumption | exact h' | exact h'.1 | exact h'.1.1 | exact h'.1.1.1 | exact h'.2 | exact h'.2.1 | exact h'.2.2 | exact h'.2.2.1) e0; subst q0; first | rfl | exact ⟨rfl, rfl⟩
theorem w_SizeR (n : Nat) (ih_iSr' : ∀ xs v, iSr' n xs = some v → PCall Tryz.prog 47 xs v) (x : Rx) (h : okX x) (hn : sz x ≤ n) : PCall Tryz.prog 47 [rV x] (.int .i64 (size x)) := by
  have hx := h
  have hl := hx.len
  have hc := cR_eq x
  have hse := size_eq x
  refine PCall.of_w (fn := Tryz.f47) (Γ := gam [(47, .pure (iSr' n))]) (mu := false) (Sound.pure ih_iSr' Sound.nil) mixed Tryz.func47 rfl (by kernel_rfl) (by simp) (by kernel_rfl) ?_
  by_cases k2 : x.k = 2
  · rw [if_pos k2] at hse
    simp (disch := first | assumption | omega | exact okR_new | exact okR_one | exact trivial | (simp only [lnA, lnC, lnN]; omega) | (simp only [lnA, lnC, lnN, Nat.reduceAdd])) only [go_sem, e_go, e_cond_bool, e_w_bool, e_step_ite, e_reg_ite, e_regW_ite, e_code_ite, e_block_ite, e_evQ_ite, e_fin_ite, e_pair_ite, Tryz.f47, iSr'_eq, hc, k2, hse]
  · rw [if_neg k2] at hse
    by_cases k3 : x.k < 3 ∨ 5 < x.k
    · rw [if_pos k3] at hse
      simp (disch := first | assumption | omega | exact okR_new | exact okR_one | exact trivial | (simp only [lnA, lnC, lnN]; omega) | (simp only [lnA, lnC, lnN, Nat.reduceAdd])) only [go_sem, e_go, e_cond_bool, e_w_bool, e_step_ite, e_reg_ite, e_regW_ite, e_code_ite, e_block_ite, e_evQ_ite, e_fin_ite, e_pair_ite, Tryz.f47, iSr'_eq, hc, hse]
    · rw [if_neg k3] at hse
      have kk : x.k = 3 ∨ x.k = 4 ∨ x.k = 5 := by omega
      have fin : ∀ i : Nat, ¬ i < x.l.length → i ≤ x.l.length → i = x.l.length := fun i h1 h2 => by omega
      rcases kk with kk | kk | kk <;>
      · simp (disch := first | assumption | omega | exact okR_new | exact okR_one | exact trivial | (simp only [lnA, lnC, lnN]; omega) | (simp only [lnA, lnC, lnN, Nat.reduceAdd])) only [go_sem, e_go, e_cond_bool, e_w_bool, e_step_ite, e_reg_ite, e_regW_ite, e_code_ite, e_block_ite, e_evQ_ite, e_fin_ite, e_pair_ite, Tryz.f47, iSr'_eq, hc, kk]
        refine w_loop [2] [3, 4] (fun i : Nat => x.l.length - i) (fun i => i ≤ x.l.length) (fun i => ⟨[.cells 0 (cR x)], []⟩)
          (fun i => [(3, .int .i64 (sizes (x.l.take i))), (4, .int .i64 (i : Nat))]) 0 (fun _ => rfl) (by kernel_rfl) (Nat.zero_le _) (by simp only [hc, kk]) (by simp [HasE, lk, sizes]) ?_
        intro i hi
        have hb := sizes_bd (x.l.take i)
        by_cases h : i < x.l.length
        · have hg : x.l[i]? = some x.l[i] := by simp [h]
          have hat := fl_at cR_len hg
          have hs := sizes_next hg
          have hle : i * 8 + 8 ≤ x.l.length * 8 := by omega
          have hy := size_pos x.l[i]
          have hok : okX x.l[i] ∧ sz x.l[i] < n := ⟨hx.kid hg, by have := sz_kid hg; omega⟩
          by_cases hm : 1000000 < sizes (x.l.take i) + size x.l[i]
          · have e1 : sizes (x.l.take (i + 1)) = 1000000 := by rw [hs]; unfold imin; rw [if_pos hm]
            have e2 := size_most (x := x) (by omega) (sizes_most e1)
            simp (disch := first | assumption | omega | exact okR_new | exact okR_one | exact trivial | (simp only [lnA, lnC, lnN]; omega) | (simp only [lnA, lnC, lnN, Nat.reduceAdd])) only [go_sem, e_go, e_cond_bool, e_w_bool, e_step_ite, e_reg_ite, e_regW_ite, e_code_ite, e_block_ite, e_evQ_ite, e_fin_ite, e_pair_ite, Tryz.f47, iSr'_eq, hc, hat, kk, e2]
          · have e1 : sizes (x.l.take (i + 1)) = sizes (x.l.take i) + size x.l[i] := by rw [hs]; unfold imin; rw [if_neg hm]
            simp (disch := first | assumption | omega | exact okR_new | exact okR_one | exact trivial | (simp only [lnA, lnC, lnN]; omega) | (simp only [lnA, lnC, lnN, Nat.reduceAdd])) only [go_sem, e_go, e_cond_bool, e_w_bool, e_step_ite, e_reg_ite, e_regW_ite, e_code_ite, e_block_ite, e_evQ_ite, e_fin_ite, e_pair_ite, Tryz.f47, iSr'_eq, hc, hat, kk]
            exact ⟨i + 1, dn h, h, by simp [hc, kk], by simp [HasE, lk, e1]⟩
        · have hi' := fin i h hi
          subst hi'
          rw [List.take_length] at hb
          have ht := times_bd (lo := x.lo) (hi := x.hi) hb
          rw [kk] at hse
          simp (disch := first | assumption | omega | exact okR_new | exact okR_one | exact trivial | (simp only [lnA, lnC, lnN]; omega) | (simp only [lnA, lnC, lnN, Nat.reduceAdd])) only [go_sem, e_go, e_cond_bool, e_w_bool, e_step_ite, e_reg_ite, e_regW_ite, e_code_ite, e_block_ite, e_evQ_ite, e_fin_ite, e_pair_ite, Tryz.f47, iSr'_eq, hc, List.take_length, hse, kk]
theorem iSr'_all : ∀ n xs v, iSr' n xs = some v → PCall Tryz.prog 47 xs v := by
  intro n
  induction n with
  | zero => intro xs v h0; obtain ⟨x, h, rfl, rfl⟩ := pimp_spec h0; exact absurd h.2 (Nat.not_lt_zero _)
  | succ n ih => intro xs v h0; obtain ⟨x, h, rfl, rfl⟩ := pimp_spec h0; exact w_SizeR n ih x h.1 (Nat.le_of_lt_succ h.2)
noncomputable def iSr : List AVal → Option AVal := pimp fun xs r => ∃ (x : Rx), (okX x) ∧ xs = [rV x] ∧ r = .int .i64 (size x)
theorem iSr_eq {x : Rx} (h : okX x) : iSr [rV x] = some (.int .i64 (size x)) := pimp_eq ⟨x, h, rfl, rfl⟩ (by rintro _ ⟨x', h', e, rfl⟩; have e0 := (List.cons.inj e).1; have e0r := (List.cons.inj e).2; have q0 := rV_inj (by first | assumption | exact h | exact h.1 | exact h.1.1 | exact h.1.1.1 | exact h.2 | exact h.2.1 | exact h.2.2 | exact h.2.2.1) (by first | assumption | exact h' | exact h'.1 | exact h'.1.1 | exact h'.1.1.1 | exact h'.2 | exact h'.2.1 | exact h'.2.2 | exact h'.2.2.1) e0; subst q0; first | rfl | exact ⟨rfl, rfl⟩)
theorem iSr_call : ∀ xs v, iSr xs = some v → PCall Tryz.prog 47 xs v := fun xs v h0 => by obtain ⟨x, h, rfl, rfl⟩ := pimp_spec h0; exact iSr'_all (sz x + 1) _ _ (iSr'_eq ⟨h, Nat.lt_succ_self _⟩)
end Go.Hk.MZ
