/- Layer 3: what is made, by numbers, and that it answers both ways. -/
import Derived.Test.YtbnhflckmfmkoaaHkCM3
import Derived.Test.YtbnhflckmfmkoaaHkCRC
set_option linter.unusedSimpArgs false
set_option linter.unusedVariables false
set_option maxRecDepth 20000
namespace Go.Hk.C
open Go.Proofs

theorem rxM4_ok (L : List UInt8) : okX (rxM L 4 0).1 := (rxM_good L 4 0 (by omega)).ok
theorem w_Made (L : List UInt8) (hL : L.length < 9223372036854775808) : PCall Try.prog 9 [slc cU L] (rV (madeX L)) := by
  have ht : (L.take 30).length = min 30 L.length := List.length_take ..
  have o0 : 0 + 8 * 2 ^ 4 ≤ 100000 := by decide
  have hsh : ∀ (k : Nat) (M : List UInt8), shut ⟨[.cells 0 [.int .i64 0, .int .u64 0, .int .u64 0, .int .u64 0, .int .u64 0, .int .i64 0, .int .i64 0, .sl .nil 0 []], .cells 0 [.sl .no k (fl cU M), .int .i64 0]], []⟩ = true := fun k M => by
    have := cloL_strip _ _ (h := 2) (t := 0) (l_s_cU (s := M))
    simp [shut, cloB, cloL, clo, cloR, this]
  have tk : List.take 30 (fl cU L) = fl cU (L.take 30) := by
    have := fl_take (f := cU) (k := 1) (fun _ => rfl) L 30
    simpa using this
  unfold madeX
  by_cases hl : 30 < L.length
  · have h2 : (L.take 30).length = 30 := by omega
    generalize L.take 30 = M at *
    have h1 := rxM4_ok M
    by_cases h4 : 40 < size (rxM M 4 0).1
    · have h3 : (40 : Int) < size (rxM M 4 0).1 := by omega
      refine PCall.of_w (fn := Try.f9) (Γ := gam [(19, .raw iRx), (20, .pure iSr), (21, .pure iChr)]) (mu := false) (Sound.raw iRx_call (Sound.pure iSr_call (Sound.pure iChr_call Sound.nil))) mixed Try.func9 rfl (by kernel_rfl) (by simp) (by kernel_rfl) ?_
      simp (disch := first | assumption | omega | exact okR_new | exact okR_one | exact trivial | (simp only [List.length_append, List.length_cons, List.length_nil]; omega) | (simp only [List.length_append, List.length_cons, List.length_nil, Nat.reduceAdd]) | exact hsh _ _) only [go_sem, e_go, e_cond_bool, e_w_bool, e_step_ite, e_reg_ite, e_regW_ite, e_code_ite, e_block_ite, e_evQ_ite, e_fin_ite, e_pair_ite, Try.f9, iRx_eq, mk_on, mk_on0, iSr_eq, iChr_eq, tk, set_at]
    · have h3 : ¬ (40 : Int) < size (rxM M 4 0).1 := by omega
      refine PCall.of_w (fn := Try.f9) (Γ := gam [(19, .raw iRx), (20, .pure iSr), (21, .pure iChr)]) (mu := false) (Sound.raw iRx_call (Sound.pure iSr_call (Sound.pure iChr_call Sound.nil))) mixed Try.func9 rfl (by kernel_rfl) (by simp) (by kernel_rfl) ?_
      simp (disch := first | assumption | omega | exact okR_new | exact okR_one | exact trivial | (simp only [List.length_append, List.length_cons, List.length_nil]; omega) | (simp only [List.length_append, List.length_cons, List.length_nil, Nat.reduceAdd]) | exact hsh _ _) only [go_sem, e_go, e_cond_bool, e_w_bool, e_step_ite, e_reg_ite, e_regW_ite, e_code_ite, e_block_ite, e_evQ_ite, e_fin_ite, e_pair_ite, Try.f9, iRx_eq, mk_on, mk_on0, iSr_eq, iChr_eq, tk, set_at]
  · rw [List.take_of_length_le (by omega)]
    have h1 := rxM4_ok L
    by_cases h4 : 40 < size (rxM L 4 0).1
    · have h3 : (40 : Int) < size (rxM L 4 0).1 := by omega
      refine PCall.of_w (fn := Try.f9) (Γ := gam [(19, .raw iRx), (20, .pure iSr), (21, .pure iChr)]) (mu := false) (Sound.raw iRx_call (Sound.pure iSr_call (Sound.pure iChr_call Sound.nil))) mixed Try.func9 rfl (by kernel_rfl) (by simp) (by kernel_rfl) ?_
      simp (disch := first | assumption | omega | exact okR_new | exact okR_one | exact trivial | (simp only [List.length_append, List.length_cons, List.length_nil]; omega) | (simp only [List.length_append, List.length_cons, List.length_nil, Nat.reduceAdd]) | exact hsh _ _) only [go_sem, e_go, e_cond_bool, e_w_bool, e_step_ite, e_reg_ite, e_regW_ite, e_code_ite, e_block_ite, e_evQ_ite, e_fin_ite, e_pair_ite, Try.f9, iRx_eq, mk_on, mk_on0, iSr_eq, iChr_eq, tk, set_at]
    · have h3 : ¬ (40 : Int) < size (rxM L 4 0).1 := by omega
      refine PCall.of_w (fn := Try.f9) (Γ := gam [(19, .raw iRx), (20, .pure iSr), (21, .pure iChr)]) (mu := false) (Sound.raw iRx_call (Sound.pure iSr_call (Sound.pure iChr_call Sound.nil))) mixed Try.func9 rfl (by kernel_rfl) (by simp) (by kernel_rfl) ?_
      simp (disch := first | assumption | omega | exact okR_new | exact okR_one | exact trivial | (simp only [List.length_append, List.length_cons, List.length_nil]; omega) | (simp only [List.length_append, List.length_cons, List.length_nil, Nat.reduceAdd]) | exact hsh _ _) only [go_sem, e_go, e_cond_bool, e_w_bool, e_step_ite, e_reg_ite, e_regW_ite, e_code_ite, e_block_ite, e_evQ_ite, e_fin_ite, e_pair_ite, Try.f9, iRx_eq, mk_on, mk_on0, iSr_eq, iChr_eq, tk, set_at]
noncomputable def iMade : List AVal → Option AVal := pimp fun xs r => ∃ (L : List UInt8), (L.length < 9223372036854775808) ∧ xs = [slc cU L] ∧ r = rV (madeX L)
theorem iMade_eq {L : List UInt8} (h : L.length < 9223372036854775808) : iMade [slc cU L] = some (rV (madeX L)) := pimp_eq ⟨L, h, rfl, rfl⟩ (by rintro _ ⟨L', h', e, rfl⟩; have e0 := (List.cons.inj e).1; have e0r := (List.cons.inj e).2; have q0 := slc_inj cU_len (fun _ _ _ _ => cU_inj) e0; subst q0; first | rfl | exact ⟨rfl, rfl⟩)
theorem iMade_call : ∀ xs v, iMade xs = some v → PCall Try.prog 9 xs v := fun xs v h0 => by obtain ⟨L, h, rfl, rfl⟩ := pimp_spec h0; exact w_Made L h
end Go.Hk.C
