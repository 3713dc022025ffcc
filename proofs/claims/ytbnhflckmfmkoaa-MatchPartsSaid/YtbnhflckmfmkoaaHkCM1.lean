/- Layer 3: patterns by numbers. -/
import Derived.Test.YtbnhflckmfmkoaaHkCRC
import Derived.Test.YtbnhflckmfmkoaaHkMkr
set_option linter.unusedSimpArgs false
set_option linter.unusedVariables false
namespace Go.Hk.C
open Go.Proofs
theorem ti5 : tiOf Try.prog 5 = some { size := 1, bytes := 1, zero := some (.int .u8 0), k := .int .u8 } := by kernel_rfl
attribute [go_sem] ti5
theorem ti22 : tiOf Try.prog 22 = some { size := 1, bytes := 24, zero := some (.sl .nil 0 []), k := .slice 5 } := by kernel_rfl
attribute [go_sem] ti22
theorem ti37 : tiOf Try.prog 37 = some { size := 1, bytes := 24, zero := some (.sl .nil 0 []), k := .slice 3 } := by kernel_rfl
attribute [go_sem] ti37
theorem ti43 : tiOf Try.prog 43 = some { size := 1, bytes := 8, zero := some (.nilp), k := .ptr 45 } := by kernel_rfl
attribute [go_sem] ti43
theorem ti45 : tiOf Try.prog 45 = some { size := 2, bytes := 32, zero := some (.agg [.sl .nil 0 [], .int .i64 0]), k := .struct [(true, 22, 0), (true, 3, 1)] } := by kernel_rfl
attribute [go_sem] ti45
theorem iPk_call : ∀ xs m v m', iPk xs m = some (v, m') → RCall Try.prog 30 xs m v m' := by
  rintro xs ⟨H, T⟩ v m' h
  unfold iPk at h
  split at h
  · rename_i b n
    unfold pkR at h
    split at h
    · rename_i x k cs a hx
      split at h
      · rename_i L hb
        split at h
        · rename_i hc
          obtain ⟨rfl, hL, h0, h1, hn, hn2⟩ := hc
          obtain ⟨a, rfl⟩ := Int.eq_ofNat_of_zero_le h0
          obtain ⟨n, rfl⟩ := Int.eq_ofNat_of_zero_le (show 0 ≤ n by omega)
          have := bytesOf_spec _ _ hb
          rw [← fl_cU_map] at this
          subst this
          have hl := (List.getElem?_eq_some_iff.1 hx).1
          cases h
          simp only at hx hl
          by_cases hin : a < L.length
          · have hg : L[a]? = some L[a] := by simp [hin]
            have hget := fl_get1 cU_len hg
            have hpv := pickV_in (n := n) hin
            have hu := L[a].toNat_lt
            have hm : ((L[a].toNat : Nat) : Int).tmod n = ((L[a].toNat % n : Nat) : Int) := by rw [Int.tmod_eq_emod_of_nonneg (by omega)]; rfl
            have ea : (a : Int) + 1 - 1 = a := by omega
            refine RCall.of_w (fn := Try.f30) (Γ := gam []) (mu := false) (by simp) (by simp) Sound.nil mixed Try.func30 rfl (by kernel_rfl) (by simp) (by kernel_rfl) ?_
            simp (disch := first | assumption | omega | exact okR_new | exact okR_one | exact trivial | (simp only [List.length_append, List.length_cons, List.length_nil]; omega) | (simp only [List.length_append, List.length_cons, List.length_nil, Nat.reduceAdd])) only [go_sem, e_go, e_cond_bool, e_w_bool, e_step_ite, e_reg_ite, e_regW_ite, e_code_ite, e_block_ite, e_evQ_ite, e_fin_ite, e_pair_ite, Try.f30, hx, set_at, List.set_set, ea, hget, cU, hm, hpv]
            exact .inl rfl
          · have hpv := pickV_out (n := n) (show L.length ≤ a by omega)
            refine RCall.of_w (fn := Try.f30) (Γ := gam []) (mu := false) (by simp) (by simp) Sound.nil mixed Try.func30 rfl (by kernel_rfl) (by simp) (by kernel_rfl) ?_
            simp (disch := first | assumption | omega | exact okR_new | exact okR_one | exact trivial | (simp only [List.length_append, List.length_cons, List.length_nil]; omega) | (simp only [List.length_append, List.length_cons, List.length_nil, Nat.reduceAdd])) only [go_sem, e_go, e_cond_bool, e_w_bool, e_step_ite, e_reg_ite, e_regW_ite, e_code_ite, e_block_ite, e_evQ_ite, e_fin_ite, e_pair_ite, Try.f30, hx, set_at, List.set_set, hpv]
            exact ⟨rfl, .inl rfl⟩
        · cases h
      · cases h
    · cases h
  · cases h

theorem bI6 {m : AMem} {a b c d e f : Int} : abuildSlice Try.prog false m 37 6 [(0, .int .i64 a), (1, .int .i64 b), (2, .int .i64 c), (3, .int .i64 d), (4, .int .i64 e), (5, .int .i64 f)] = some (.sl .full 6 [.int .i64 a, .int .i64 b, .int .i64 c, .int .i64 d, .int .i64 e, .int .i64 f], m) := build_seq (mu := false) (vs := [.int .i64 a, .int .i64 b, .int .i64 c, .int .i64 d, .int .i64 e, .int .i64 f]) ti37 rfl ti3 rfl rfl (by decide) rfl (by decide)
theorem iLf_call : ∀ xs m v m', iLf xs m = some (v, m') → RCall Try.prog 31 xs m v m' := by
  rintro xs ⟨G, T⟩ v m' h
  unfold iLf at h
  split at h
  · rename_i b
    obtain ⟨L, a, hx, hL, ho, hs, rfl, rfl⟩ := mk_cases h
    have hl := (List.getElem?_eq_some_iff.1 hx).1
    simp only [mkC] at hx hl hs ho ⊢
    have hc0 : ∀ h : Nat, cloB h T.length (.cells 0 [.sl .no L.length (fl cU L), .int .i64 ((leafM L a).2 : Nat)]) = true := fun h => mkC_clo
    have h8 := pickV_lt (L := L) (a := a) (n := 8) (by omega)
    have h6 := pickV_lt (L := L) (a := a + 1) (n := 6) (by omega)
    have h3 := pickV_lt (L := L) (a := a + 1) (n := 3) (by omega)
    unfold leafM
    refine RCall.of_ws (fn := Try.f31) (Γ := gam [(21, .pure iChr), (27, .pure iOf), (30, .raw iPk), (50, .pure iNot)]) (mu := false) (by simp) (by simp) (Sound.pure iChr_call (Sound.pure iOf_call (Sound.raw iPk_call (Sound.pure iNot_call Sound.nil)))) mixed Try.func31 rfl (by kernel_rfl) (by simp) (by kernel_rfl) ?_
    by_cases k0 : pickV L a 8 = 0
    · simp only [if_pos k0]
      simp (disch := first | assumption | omega | exact okR_new | exact okR_one | exact trivial | (simp only [List.length_append, List.length_cons, List.length_nil]; omega) | (simp only [List.length_append, List.length_cons, List.length_nil, Nat.reduceAdd])) only [go_sem, e_go, e_cond_bool, e_w_bool, e_step_ite, e_reg_ite, e_regW_ite, e_code_ite, e_block_ite, e_evQ_ite, e_fin_ite, e_pair_ite, Try.f31, iChr_eq, iOf_eq, iPk_eq, pk_on, iNot_eq, hx, set_at, List.set_set, m_at hl, m_atS hl, m_set hl, m_setS hl, k0, setL]
      exact ⟨rfl, leftM_one (shut_set hs mkC_clo)⟩
    · rw [if_neg k0]
      by_cases k1 : pickV L a 8 = 1
      · simp only [if_pos k1]
        simp (disch := first | assumption | omega | exact okR_new | exact okR_one | exact trivial | (simp only [List.length_append, List.length_cons, List.length_nil]; omega) | (simp only [List.length_append, List.length_cons, List.length_nil, Nat.reduceAdd])) only [go_sem, e_go, e_cond_bool, e_w_bool, e_step_ite, e_reg_ite, e_regW_ite, e_code_ite, e_block_ite, e_evQ_ite, e_fin_ite, e_pair_ite, Try.f31, iChr_eq, iOf_eq, iPk_eq, pk_on, iNot_eq, hx, set_at, List.set_set, m_at hl, m_atS hl, m_set hl, m_setS hl, k1, setL]
        exact ⟨rfl, leftM_one (shut_set hs mkC_clo)⟩
      · rw [if_neg k1]
        by_cases k2 : pickV L a 8 = 2
        · have hN := ofN_lt 97 97
          simp only [if_pos k2]
          simp (disch := first | assumption | omega | exact okR_new | exact okR_one | exact trivial | (simp only [List.length_append, List.length_cons, List.length_nil]; omega) | (simp only [List.length_append, List.length_cons, List.length_nil, Nat.reduceAdd])) only [go_sem, e_go, e_cond_bool, e_w_bool, e_step_ite, e_reg_ite, e_regW_ite, e_code_ite, e_block_ite, e_evQ_ite, e_fin_ite, e_pair_ite, Try.f31, iChr_eq, iOf_eq, iPk_eq, pk_on, iNot_eq, hx, set_at, List.set_set, m_at hl, m_atS hl, m_set hl, m_setS hl, k2, setL]
          exact ⟨rfl, leftM_one (shut_set hs mkC_clo)⟩
        · rw [if_neg k2]
          by_cases k3 : pickV L a 8 = 3
          · have ho : ([AVal.int .i64 10, AVal.int .i64 45, AVal.int .i64 90, AVal.int .i64 0, AVal.int .i64 255, AVal.int .i64 48] : List AVal)[pickV L (a + 1) 6]? = some (.int .i64 (odds.getD (pickV L (a + 1) 6) 0)) := by
              generalize pickV L (a + 1) 6 = p at h6
              have : p = 0 ∨ p = 1 ∨ p = 2 ∨ p = 3 ∨ p = 4 ∨ p = 5 := by omega
              rcases this with rfl | rfl | rfl | rfl | rfl | rfl <;> rfl
            simp only [if_pos k3]
            simp (disch := first | assumption | omega | exact okR_new | exact okR_one | exact trivial | (simp only [List.length_append, List.length_cons, List.length_nil]; omega) | (simp only [List.length_append, List.length_cons, List.length_nil, Nat.reduceAdd])) only [go_sem, e_go, e_cond_bool, e_w_bool, e_step_ite, e_reg_ite, e_regW_ite, e_code_ite, e_block_ite, e_evQ_ite, e_fin_ite, e_pair_ite, Try.f31, iChr_eq, iOf_eq, iPk_eq, pk_on, iNot_eq, hx, set_at, List.set_set, m_at hl, m_atS hl, m_set hl, m_setS hl, k3, bI6, ho]
            exact leftM_one (shut_set hs mkC_clo)
          · simp only [if_neg k3]
            simp (disch := first | assumption | omega | exact okR_new | exact okR_one | exact trivial | (simp only [List.length_append, List.length_cons, List.length_nil]; omega) | (simp only [List.length_append, List.length_cons, List.length_nil, Nat.reduceAdd])) only [go_sem, e_go, e_cond_bool, e_w_bool, e_step_ite, e_reg_ite, e_regW_ite, e_code_ite, e_block_ite, e_evQ_ite, e_fin_ite, e_pair_ite, Try.f31, iChr_eq, iOf_eq, iPk_eq, pk_on, iNot_eq, hx, set_at, List.set_set, m_at hl, m_atS hl, m_set hl, m_setS hl]
            exact leftM_one (shut_set hs mkC_clo)
  · cases h

end Go.Hk.C
