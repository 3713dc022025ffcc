import Derived.Test.YtdimacffjdpkfaaGreatHkQ36
import Derived.Test.YtdimacffjdpkfaaGreatHkQ21
import Derived.Test.YtdimacffjdpkfaaGreatHkQ27
import Derived.Test.YtdimacffjdpkfaaGreatHkQ22
set_option linter.unusedSimpArgs false
set_option linter.unusedVariables false
set_option maxRecDepth 20000
namespace Go.Hk.MZ
open Go.Proofs

theorem w_ActR (s : Sp) (i c : Int) (h' : okSp s) : PCall Tryz.prog 29 [sV s, .int .i64 i, .int .i64 c] (.bool (activeS s i c)) := by
  have hl := h'.nc
  have hl2 := h'.nr
  have hcs := cSp_eq s
  refine PCall.of_w (fn := Tryz.f29) (Γ := gam []) (mu := false) Sound.nil mixed Tryz.func29 rfl (by kernel_rfl) (by simp) (by kernel_rfl) ?_
  by_cases hb : 0 ≤ i ∧ i < s.rules.length ∧ 0 ≤ c ∧ c < s.conds.length
  · obtain ⟨h1, h2, h3, h4⟩ := hb
    obtain ⟨k, rfl⟩ : ∃ k : Nat, i = (k : Nat) := ⟨i.toNat, by omega⟩
    obtain ⟨j, rfl⟩ : ∃ j : Nat, c = (j : Nat) := ⟨c.toNat, by omega⟩
    have hk : k < s.rules.length := by omega
    have hj : j < s.conds.length := by omega
    have hg : s.rules[k]? = some s.rules[k] := by simp [hk]
    have hgc : s.conds[j]? = some s.conds[j] := by simp [hj]
    have hat := fl_at cRu_len hg
    have hc1 := fl_get cCd_len hgc (j := 1) (by omega)
    simp only [cCd, List.getElem?_cons_zero, List.getElem?_cons_succ] at hc1
    have hle : k * 22 + 22 ≤ s.rules.length * 22 := by omega
    have hle2 : j * 2 + 2 ≤ s.conds.length * 2 := by omega
    have hor := (h'.ru _ (List.getElem_mem hk)).nc
    have ha : activeS s (k : Nat) (j : Nat) = (s.rules[k].all || s.rules[k].conds.any (fun a => decide (((j : Nat) : Int) = a)) || (decide (s.rules[k].conds.length = 0) && !s.conds[j].ex)) := by
      unfold activeS
      rw [if_pos ⟨h1, h2, h3, h4⟩]
      simp [List.getD_eq_getElem?_getD, hg, hgc]
    rw [ha]
    generalize s.rules[k] = q at *
    generalize s.conds[j] = d at *
    have hcq := cRu_eq q
    clear ha
    cases hall : q.all
    · simp (disch := first | assumption | omega | exact okR_new | exact okR_one | exact trivial | (simp only [lnA, lnC, lnN]; omega) | (simp only [lnA, lnC, lnN, Nat.reduceAdd])) only [go_sem, e_go, e_cond_bool, e_w_bool, e_step_ite, e_reg_ite, e_regW_ite, e_code_ite, e_block_ite, e_evQ_ite, e_fin_ite, e_pair_ite, Tryz.f29, hcs, hat, hcq, hall]
      rw [Bool.false_or]
      refine w_loop [6] [8] (fun i : Nat => q.conds.length - i) (fun i => i ≤ q.conds.length ∧ (q.conds.take i).any (fun a => decide (((j : Nat) : Int) = a)) = false) (fun i => ⟨[.cells 0 (cSp s), .cells 0 (cRu q)], []⟩)
        (fun i => [(8, .int .i64 (i : Nat))]) 0 (fun _ => rfl) (by kernel_rfl) ⟨Nat.zero_le _, rfl⟩ (by simp only [hcs, hcq, hall]) (by simp [HasE, lk]) ?_
      rintro i ⟨hi, hq⟩
      by_cases h : i < q.conds.length
      · have hgi : q.conds[i]? = some q.conds[i] := by simp [h]
        have hati := fl_get1 cI_len hgi
        by_cases he : q.conds[i] = (j : Nat)
        · have hany : q.conds.any (fun a => decide (((j : Nat) : Int) = a)) = true := List.any_eq_true.2 ⟨_, List.getElem_mem h, by simp [he]⟩
          simp (disch := first | assumption | omega | exact okR_new | exact okR_one | exact trivial | (simp only [lnA, lnC, lnN]; omega) | (simp only [lnA, lnC, lnN, Nat.reduceAdd])) only [go_sem, e_go, e_cond_bool, e_w_bool, e_step_ite, e_reg_ite, e_regW_ite, e_code_ite, e_block_ite, e_evQ_ite, e_fin_ite, e_pair_ite, Tryz.f29, hcs, hcq, hall, hati, cI, he]
          rw [hany]; rfl
        · simp (disch := first | assumption | omega | exact okR_new | exact okR_one | exact trivial | (simp only [lnA, lnC, lnN]; omega) | (simp only [lnA, lnC, lnN, Nat.reduceAdd])) only [go_sem, e_go, e_cond_bool, e_w_bool, e_step_ite, e_reg_ite, e_regW_ite, e_code_ite, e_block_ite, e_evQ_ite, e_fin_ite, e_pair_ite, Tryz.f29, hcs, hcq, hall, hati, cI, he]
          exact ⟨i + 1, dn h, ⟨h, by rw [List.take_succ_eq_append_getElem h, List.any_append, hq]; simp [Ne.symm he]⟩, by simp only [hcs, hcq, hall], by simp [HasE, lk]⟩
      · have hi' : i = q.conds.length := by omega
        subst hi'
        rw [List.take_length] at hq
        rw [hq, Bool.false_or]
        by_cases hz : q.conds.length = 0
        · simp (disch := first | assumption | omega | exact okR_new | exact okR_one | exact trivial | (simp only [lnA, lnC, lnN]; omega) | (simp only [lnA, lnC, lnN, Nat.reduceAdd])) only [go_sem, e_go, e_cond_bool, e_w_bool, e_step_ite, e_reg_ite, e_regW_ite, e_code_ite, e_block_ite, e_evQ_ite, e_fin_ite, e_pair_ite, Tryz.f29, hcs, hcq, hall, hc1, hz]
          try simp
        · simp (disch := first | assumption | omega | exact okR_new | exact okR_one | exact trivial | (simp only [lnA, lnC, lnN]; omega) | (simp only [lnA, lnC, lnN, Nat.reduceAdd])) only [go_sem, e_go, e_cond_bool, e_w_bool, e_step_ite, e_reg_ite, e_regW_ite, e_code_ite, e_block_ite, e_evQ_ite, e_fin_ite, e_pair_ite, Tryz.f29, hcs, hcq, hall, hc1, hz]
          try simp
    · simp (disch := first | assumption | omega | exact okR_new | exact okR_one | exact trivial | (simp only [lnA, lnC, lnN]; omega) | (simp only [lnA, lnC, lnN, Nat.reduceAdd])) only [go_sem, e_go, e_cond_bool, e_w_bool, e_step_ite, e_reg_ite, e_regW_ite, e_code_ite, e_block_ite, e_evQ_ite, e_fin_ite, e_pair_ite, Tryz.f29, hcs, hat, hcq, hall]
      rfl
  · have hf : activeS s i c = false := by unfold activeS; rw [if_neg hb]
    (simp (disch := first | assumption | omega | exact okR_new | exact okR_one | exact trivial | (simp only [lnA, lnC, lnN]; omega) | (simp only [lnA, lnC, lnN, Nat.reduceAdd])) only [go_sem, e_bin_bool, Bool.true_and, Bool.and_true, Bool.false_and, Bool.and_false, Bool.true_or, Bool.or_true, Bool.false_or, Bool.or_false, Bool.not_eq_eq_eq_not, Bool.not_not, z_or, z_and, z_beq_t, z_beq_f, decide_eq_true_eq, decide_eq_false_iff_not, ite_not, Bool.not_eq_true', Bool.or_eq_true, Bool.and_eq_true, i_t, i_f, Tryz.f29, hcs] <;> (repeat' ((first | refine w_cond_cases ?_ ?_ | refine w_go_cases ?_ ?_ | refine w_pick_cases ?_ ?_) <;> intro hq <;> (try simp only [decide_eq_true_eq, decide_eq_false_iff_not, Bool.not_eq_true', Bool.not_eq_false', Bool.or_eq_true, Bool.and_eq_true, Bool.or_eq_false_iff, Bool.and_eq_false_iff, Bool.not_eq_eq_eq_not, Bool.not_true, Bool.not_false, Bool.not_not] at hq) <;> (first | simp (disch := first | assumption | omega | exact okR_new | exact okR_one | exact trivial | (simp only [lnA, lnC, lnN]; omega) | (simp only [lnA, lnC, lnN, Nat.reduceAdd])) only [show (_ : Bool) = true from hq, go_sem, e_bin_bool, Bool.true_and, Bool.and_true, Bool.false_and, Bool.and_false, Bool.true_or, Bool.or_true, Bool.false_or, Bool.or_false, Bool.not_eq_eq_eq_not, Bool.not_not, z_or, z_and, z_beq_t, z_beq_f, decide_eq_true_eq, decide_eq_false_iff_not, ite_not, Bool.not_eq_true', Bool.or_eq_true, Bool.and_eq_true, i_t, i_f, Tryz.f29, hcs] | simp (disch := first | assumption | omega | exact okR_new | exact okR_one | exact trivial | (simp only [lnA, lnC, lnN]; omega) | (simp only [lnA, lnC, lnN, Nat.reduceAdd])) only [show (_ : Bool) = false from hq, go_sem, e_bin_bool, Bool.true_and, Bool.and_true, Bool.false_and, Bool.and_false, Bool.true_or, Bool.or_true, Bool.false_or, Bool.or_false, Bool.not_eq_eq_eq_not, Bool.not_not, z_or, z_and, z_beq_t, z_beq_f, decide_eq_true_eq, decide_eq_false_iff_not, ite_not, Bool.not_eq_true', Bool.or_eq_true, Bool.and_eq_true, i_t, i_f, Tryz.f29, hcs] | simp (disch := first | assumption | omega | exact okR_new | exact okR_one | exact trivial | (simp only [lnA, lnC, lnN]; omega) | (simp only [lnA, lnC, lnN, Nat.reduceAdd])) only [go_sem, e_bin_bool, Bool.true_and, Bool.and_true, Bool.false_and, Bool.and_false, Bool.true_or, Bool.or_true, Bool.false_or, Bool.or_false, Bool.not_eq_eq_eq_not, Bool.not_not, z_or, z_and, z_beq_t, z_beq_f, decide_eq_true_eq, decide_eq_false_iff_not, ite_not, Bool.not_eq_true', Bool.or_eq_true, Bool.and_eq_true, i_t, i_f, Tryz.f29, hcs] | skip))))
    all_goals first | (exfalso; grind) | rw [hf]
noncomputable def iActR : List AVal → Option AVal := pimp fun xs r => ∃ (u : Sp) (i : Int) (c : Int), (okSp u) ∧ xs = [sV u, .int .i64 i, .int .i64 c] ∧ r = .bool (activeS u i c)
theorem iActR_eq {u : Sp} {i : Int} {c : Int} (h : okSp u) : iActR [sV u, .int .i64 i, .int .i64 c] = some (.bool (activeS u i c)) := pimp_eq ⟨u, i, c, h, rfl, rfl⟩ (by rintro _ ⟨u', i', c', h', e, rfl⟩; have e0 := sV_inj h h' (List.cons.inj e).1; have e1 := (AVal.int.inj (List.cons.inj (List.cons.inj e).2).1).2; have e2 := (AVal.int.inj (List.cons.inj (List.cons.inj (List.cons.inj e).2).2).1).2; subst e0 e1 e2; rfl)
theorem iActR_call : ∀ xs v, iActR xs = some v → PCall Tryz.prog 29 xs v := fun xs v h0 => by obtain ⟨u, i, c, h, rfl, rfl⟩ := pimp_spec h0; exact w_ActR u i c h
end Go.Hk.MZ
set_option maxHeartbeats 4000000
namespace Go.Hk.MZ
open Go.Proofs

theorem c_flIs {h t : Nat} {l : List Int} : cloL h t (fl cI l) = true := cloL_strip _ _ (fl_strip cI_strip l)
theorem bI1s {m : AMem} {a : Int} : abuildSlice Tryz.prog false m 41 1 [(0, .int .i64 a)] = some (.sl .full 1 [.int .i64 a], m) := build_one ti41 ti3 rfl rfl rfl rfl (by decide) (by decide)
theorem iSmA_call : ∀ xs m v m', iSmA xs m = some (v, m') → RCall Tryz.prog 31 xs m v m' := by
  rintro xs ⟨G, T⟩ v m' h
  unfold iSmA at h
  split at h
  · rename_i b
    obtain ⟨L, a, hx, hL, ho, hs, rfl, rfl⟩ := mk_cases h
    have hl := (List.getElem?_eq_some_iff.1 hx).1
    simp only [mkC] at hx hl hs ho ⊢
    have hsC : ∀ a' : Nat, shut ⟨G.set b (.cells 0 [.sl .no L.length (fl cU L), .int .i64 (a' : Nat)]), T⟩ = true := fun a' => shut_set hs mkC_clo
    have hs1 : shut ⟨G ++ [.cells 0 [.int .i64 0, .int .u64 0, .int .u64 0, .int .u64 0, .int .u64 0, .int .i64 0, .int .i64 0, .sl .nil 0 []]], T⟩ = true := by
      have := shut_app (X := []) hs (l := [.cells 0 [.int .i64 0, .int .u64 0, .int .u64 0, .int .u64 0, .int .u64 0, .int .i64 0, .int .i64 0, .sl .nil 0 []]]) (by intros; simp [cloB, cloL, clo, cloR])
      simpa using this
    have o1 : (2 : Int).toNat ≤ 10 ∧ a + 8 * 2 ^ (2 : Int).toNat ≤ 100000 := by have : (2 : Int).toNat = 2 := rfl; rw [this]; omega
    have o2 : (2 : Int).toNat < 11 ∧ (-2 : Int) ≤ 2 := by decide
    have e2 : (2 : Int).toNat = 2 := rfl
    have hg := (rxM_good L 2 a (by omega)).ok
    unfold smallM
    simp only
    by_cases h4 : 12 < size (rxM L 2 a).1
    · rw [if_pos h4]
      refine RCall.of_ws (fn := Tryz.f31) (Γ := gam [(9, .pure iOf), (46, .raw iRx), (47, .pure iSr)]) (mu := false) (by simp) (by simp) (Sound.pure iOf_call (Sound.raw iRx_call (Sound.pure iSr_call Sound.nil))) mixed Tryz.func31 rfl (by kernel_rfl) (by simp) (by kernel_rfl) ?_
      simp (disch := first | assumption | omega | exact okR_new | exact okR_one | exact trivial | (simp only [lnA, lnC, lnN]; omega) | (simp only [lnA, lnC, lnN, Nat.reduceAdd]) | exact hs1) only [go_sem, e_go, e_cond_bool, e_w_bool, e_step_ite, e_reg_ite, e_regW_ite, e_code_ite, e_block_ite, e_evQ_ite, e_fin_ite, e_pair_ite, Tryz.f31, iOf_eq, iRx_eq, mk_on, mk_on0, iSr_eq, hx, set_at, List.set_set, m_at hl, m_atS hl, m_set hl, m_setS hl, e2, setL]
      exact ⟨rfl, leftM_one (hsC _)⟩
    · rw [if_neg h4]
      refine RCall.of_ws (fn := Tryz.f31) (Γ := gam [(9, .pure iOf), (46, .raw iRx), (47, .pure iSr)]) (mu := false) (by simp) (by simp) (Sound.pure iOf_call (Sound.raw iRx_call (Sound.pure iSr_call Sound.nil))) mixed Tryz.func31 rfl (by kernel_rfl) (by simp) (by kernel_rfl) ?_
      simp (disch := first | assumption | omega | exact okR_new | exact okR_one | exact trivial | (simp only [lnA, lnC, lnN]; omega) | (simp only [lnA, lnC, lnN, Nat.reduceAdd]) | exact hs1) only [go_sem, e_go, e_cond_bool, e_w_bool, e_step_ite, e_reg_ite, e_regW_ite, e_code_ite, e_block_ite, e_evQ_ite, e_fin_ite, e_pair_ite, Tryz.f31, iOf_eq, iRx_eq, mk_on, mk_on0, iSr_eq, hx, set_at, List.set_set, m_at hl, m_atS hl, m_set hl, m_setS hl, e2, setL]
      exact leftM_one (hsC _)
  · cases h

theorem apJ_T : appT Tryz.prog 41 41 = some ⟨3, 1, 8⟩ := by kernel_rfl
theorem apJ_one {H : List ABlk} {T : List (Nat × (Nat × Nat))} {r r' : Rt} {l} {x} (hr : okR T r l.length (1, 3) = true) (hn : l.length + 1 < 1000000000) : aappend Tryz.prog 41 41 ⟨H, T⟩ (.sl r l.length (fl cI l)) (.sl r' 1 (cI x)) = some (.sl (nxR T r) (l ++ [x]).length (fl cI (l ++ [x])), ⟨H, nxT T r (l ++ [x]).length (1, 3)⟩) := app_fl1 apJ_T (by decide) cI_len rfl hr hn
theorem w_rule (G : List ABlk) (T : List (Nat × (Nat × Nat))) (b n a : Nat) (L : List UInt8) (p : Bool) (hx : G[b]? = some (mkC L.length L ((a : Nat) : Int))) (hL : L.length < 1000000) (ho : a ≤ 10000) (hs : shut ⟨G, T⟩ = true) (hn1 : 1 ≤ n) (hn8 : n ≤ 8) :
    RCall Tryz.prog 17 [.ptr b 0 0, .int .i64 (n : Nat), .bool p] ⟨G, T⟩ (ruV (ruM L n p a).1) ⟨G.set b (mkC L.length L ((ruM L n p a).2 : Nat)), T⟩ := by
  have hl := (List.getElem?_eq_some_iff.1 hx).1
  have hend := ruM_at L n p a
  simp only [mkC] at hx hl hs ho ⊢
  have hsC : ∀ a' : Nat, shut ⟨G.set b (.cells 0 [.sl .no L.length (fl cU L), .int .i64 (a' : Nat)]), T⟩ = true := fun a' => shut_set hs mkC_clo
  have p3 := pickV_lt (L := L) (a := a) (n := 3) (by omega)
  have hAc : ∃ A1 A2 A3, actM L n a = (A1, A2, A3) ∧ A1 = 1 + ((pickV L a 3 : Nat) : Int) ∧ A3 ≤ a + 2 ∧ ((decide (1 + ((pickV L a 3 : Nat) : Int) = 3) = true ∧ A2 = ((pickV L (a + 1) n : Nat) : Int) ∧ a + 1 + 1 = A3) ∨ (decide (1 + ((pickV L a 3 : Nat) : Int) = 3) = false ∧ A2 = 0 ∧ a + 1 = A3)) := by
    by_cases k2 : pickV L a 3 = 2
    · exact ⟨_, _, _, if_pos k2, by rw [k2]; rfl, Nat.le_refl _, .inl ⟨by rw [k2]; rfl, rfl, rfl⟩⟩
    · exact ⟨_, _, _, if_neg k2, rfl, by omega, .inr ⟨by simp; omega, rfl, rfl⟩⟩
  obtain ⟨A1, A2, A3, hA, hA1, hA3', hAc⟩ := hAc
  have hWc : ∃ W1 W2 W3, whM L n A3 = (W1, W2, W3) ∧ W3 ≤ A3 + 1 + n ∧ ((decide (((pickV L A3 4 : Nat) : Int) = 0) = true ∧ W1 = true ∧ W2 = [] ∧ A3 + 1 = W3) ∨ (decide (((pickV L A3 4 : Nat) : Int) = 0) = false ∧ decide (((pickV L A3 4 : Nat) : Int) = 1) = false ∧ W1 = false ∧ W2 = [] ∧ A3 + 1 = W3) ∨
      (decide (((pickV L A3 4 : Nat) : Int) = 0) = false ∧ decide (((pickV L A3 4 : Nat) : Int) = 1) = true ∧ W1 = false ∧ W2 = cdT L (A3 + 1) n ∧ A3 + 1 + n = W3)) := by
    by_cases k0 : pickV L A3 4 = 0
    · exact ⟨_, _, _, if_pos k0, by omega, .inl ⟨by rw [k0]; rfl, rfl, rfl, rfl⟩⟩
    · by_cases k1 : pickV L A3 4 = 1
      · exact ⟨_, _, _, (if_neg k0).trans (if_pos k1), Nat.le_refl _, .inr (.inr ⟨by rw [k1]; rfl, by rw [k1]; rfl, rfl, rfl, rfl⟩)⟩
      · exact ⟨_, _, _, (if_neg k0).trans (if_neg k1), by omega, .inr (.inl ⟨by simp; omega, by simp; omega, rfl, rfl, rfl⟩)⟩
  obtain ⟨W1, W2, W3, hW, hW3', hWc⟩ := hWc
  have hXc : ∃ X1 X2 X3 X4 X5, rxsM L p W3 = (X1, X2, X3, X4, X5) ∧ ((decide (((pickV L W3 12 : Nat) : Int) = 11) = true ∧ (true = true) ∧ X1 = false ∧ X2 = nulX ∧ X3 = nulX ∧ X4 = true ∧ W3 + 1 = X5) ∨
      (decide (((pickV L W3 12 : Nat) : Int) = 11) = false ∧ p = true ∧ (true = true) ∧ X1 = false ∧ X2 = (smallM L (W3 + 1)).1 ∧ X3 = nulX ∧ X4 = false ∧ (smallM L (W3 + 1)).2 = X5) ∨
      (decide (((pickV L W3 12 : Nat) : Int) = 11) = false ∧ p = false ∧ decide (((pickV L ((smallM L (W3 + 1)).2 + 1) 5 : Nat) : Int) = 4) = true ∧ X1 = decide (((pickV L (smallM L (W3 + 1)).2 6 : Nat) : Int) = 5) ∧ X2 = (smallM L (W3 + 1)).1 ∧ X3 = (smallM L ((smallM L (W3 + 1)).2 + 2)).1 ∧ X4 = false ∧ (smallM L ((smallM L (W3 + 1)).2 + 2)).2 = X5) ∨
      (decide (((pickV L W3 12 : Nat) : Int) = 11) = false ∧ p = false ∧ decide (((pickV L ((smallM L (W3 + 1)).2 + 1) 5 : Nat) : Int) = 4) = false ∧ X1 = decide (((pickV L (smallM L (W3 + 1)).2 6 : Nat) : Int) = 5) ∧ X2 = (smallM L (W3 + 1)).1 ∧ X3 = nulX ∧ X4 = false ∧ (smallM L (W3 + 1)).2 + 2 = X5)) := by
    have hc : ∀ x k : Nat, decide (((x : Nat) : Int) = (k : Nat)) = decide (x = k) := fun x k => by rw [Bool.eq_iff_iff]; simp; omega
    by_cases k0 : pickV L W3 12 = 11
    · exact ⟨_, _, _, _, _, if_pos k0, .inl ⟨by rw [k0]; rfl, rfl, rfl, rfl, rfl, rfl, rfl⟩⟩
    · have k0' : decide (((pickV L W3 12 : Nat) : Int) = 11) = false := by simp; omega
      cases p
      · have h5 := hc (pickV L (smallM L (W3 + 1)).2 6) 5
        by_cases k1 : pickV L ((smallM L (W3 + 1)).2 + 1) 5 = 4
        · exact ⟨_, _, _, _, _, (if_neg k0).trans ((if_neg (by simp)).trans (if_pos k1)), .inr (.inr (.inl ⟨k0', rfl, by rw [k1]; rfl, h5.symm, rfl, rfl, rfl, rfl⟩))⟩
        · exact ⟨_, _, _, _, _, (if_neg k0).trans ((if_neg (by simp)).trans (if_neg k1)), .inr (.inr (.inr ⟨k0', rfl, by simp; omega, h5.symm, rfl, rfl, rfl, rfl⟩))⟩
      · exact ⟨_, _, _, _, _, (if_neg k0).trans (if_pos rfl), .inr (.inl ⟨k0', rfl, rfl, rfl, rfl, rfl, rfl, rfl⟩)⟩
  obtain ⟨X1, X2, X3, X4, X5, hX, hXc⟩ := hXc
  have hru : ruM L n p a = (⟨W2, W1, X1, X2, X3, X4, A1, A2⟩, X5) := by simp only [ruM, hA, hW, hX]
  rw [hru] at hend ⊢
  clear hru hA hW hX
  simp only at hend ⊢
  have hrV : ∀ q : Ru, ruV q = .agg (cRu q) := fun _ => rfl
  rw [hrV, cRu_eq]
  simp only
  have s1 := smallM_at L (W3 + 1)
  have s2 := smallM_at L ((smallM L (W3 + 1)).2 + 2)
  have hc1 := cR_eq (smallM L (W3 + 1)).1
  have hc2 := cR_eq (smallM L ((smallM L (W3 + 1)).2 + 2)).1
  have hs2 : ∀ (a' : Nat) (cs ds : List AVal), cloL (G.length + 2) T.length cs = true → cloL (G.length + 2) T.length ds = true → shut ⟨G.set b (.cells 0 [.sl .no L.length (fl cU L), .int .i64 (a' : Nat)]) ++ [.cells 0 cs, .cells 0 ds], T⟩ = true := fun a' cs ds h1 h2 =>
    shut_two hs mkC_clo fun h hh => by
      simp only [List.length_cons, List.length_nil] at hh
      simp only [List.all_cons, List.all_nil, cloB, Bool.and_true, cloL_mono hh (Nat.le_refl _) _ h1, cloL_mono hh (Nat.le_refl _) _ h2]
  rcases hWc with ⟨w0, rfl, rfl, hW3⟩ | ⟨w0, w1, rfl, rfl, hW3⟩ | ⟨w0, w1, rfl, rfl, hW3⟩
  · rcases hAc with ⟨hd, hA2, hA3⟩ | ⟨hd, hA2, hA3⟩
    all_goals (
      rcases hXc with ⟨x0, x1, rfl, rfl, rfl, rfl, hX5⟩ | ⟨x0, rfl, x1, rfl, rfl, rfl, rfl, hX5⟩ | ⟨x0, rfl, x1, rfl, rfl, rfl, rfl, hX5⟩ | ⟨x0, rfl, x1, rfl, rfl, rfl, rfl, hX5⟩
      all_goals (
        refine RCall.of_ws (fn := Tryz.f17) (Γ := gam [(16, .raw iPk), (31, .raw iSmA)]) (mu := false) (by simp) (by simp) (Sound.raw iPk_call (Sound.raw iSmA_call Sound.nil)) mixed Tryz.func17 rfl (by kernel_rfl) (by simp) (by kernel_rfl) ?_
        simp (disch := first | assumption | omega | exact okR_new | exact okR_one | exact trivial | (simp only [lnA, lnC, lnN]; omega) | (simp only [lnA, lnC, lnN, Nat.reduceAdd]) | (refine hs2 _ _ _ ?_ ?_; (simp [cloL, clo, cloR, c_flR]); (simp [cloL, clo, cloR, c_flR]))) only [go_sem, e_go, e_cond_bool, e_w_bool, e_step_ite, e_reg_ite, e_regW_ite, e_code_ite, e_block_ite, e_evQ_ite, e_fin_ite, e_pair_ite, Tryz.f17, iPk_eq, pk_on, iSmA_eq, mk_on, hx, set_at, List.set_set, m_at hl, m_atS hl, m_set hl, m_setS hl, hd, hA3, w0, hW3, x0, x1, hX5, hc1, hc2]
        rw [hA1, hA2]
        exact ⟨rfl, leftM_one (hsC _)⟩))
  · rcases hAc with ⟨hd, hA2, hA3⟩ | ⟨hd, hA2, hA3⟩
    all_goals (
      rcases hXc with ⟨x0, x1, rfl, rfl, rfl, rfl, hX5⟩ | ⟨x0, rfl, x1, rfl, rfl, rfl, rfl, hX5⟩ | ⟨x0, rfl, x1, rfl, rfl, rfl, rfl, hX5⟩ | ⟨x0, rfl, x1, rfl, rfl, rfl, rfl, hX5⟩
      all_goals (
        refine RCall.of_ws (fn := Tryz.f17) (Γ := gam [(16, .raw iPk), (31, .raw iSmA)]) (mu := false) (by simp) (by simp) (Sound.raw iPk_call (Sound.raw iSmA_call Sound.nil)) mixed Tryz.func17 rfl (by kernel_rfl) (by simp) (by kernel_rfl) ?_
        simp (disch := first | assumption | omega | exact okR_new | exact okR_one | exact trivial | (simp only [lnA, lnC, lnN]; omega) | (simp only [lnA, lnC, lnN, Nat.reduceAdd]) | (refine hs2 _ _ _ ?_ ?_; (simp [cloL, clo, cloR, c_flR]); (simp [cloL, clo, cloR, c_flR]))) only [go_sem, e_go, e_cond_bool, e_w_bool, e_step_ite, e_reg_ite, e_regW_ite, e_code_ite, e_block_ite, e_evQ_ite, e_fin_ite, e_pair_ite, Tryz.f17, iPk_eq, pk_on, iSmA_eq, mk_on, hx, set_at, List.set_set, m_at hl, m_atS hl, m_set hl, m_setS hl, hd, hA3, w0, w1, hW3, x0, x1, hX5, hc1, hc2]
        rw [hA1, hA2]
        exact ⟨rfl, leftM_one (hsC _)⟩))
  · have hs3 : ∀ (a' k : Nat) (cs ds : List AVal), cloL (G.length + 2) (gwT0 T (1, 3) k).length cs = true → cloL (G.length + 2) (gwT0 T (1, 3) k).length ds = true → shut ⟨G.set b (.cells 0 [.sl .no L.length (fl cU L), .int .i64 (a' : Nat)]) ++ [.cells 0 cs, .cells 0 ds], gwT0 T (1, 3) k⟩ = true := fun a' k cs ds h1 h2 => by
      obtain ⟨X, e⟩ := gw_app (T := T) (z := (1, 3)) (n := k)
      rw [e] at h1 h2 ⊢
      refine shut_app (hsC _) fun h hh => ?_
      simp only [List.length_cons, List.length_nil, List.length_set] at hh
      simp only [List.all_cons, List.all_nil, cloB, Bool.and_true, cloL_mono hh (Nat.le_refl _) _ h1, cloL_mono hh (Nat.le_refl _) _ h2]
    have hgc := fun k => gw_clo (T := T) (z := (1, 3)) (n := k)
    have hcl : ∀ i, (cdT L (A3 + 1) i).length ≤ i := fun i => cdT_len
    have hap : ∀ (H : List ABlk) (l : List Int) (x : Int), l.length ≤ 8 → aappend Tryz.prog 41 41 ⟨H, gwT0 T (1, 3) l.length⟩ (.sl (gwR0 T l.length) l.length (fl cI l)) (.sl .full 1 [.int .i64 x]) = some (.sl (gwR0 T (l ++ [x]).length) (l ++ [x]).length (fl cI (l ++ [x])), ⟨H, gwT0 T (1, 3) (l ++ [x]).length⟩) := fun H l x h => by
      have := apJ_one (H := H) (T := gwT0 T (1, 3) l.length) (r := gwR0 T l.length) (r' := .full) (l := l) (x := x) gw_ok (by omega)
      have hk : (l ++ [x]).length = l.length + 1 := by simp
      rw [(gw_next hk).1, (gw_next hk).2] at this
      exact this
    rcases hAc with ⟨hd, hA2, hA3⟩ | ⟨hd, hA2, hA3⟩
    · refine RCall.of_ws (fn := Tryz.f17) (Γ := gam [(16, .raw iPk), (31, .raw iSmA)]) (mu := false) (by simp) (by simp) (Sound.raw iPk_call (Sound.raw iSmA_call Sound.nil)) mixed Tryz.func17 rfl (by kernel_rfl) (by simp) (by kernel_rfl) ?_
      simp (disch := first | assumption | omega | exact okR_new | exact okR_one | exact trivial | (simp only [lnA, lnC, lnN]; omega) | (simp only [lnA, lnC, lnN, Nat.reduceAdd])) only [go_sem, e_go, e_cond_bool, e_w_bool, e_step_ite, e_reg_ite, e_regW_ite, e_code_ite, e_block_ite, e_evQ_ite, e_fin_ite, e_pair_ite, Tryz.f17, iPk_eq, pk_on, iSmA_eq, mk_on, hx, set_at, List.set_set, m_at hl, m_atS hl, m_set hl, m_setS hl, hd, hA3, w0, w1]
      refine w_loop [] [8] (hb := fun i _ => ⟨by simp, gw_len⟩) (fun i : Nat => n - i) (fun i => i ≤ n) (fun i => ⟨G.set b (.cells 0 [.sl .no L.length (fl cU L), .int .i64 ((A3 + 1 + i : Nat) : Int)]) ++ [.cells 0 [.sl .nil 0 [], .bool false, .bool false, .int .i64 0, .int .u64 0, .int .u64 0, .int .u64 0, .int .u64 0, .int .i64 0, .int .i64 0, .sl .nil 0 [], .int .i64 0, .int .u64 0, .int .u64 0, .int .u64 0, .int .u64 0, .int .i64 0, .int .i64 0, .sl .nil 0 [], .bool false, .int .i64 0, .int .i64 0], .cells 0 [.sl (gwR0 T (cdT L (A3 + 1) i).length) (cdT L (A3 + 1) i).length (fl cI (cdT L (A3 + 1) i)), .bool false, .bool false, .int .i64 0, .int .u64 0, .int .u64 0, .int .u64 0, .int .u64 0, .int .i64 0, .int .i64 0, .sl .nil 0 [], .int .i64 0, .int .u64 0, .int .u64 0, .int .u64 0, .int .u64 0, .int .i64 0, .int .i64 0, .sl .nil 0 [], .bool false, .int .i64 (1 + ((pickV L a 3 : Nat) : Int)), .int .i64 ((pickV L (a + 1) n : Nat) : Int)]], gwT0 T (1, 3) (cdT L (A3 + 1) i).length⟩)
        (fun i => [(8, .int .i64 (i : Nat))]) 0 (fun _ => rfl) (by kernel_rfl) (Nat.zero_le _) (by simp [cdT_zero, gwR0, gwT0, fl]) (by simp [HasE, lk]) ?_
      intro i hi
      by_cases hlt : i < n
      · have h8 := hcl i
        cases hk : decide (((pickV L (A3 + 1 + i) 2 : Nat) : Int) = 1)
        · have hnx := cdT_out (L := L) (a := A3 + 1) (i := i) (fun e => by rw [e] at hk; exact absurd hk (by simp))
          simp (disch := first | assumption | omega | exact okR_new | exact okR_one | exact trivial | (simp only [lnA, lnC, lnN]; omega) | (simp only [lnA, lnC, lnN, Nat.reduceAdd])) only [go_sem, e_go, e_cond_bool, e_w_bool, e_step_ite, e_reg_ite, e_regW_ite, e_code_ite, e_block_ite, e_evQ_ite, e_fin_ite, e_pair_ite, Tryz.f17, iPk_eq, pk_on, iSmA_eq, mk_on, hx, set_at, List.set_set, m_at hl, m_atS hl, m_set hl, m_setS hl, hd, hA3, w0, w1, hk]
          exact ⟨i + 1, dn hlt, hlt, by simp only [hnx, Nat.add_assoc], by simp [HasE, lk]⟩
        · have hnx := cdT_in (L := L) (a := A3 + 1) (i := i) (by simp at hk; omega)
          simp (disch := first | assumption | omega | exact okR_new | exact okR_one | exact trivial | (simp only [lnA, lnC, lnN]; omega) | (simp only [lnA, lnC, lnN, Nat.reduceAdd])) only [go_sem, e_go, e_cond_bool, e_w_bool, e_step_ite, e_reg_ite, e_regW_ite, e_code_ite, e_block_ite, e_evQ_ite, e_fin_ite, e_pair_ite, Tryz.f17, iPk_eq, pk_on, iSmA_eq, mk_on, hx, set_at, List.set_set, m_at hl, m_atS hl, m_set hl, m_setS hl, hd, hA3, w0, w1, hk, bI1s, hap]
          exact ⟨i + 1, dn hlt, hlt, by simp only [hnx, Nat.add_assoc, lnA, lnC, lnN], by simp [HasE, lk]⟩
      · have hi' : i = n := by omega
        subst hi'
        rw [hW3]
        generalize hlc : cdT L (A3 + 1) i = lc at *
        rcases hXc with ⟨x0, x1, rfl, rfl, rfl, rfl, hX5⟩ | ⟨x0, rfl, x1, rfl, rfl, rfl, rfl, hX5⟩ | ⟨x0, rfl, x1, rfl, rfl, rfl, rfl, hX5⟩ | ⟨x0, rfl, x1, rfl, rfl, rfl, rfl, hX5⟩
        all_goals (
          simp (disch := first | assumption | omega | exact okR_new | exact okR_one | exact trivial | (simp only [lnA, lnC, lnN]; omega) | (simp only [lnA, lnC, lnN, Nat.reduceAdd]) | (refine hs3 _ _ _ _ ?_ ?_; (simp [cloL, clo, c_Rno, c_Rnil, c_flR, c_flIs, hgc]); (simp [cloL, clo, c_Rno, c_Rnil, c_flR, c_flIs, hgc]))) only [go_sem, e_go, e_cond_bool, e_w_bool, e_step_ite, e_reg_ite, e_regW_ite, e_code_ite, e_block_ite, e_evQ_ite, e_fin_ite, e_pair_ite, Tryz.f17, iPk_eq, pk_on, iSmA_eq, mk_on, hx, set_at, List.set_set, m_at hl, m_atS hl, m_set hl, m_setS hl, x0, x1, hX5, hc1, hc2]
          rw [hA1, hA2]
          exact ⟨rfl, left_gw (hsC _)⟩)
    · refine RCall.of_ws (fn := Tryz.f17) (Γ := gam [(16, .raw iPk), (31, .raw iSmA)]) (mu := false) (by simp) (by simp) (Sound.raw iPk_call (Sound.raw iSmA_call Sound.nil)) mixed Tryz.func17 rfl (by kernel_rfl) (by simp) (by kernel_rfl) ?_
      simp (disch := first | assumption | omega | exact okR_new | exact okR_one | exact trivial | (simp only [lnA, lnC, lnN]; omega) | (simp only [lnA, lnC, lnN, Nat.reduceAdd])) only [go_sem, e_go, e_cond_bool, e_w_bool, e_step_ite, e_reg_ite, e_regW_ite, e_code_ite, e_block_ite, e_evQ_ite, e_fin_ite, e_pair_ite, Tryz.f17, iPk_eq, pk_on, iSmA_eq, mk_on, hx, set_at, List.set_set, m_at hl, m_atS hl, m_set hl, m_setS hl, hd, hA3, w0, w1]
      refine w_loop [] [8] (hb := fun i _ => ⟨by simp, gw_len⟩) (fun i : Nat => n - i) (fun i => i ≤ n) (fun i => ⟨G.set b (.cells 0 [.sl .no L.length (fl cU L), .int .i64 ((A3 + 1 + i : Nat) : Int)]) ++ [.cells 0 [.sl .nil 0 [], .bool false, .bool false, .int .i64 0, .int .u64 0, .int .u64 0, .int .u64 0, .int .u64 0, .int .i64 0, .int .i64 0, .sl .nil 0 [], .int .i64 0, .int .u64 0, .int .u64 0, .int .u64 0, .int .u64 0, .int .i64 0, .int .i64 0, .sl .nil 0 [], .bool false, .int .i64 0, .int .i64 0], .cells 0 [.sl (gwR0 T (cdT L (A3 + 1) i).length) (cdT L (A3 + 1) i).length (fl cI (cdT L (A3 + 1) i)), .bool false, .bool false, .int .i64 0, .int .u64 0, .int .u64 0, .int .u64 0, .int .u64 0, .int .i64 0, .int .i64 0, .sl .nil 0 [], .int .i64 0, .int .u64 0, .int .u64 0, .int .u64 0, .int .u64 0, .int .i64 0, .int .i64 0, .sl .nil 0 [], .bool false, .int .i64 (1 + ((pickV L a 3 : Nat) : Int)), .int .i64 0]], gwT0 T (1, 3) (cdT L (A3 + 1) i).length⟩)
        (fun i => [(8, .int .i64 (i : Nat))]) 0 (fun _ => rfl) (by kernel_rfl) (Nat.zero_le _) (by simp [cdT_zero, gwR0, gwT0, fl]) (by simp [HasE, lk]) ?_
      intro i hi
      by_cases hlt : i < n
      · have h8 := hcl i
        cases hk : decide (((pickV L (A3 + 1 + i) 2 : Nat) : Int) = 1)
        · have hnx := cdT_out (L := L) (a := A3 + 1) (i := i) (fun e => by rw [e] at hk; exact absurd hk (by simp))
          simp (disch := first | assumption | omega | exact okR_new | exact okR_one | exact trivial | (simp only [lnA, lnC, lnN]; omega) | (simp only [lnA, lnC, lnN, Nat.reduceAdd])) only [go_sem, e_go, e_cond_bool, e_w_bool, e_step_ite, e_reg_ite, e_regW_ite, e_code_ite, e_block_ite, e_evQ_ite, e_fin_ite, e_pair_ite, Tryz.f17, iPk_eq, pk_on, iSmA_eq, mk_on, hx, set_at, List.set_set, m_at hl, m_atS hl, m_set hl, m_setS hl, hd, hA3, w0, w1, hk]
          exact ⟨i + 1, dn hlt, hlt, by simp only [hnx, Nat.add_assoc], by simp [HasE, lk]⟩
        · have hnx := cdT_in (L := L) (a := A3 + 1) (i := i) (by simp at hk; omega)
          simp (disch := first | assumption | omega | exact okR_new | exact okR_one | exact trivial | (simp only [lnA, lnC, lnN]; omega) | (simp only [lnA, lnC, lnN, Nat.reduceAdd])) only [go_sem, e_go, e_cond_bool, e_w_bool, e_step_ite, e_reg_ite, e_regW_ite, e_code_ite, e_block_ite, e_evQ_ite, e_fin_ite, e_pair_ite, Tryz.f17, iPk_eq, pk_on, iSmA_eq, mk_on, hx, set_at, List.set_set, m_at hl, m_atS hl, m_set hl, m_setS hl, hd, hA3, w0, w1, hk, bI1s, hap]
          exact ⟨i + 1, dn hlt, hlt, by simp only [hnx, Nat.add_assoc, lnA, lnC, lnN], by simp [HasE, lk]⟩
      · have hi' : i = n := by omega
        subst hi'
        rw [hW3]
        generalize hlc : cdT L (A3 + 1) i = lc at *
        rcases hXc with ⟨x0, x1, rfl, rfl, rfl, rfl, hX5⟩ | ⟨x0, rfl, x1, rfl, rfl, rfl, rfl, hX5⟩ | ⟨x0, rfl, x1, rfl, rfl, rfl, rfl, hX5⟩ | ⟨x0, rfl, x1, rfl, rfl, rfl, rfl, hX5⟩
        all_goals (
          simp (disch := first | assumption | omega | exact okR_new | exact okR_one | exact trivial | (simp only [lnA, lnC, lnN]; omega) | (simp only [lnA, lnC, lnN, Nat.reduceAdd]) | (refine hs3 _ _ _ _ ?_ ?_; (simp [cloL, clo, c_Rno, c_Rnil, c_flR, c_flIs, hgc]); (simp [cloL, clo, c_Rno, c_Rnil, c_flR, c_flIs, hgc]))) only [go_sem, e_go, e_cond_bool, e_w_bool, e_step_ite, e_reg_ite, e_regW_ite, e_code_ite, e_block_ite, e_evQ_ite, e_fin_ite, e_pair_ite, Tryz.f17, iPk_eq, pk_on, iSmA_eq, mk_on, hx, set_at, List.set_set, m_at hl, m_atS hl, m_set hl, m_setS hl, x0, x1, hX5, hc1, hc2]
          rw [hA1, hA2]
          exact ⟨rfl, left_gw (hsC _)⟩)
theorem iRuA_call : ∀ xs m v m', iRuA xs m = some (v, m') → RCall Tryz.prog 17 xs m v m' := by
  rintro xs ⟨G, T⟩ v m' h
  unfold iRuA at h
  split at h
  · rename_i b n p
    split at h
    · rename_i hn
      obtain ⟨n, rfl⟩ := Int.eq_ofNat_of_zero_le (show 0 ≤ n by omega)
      obtain ⟨L, a, hx, hL, ho, hs, rfl, rfl⟩ := mk_cases h
      exact w_rule G T b n a L p hx hL ho hs (by omega) (by omega)
    · cases h
  · cases h

end Go.Hk.MZ
