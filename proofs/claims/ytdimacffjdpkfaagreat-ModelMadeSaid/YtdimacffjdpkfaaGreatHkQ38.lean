import Derived.Test.YtdimacffjdpkfaaGreatHkQ37
import Derived.Test.YtdimacffjdpkfaaGreatHkQ18
import Derived.Test.YtdimacffjdpkfaaGreatHkQ23
set_option linter.unusedSimpArgs false
set_option linter.unusedVariables false
set_option maxRecDepth 20000
set_option maxHeartbeats 4000000
namespace Go.Hk.MZ
open Go.Proofs

theorem apRu_T : appT Tryz.prog 26 26 = some ⟨43, 22, 216⟩ := by kernel_rfl
theorem apRu_one {H : List ABlk} {T : List (Nat × (Nat × Nat))} {r r' : Rt} {l} {x} (hr : okR T r (l.length * 22) (22, 43) = true) (hn : l.length + 1 < 1000000000) : aappend Tryz.prog 26 26 ⟨H, T⟩ (.sl r l.length (fl cRu l)) (.sl r' 1 (cRu x)) = some (.sl (nxR T r) (l ++ [x]).length (fl cRu (l ++ [x])), ⟨H, nxT T r ((l ++ [x]).length * 22) (22, 43)⟩) := app_fl apRu_T (by decide) cRu_len rfl hr hn
theorem apRu_mk (mu : Bool) (m : AMem) {x} : abuildSlice Tryz.prog mu m 26 1 [(0, ruV x)] = some (.sl .full 1 (cRu x), m) := build_one ti26 ti43 rfl rfl (cRu_len x) rfl (by decide) (by decide)
theorem bC3 {m : AMem} {x : Bool} : abuildSlice Tryz.prog false m 25 3 [(0, .agg [.str [73, 78, 73, 84, 73, 65, 76], .bool false]), (1, .agg [.str [66], .bool x]), (2, .agg [.str [67, 95, 49], .bool false])] = some (.sl .full 3 (fl cCd (cd3 x)), m) := by
  have := build_seq (P := Tryz.prog) (mu := false) (m := m) (n := 3) (vs := [.agg [.str [73, 78, 73, 84, 73, 65, 76], .bool false], .agg [.str [66], .bool x], .agg [.str [67, 95, 49], .bool false]]) (out := fl cCd (cd3 x)) ti25 rfl ti40 rfl rfl (by decide) rfl (by decide)
  exact this
theorem w_spM (M : List UInt8) (p : Bool) (hM : M.length ≤ 60) : PCall Tryz.prog 6 [slc cU M, .bool p] (sV (spM M p)) := by
  have p0 := pickV_lt (L := M) (a := 0) (n := 3) (by omega)
  have p3 := pickV_lt (L := M) (a := 3) (n := 4) (by omega)
  have hML : M.length < 1000000 := by omega
  unfold spM
  obtain ⟨n, hn⟩ : ∃ n, 1 + pickV M 0 3 = n := ⟨_, rfl⟩
  obtain ⟨c, hc⟩ : ∃ c, 1 + pickV M 3 4 = c := ⟨_, rfl⟩
  have hn' : (1 + ((pickV M 0 3 : Nat) : Int)) = (n : Nat) := by omega
  have hc' : (1 + ((pickV M 3 4 : Nat) : Int)) = (c : Nat) := by omega
  rw [hn, hc]
  have hx : decide (((pickV M 1 2 : Nat) : Int) = 1) = decide (pickV M 1 2 = 1) := by rw [Bool.eq_iff_iff]; simp; omega
  have hd : decide ((0 : Int) < ((pickV M 2 3 : Nat) : Int)) = decide (0 < pickV M 2 3) := by rw [Bool.eq_iff_iff]; simp
  generalize decide (pickV M 1 2 = 1) = x at *
  generalize decide (0 < pickV M 2 3) = D at *
  have h1 : 1 ≤ n := by omega
  have h3 : n ≤ 3 := by omega
  have htk : List.take (n * 2) (fl cCd (cd3 x)) = fl cCd ((cd3 x).take n) := fl_take cCd_len _ _
  have htl : ((cd3 x).take n).length = n := by rw [List.length_take]; simp [cd3]; omega
  have hgc := fun k => gw_clo (T := []) (z := (22, 43)) (n := k)
  have hsh : ∀ i, shut ⟨[.cells 0 [.sl .nil 0 [], .bool false, .sl .nil 0 []], .cells 0 [.sl .no M.length (fl cU M), .int .i64 ((rusM M n p 4 i).2 : Nat)], .cells 0 [.sl .no n (fl cCd ((cd3 x).take n)), .bool D, .sl (gwR0 [] ((rusM M n p 4 i).1.length * 22)) (rusM M n p 4 i).1.length (fl cRu (rusM M n p 4 i).1)]], gwT0 [] (22, 43) ((rusM M n p 4 i).1.length * 22)⟩ = true := fun i => by
    have h1 := hgc ((rusM M n p 4 i).1.length * 22)
    have h2 : ∀ h t, cloL h t (fl cU M) = true := fun h t => cloL_strip _ _ l_s_cU
    simp [shut, cloB, cloL, clo, c_Rno, c_Rnil, c_flCd, c_flRu, h1, h2]
  have hap : ∀ (H : List ABlk) (l : List Ru) (q : Ru), l.length ≤ 8 → aappend Tryz.prog 26 26 ⟨H, gwT0 [] (22, 43) (l.length * 22)⟩ (.sl (gwR0 [] (l.length * 22)) l.length (fl cRu l)) (.sl .full 1 (cRu q)) = some (.sl (gwR0 [] ((l ++ [q]).length * 22)) (l ++ [q]).length (fl cRu (l ++ [q])), ⟨H, gwT0 [] (22, 43) ((l ++ [q]).length * 22)⟩) := fun H l q h => by
    have := apRu_one (H := H) (T := gwT0 [] (22, 43) (l.length * 22)) (r := gwR0 [] (l.length * 22)) (r' := .full) (l := l) (x := q) gw_ok (by omega)
    have hk : (l ++ [q]).length * 22 ≠ 0 := by simp
    rw [(gw_step hk).1, (gw_step hk).2] at this
    exact this
  refine PCall.of_w (fn := Tryz.f6) (Γ := gamx [(5, (.step 0 (.step 1 (.step 5 (.step 7 (.step 9 (.fork 2 13 (.step 3 (.step 4 (.step 6 (.step 8 (.fork 10 13 (.step 11 (.step 12 (.step 13 (.step 14 .done)))) (.step 10 (.step 11 (.step 12 (.step 14 .done))))))))) (.step 2 (.step 3 (.step 4 (.step 6 (.step 8 (.step 10 (.step 11 (.step 12 (.step 14 .done)))))))))))))))), (9, (.step 0 (.step 2 (.step 3 (.step 4 (.fork 1 5 (.step 5 (.step 6 (.step 7 (.step 8 (.step 9 .done))))) (.step 1 (.step 6 (.step 7 (.step 8 (.step 9 .done)))))))))))] [(16, .raw iPk), (17, .raw iRuA)]) (mu := false) (Sound.x (Sound.raw iPk_call (Sound.raw iRuA_call Sound.nil))) mixed Tryz.func6 rfl (by kernel_rfl) (by simp) (by kernel_rfl) ?_
  simp (disch := first | assumption | omega | exact okR_new | exact okR_one | exact trivial | (simp only [lnA, lnC, lnN]; omega) | (simp only [lnA, lnC, lnN, Nat.reduceAdd])) only [go_sem, e_go, e_cond_bool, e_w_bool, e_step_ite, e_reg_ite, e_regW_ite, e_code_ite, e_block_ite, e_evQ_ite, e_fin_ite, e_pair_ite, Tryz.f6, iPk_eq, pk_on, iRuA_eq, mk_on, hn', hM, pk_0]
  refine w_region_3 rfl rfl ?_ ?_ ?_
  all_goals (
    simp only [List.getElem_toArray, List.getElem_cons_succ, List.getElem_cons_zero]
    simp (disch := first | assumption | omega | exact okR_new | exact okR_one | exact trivial | (simp only [lnA, lnC, lnN]; omega) | (simp only [lnA, lnC, lnN, Nat.reduceAdd])) only [go_sem, e_go, e_cond_bool, e_w_bool, e_step_ite, e_reg_ite, e_regW_ite, e_code_ite, e_block_ite, e_evQ_ite, e_fin_ite, e_pair_ite, Tryz.f6, iPk_eq, pk_on, iRuA_eq, mk_on, hn', hM, pk_1, pk_2, pk_3, bC3, hx, hd, htk, hc']
    refine w_loop [] [8] (fun i : Nat => c - i) (fun i => i ≤ c) (fun i => ⟨[.cells 0 [.sl .nil 0 [], .bool false, .sl .nil 0 []], .cells 0 [.sl .no M.length (fl cU M), .int .i64 ((rusM M n p 4 i).2 : Nat)], .cells 0 [.sl .no n (fl cCd ((cd3 x).take n)), .bool D, .sl (gwR0 [] ((rusM M n p 4 i).1.length * 22)) (rusM M n p 4 i).1.length (fl cRu (rusM M n p 4 i).1)]], gwT0 [] (22, 43) ((rusM M n p 4 i).1.length * 22)⟩)
      (fun i => [(8, .int .i64 ((c : Nat) - (i : Nat)))]) 0 (fun _ => rfl) (by kernel_rfl) (Nat.zero_le _) rfl (by simp [HasE, lk]) ?_
    intro i hi
    obtain ⟨q1, q2⟩ := rusM_at M n p 4 i
    have q3 : i * (80 + n) ≤ 4 * 83 := Nat.mul_le_mul (by omega) (by omega)
    have hq := hsh i
    by_cases hlt : i < c
    · have hap1 := hap [.cells 0 [.sl .nil 0 [], .bool false, .sl .nil 0 []], .cells 0 [.sl .no M.length (fl cU M), .int .i64 ((ruM M n p (rusM M n p 4 i).2).2 : Nat)], .cells 0 [.sl .no n (fl cCd ((cd3 x).take n)), .bool D, .sl (gwR0 [] ((rusM M n p 4 i).1.length * 22)) (rusM M n p 4 i).1.length (fl cRu (rusM M n p 4 i).1)]] (rusM M n p 4 i).1 (ruM M n p (rusM M n p 4 i).2).1 (by omega)
      simp (disch := first | assumption | omega | exact okR_new | exact okR_one | exact trivial | (simp only [lnA, lnC, lnN]; omega) | (simp only [lnA, lnC, lnN, Nat.reduceAdd])) only [go_sem, e_go, e_cond_bool, e_w_bool, e_step_ite, e_reg_ite, e_regW_ite, e_code_ite, e_block_ite, e_evQ_ite, e_fin_ite, e_pair_ite, Tryz.f6, iPk_eq, pk_on, iRuA_eq, mk_on]
      refine w_region_2 rfl rfl ?_ ?_
      all_goals (
        simp only [List.getElem_toArray, List.getElem_cons_succ, List.getElem_cons_zero]
        simp (disch := first | assumption | omega | exact okR_new | exact okR_one | exact trivial | (simp only [lnA, lnC, lnN]; omega) | (simp only [lnA, lnC, lnN, Nat.reduceAdd]) | exact hq) only [go_sem, e_go, e_cond_bool, e_w_bool, e_step_ite, e_reg_ite, e_regW_ite, e_code_ite, e_block_ite, e_evQ_ite, e_fin_ite, e_pair_ite, Tryz.f6, iPk_eq, pk_on, iRuA_eq, mk_on, hM, apRu_mk, hap1]
        exact ⟨i + 1, dn hlt, hlt, by simp only [rusM, lnA, lnC, lnN], by simp [HasE, lk]; omega⟩)
    · have hi' : i = c := by omega
      subst hi'
      simp (disch := first | assumption | omega | exact okR_new | exact okR_one | exact trivial | (simp only [lnA, lnC, lnN]; omega) | (simp only [lnA, lnC, lnN, Nat.reduceAdd])) only [go_sem, e_go, e_cond_bool, e_w_bool, e_step_ite, e_reg_ite, e_regW_ite, e_code_ite, e_block_ite, e_evQ_ite, e_fin_ite, e_pair_ite, Tryz.f6, iPk_eq, pk_on, iRuA_eq, mk_on]
      simp only [sV, cSp, htl])
theorem w_spM2 (L : List UInt8) (p : Bool) (hL : 60 < L.length) (hL2 : L.length < 9223372036854775808) : PCall Tryz.prog 6 [slc cU L, .bool p] (sV (spM (L.take 60) p)) := by
  have tk : List.take 60 (fl cU L) = fl cU (L.take 60) := by
    have := fl_take (f := cU) (k := 1) (fun _ => rfl) L 60
    simpa using this
  have hM6 : (L.take 60).length = 60 := by rw [List.length_take]; omega
  generalize L.take 60 = M at *
  have p0 := pickV_lt (L := M) (a := 0) (n := 3) (by omega)
  have p3 := pickV_lt (L := M) (a := 3) (n := 4) (by omega)
  have hML : M.length < 1000000 := by omega
  unfold spM
  obtain ⟨n, hn⟩ : ∃ n, 1 + pickV M 0 3 = n := ⟨_, rfl⟩
  obtain ⟨c, hc⟩ : ∃ c, 1 + pickV M 3 4 = c := ⟨_, rfl⟩
  have hn' : (1 + ((pickV M 0 3 : Nat) : Int)) = (n : Nat) := by omega
  have hc' : (1 + ((pickV M 3 4 : Nat) : Int)) = (c : Nat) := by omega
  rw [hn, hc]
  have hx : decide (((pickV M 1 2 : Nat) : Int) = 1) = decide (pickV M 1 2 = 1) := by rw [Bool.eq_iff_iff]; simp; omega
  have hd : decide ((0 : Int) < ((pickV M 2 3 : Nat) : Int)) = decide (0 < pickV M 2 3) := by rw [Bool.eq_iff_iff]; simp
  generalize decide (pickV M 1 2 = 1) = x at *
  generalize decide (0 < pickV M 2 3) = D at *
  have h1 : 1 ≤ n := by omega
  have h3 : n ≤ 3 := by omega
  have htk : List.take (n * 2) (fl cCd (cd3 x)) = fl cCd ((cd3 x).take n) := fl_take cCd_len _ _
  have htl : ((cd3 x).take n).length = n := by rw [List.length_take]; simp [cd3]; omega
  have hgc := fun k => gw_clo (T := []) (z := (22, 43)) (n := k)
  have hsh : ∀ i, shut ⟨[.cells 0 [.sl .nil 0 [], .bool false, .sl .nil 0 []], .cells 0 [.sl .no 60 (fl cU M), .int .i64 ((rusM M n p 4 i).2 : Nat)], .cells 0 [.sl .no n (fl cCd ((cd3 x).take n)), .bool D, .sl (gwR0 [] ((rusM M n p 4 i).1.length * 22)) (rusM M n p 4 i).1.length (fl cRu (rusM M n p 4 i).1)]], gwT0 [] (22, 43) ((rusM M n p 4 i).1.length * 22)⟩ = true := fun i => by
    have h1 := hgc ((rusM M n p 4 i).1.length * 22)
    have h2 : ∀ h t, cloL h t (fl cU M) = true := fun h t => cloL_strip _ _ l_s_cU
    simp [shut, cloB, cloL, clo, c_Rno, c_Rnil, c_flCd, c_flRu, h1, h2]
  have hap : ∀ (H : List ABlk) (l : List Ru) (q : Ru), l.length ≤ 8 → aappend Tryz.prog 26 26 ⟨H, gwT0 [] (22, 43) (l.length * 22)⟩ (.sl (gwR0 [] (l.length * 22)) l.length (fl cRu l)) (.sl .full 1 (cRu q)) = some (.sl (gwR0 [] ((l ++ [q]).length * 22)) (l ++ [q]).length (fl cRu (l ++ [q])), ⟨H, gwT0 [] (22, 43) ((l ++ [q]).length * 22)⟩) := fun H l q h => by
    have := apRu_one (H := H) (T := gwT0 [] (22, 43) (l.length * 22)) (r := gwR0 [] (l.length * 22)) (r' := .full) (l := l) (x := q) gw_ok (by omega)
    have hk : (l ++ [q]).length * 22 ≠ 0 := by simp
    rw [(gw_step hk).1, (gw_step hk).2] at this
    exact this
  refine PCall.of_w (fn := Tryz.f6) (Γ := gamx [(5, (.step 0 (.step 1 (.step 5 (.step 7 (.step 9 (.fork 2 13 (.step 3 (.step 4 (.step 6 (.step 8 (.fork 10 13 (.step 11 (.step 12 (.step 13 (.step 14 .done)))) (.step 10 (.step 11 (.step 12 (.step 14 .done))))))))) (.step 2 (.step 3 (.step 4 (.step 6 (.step 8 (.step 10 (.step 11 (.step 12 (.step 14 .done)))))))))))))))), (9, (.step 0 (.step 2 (.step 3 (.step 4 (.fork 1 5 (.step 5 (.step 6 (.step 7 (.step 8 (.step 9 .done))))) (.step 1 (.step 6 (.step 7 (.step 8 (.step 9 .done)))))))))))] [(16, .raw iPk), (17, .raw iRuA)]) (mu := false) (Sound.x (Sound.raw iPk_call (Sound.raw iRuA_call Sound.nil))) mixed Tryz.func6 rfl (by kernel_rfl) (by simp) (by kernel_rfl) ?_
  simp (disch := first | assumption | omega | exact okR_new | exact okR_one | exact trivial | (simp only [lnA, lnC, lnN]; omega) | (simp only [lnA, lnC, lnN, Nat.reduceAdd])) only [go_sem, e_go, e_cond_bool, e_w_bool, e_step_ite, e_reg_ite, e_regW_ite, e_code_ite, e_block_ite, e_evQ_ite, e_fin_ite, e_pair_ite, Tryz.f6, iPk_eq, pk_on, iRuA_eq, mk_on, hn', tk, pk_0]
  refine w_region_3 rfl rfl ?_ ?_ ?_
  all_goals (
    simp only [List.getElem_toArray, List.getElem_cons_succ, List.getElem_cons_zero]
    simp (disch := first | assumption | omega | exact okR_new | exact okR_one | exact trivial | (simp only [lnA, lnC, lnN]; omega) | (simp only [lnA, lnC, lnN, Nat.reduceAdd])) only [go_sem, e_go, e_cond_bool, e_w_bool, e_step_ite, e_reg_ite, e_regW_ite, e_code_ite, e_block_ite, e_evQ_ite, e_fin_ite, e_pair_ite, Tryz.f6, iPk_eq, pk_on, iRuA_eq, mk_on, hn', pk_1, pk_2, pk_3, bC3, hx, hd, htk, hc']
    refine w_loop [] [8] (fun i : Nat => c - i) (fun i => i ≤ c) (fun i => ⟨[.cells 0 [.sl .nil 0 [], .bool false, .sl .nil 0 []], .cells 0 [.sl .no 60 (fl cU M), .int .i64 ((rusM M n p 4 i).2 : Nat)], .cells 0 [.sl .no n (fl cCd ((cd3 x).take n)), .bool D, .sl (gwR0 [] ((rusM M n p 4 i).1.length * 22)) (rusM M n p 4 i).1.length (fl cRu (rusM M n p 4 i).1)]], gwT0 [] (22, 43) ((rusM M n p 4 i).1.length * 22)⟩)
      (fun i => [(8, .int .i64 ((c : Nat) - (i : Nat)))]) 0 (fun _ => rfl) (by kernel_rfl) (Nat.zero_le _) rfl (by simp [HasE, lk]) ?_
    intro i hi
    obtain ⟨q1, q2⟩ := rusM_at M n p 4 i
    have q3 : i * (80 + n) ≤ 4 * 83 := Nat.mul_le_mul (by omega) (by omega)
    have hq := hsh i
    by_cases hlt : i < c
    · have hap1 := hap [.cells 0 [.sl .nil 0 [], .bool false, .sl .nil 0 []], .cells 0 [.sl .no 60 (fl cU M), .int .i64 ((ruM M n p (rusM M n p 4 i).2).2 : Nat)], .cells 0 [.sl .no n (fl cCd ((cd3 x).take n)), .bool D, .sl (gwR0 [] ((rusM M n p 4 i).1.length * 22)) (rusM M n p 4 i).1.length (fl cRu (rusM M n p 4 i).1)]] (rusM M n p 4 i).1 (ruM M n p (rusM M n p 4 i).2).1 (by omega)
      simp (disch := first | assumption | omega | exact okR_new | exact okR_one | exact trivial | (simp only [lnA, lnC, lnN]; omega) | (simp only [lnA, lnC, lnN, Nat.reduceAdd])) only [go_sem, e_go, e_cond_bool, e_w_bool, e_step_ite, e_reg_ite, e_regW_ite, e_code_ite, e_block_ite, e_evQ_ite, e_fin_ite, e_pair_ite, Tryz.f6, iPk_eq, pk_on, iRuA_eq, mk_on]
      refine w_region_2 rfl rfl ?_ ?_
      all_goals (
        simp only [List.getElem_toArray, List.getElem_cons_succ, List.getElem_cons_zero]
        simp (disch := first | assumption | omega | exact okR_new | exact okR_one | exact trivial | (simp only [lnA, lnC, lnN]; omega) | (simp only [lnA, lnC, lnN, Nat.reduceAdd]) | exact hq) only [go_sem, e_go, e_cond_bool, e_w_bool, e_step_ite, e_reg_ite, e_regW_ite, e_code_ite, e_block_ite, e_evQ_ite, e_fin_ite, e_pair_ite, Tryz.f6, iPk_eq, pk_on, iRuA_eq, mk_on, apRu_mk, hap1]
        exact ⟨i + 1, dn hlt, hlt, by simp only [rusM, lnA, lnC, lnN], by simp [HasE, lk]; omega⟩)
    · have hi' : i = c := by omega
      subst hi'
      simp (disch := first | assumption | omega | exact okR_new | exact okR_one | exact trivial | (simp only [lnA, lnC, lnN]; omega) | (simp only [lnA, lnC, lnN, Nat.reduceAdd])) only [go_sem, e_go, e_cond_bool, e_w_bool, e_step_ite, e_reg_ite, e_regW_ite, e_code_ite, e_block_ite, e_evQ_ite, e_fin_ite, e_pair_ite, Tryz.f6, iPk_eq, pk_on, iRuA_eq, mk_on]
      simp only [sV, cSp, htl])
theorem w_Made6 (L : List UInt8) (p : Bool) (hL : L.length < 9223372036854775808) : PCall Tryz.prog 6 [slc cU L, .bool p] (sV (madeS L p)) := by
  unfold madeS
  by_cases h : 60 < L.length
  · exact w_spM2 L p h hL
  · rw [List.take_of_length_le (by omega)]
    exact w_spM L p (by omega)
noncomputable def iMade6 : List AVal → Option AVal := pimp fun xs r => ∃ (L : List UInt8) (p : Bool), (L.length < 9223372036854775808) ∧ xs = [slc cU L, .bool p] ∧ r = sV (madeS L p)
theorem iMade6_eq {L : List UInt8} {p : Bool} (h : L.length < 9223372036854775808) : iMade6 [slc cU L, .bool p] = some (sV (madeS L p)) := pimp_eq ⟨L, p, h, rfl, rfl⟩ (by rintro _ ⟨L', p', h', e, rfl⟩; have e0 := (List.cons.inj e).1; have e0r := (List.cons.inj e).2; have e1 := (List.cons.inj e0r).1; have e1r := (List.cons.inj e0r).2; have q0 := slc_inj cU_len (fun _ _ _ _ => cU_inj) e0; have q1 := AVal.bool.inj e1; subst q0; subst q1; first | rfl | exact ⟨rfl, rfl⟩)
theorem iMade6_call : ∀ xs v, iMade6 xs = some v → PCall Tryz.prog 6 xs v := fun xs v h0 => by obtain ⟨L, p, h, rfl, rfl⟩ := pimp_spec h0; exact w_Made6 L p h
end Go.Hk.MZ
namespace Go.Hk.MZ
open Go.Proofs

theorem endsN_len (x : Rx) (s : List UInt8) (i : Nat) : (endsN x s i).length ≤ s.length + 1 := by
  unfold endsN
  split
  · exact cset_len
  · simp
theorem iEndsN {x : Rx} {s : List UInt8} {i : Nat} (h : okX x ∧ s.length < 9223372036854775808) : iEnds [rV x, .str s, .int .i64 (i : Nat)] = some (.sl .no (endsN x s i).length (cN (endsN x s i))) := by
  rw [iEnds_eq h, slc_N (endsL_N x s i)]
theorem w_longest (r : Ru) (s : List UInt8) (h : okRu r ∧ s.length < 1000000000) : PCall Tryz.prog 35 [ruV r, .str s] (.int .i64 (longP r s : Nat)) := by
  obtain ⟨ho, hl⟩ := h
  have hE1 : iEnds [rV r.rx, .str s, .int .i64 0] = _ := iEndsN (x := r.rx) (s := s) (i := 0) ⟨ho.rx, by omega⟩
  have hE2 := fun i => iEndsN (x := r.trail) (s := s) (i := i) ⟨ho.tr, by omega⟩
  have hL1 := endsN_len r.rx s 0
  have hL2 := fun i => endsN_len r.trail s i
  have hc := cRu_eq r
  have hLle : ∀ a ∈ endsN r.rx s 0, a ≤ s.length := fun a ha => (endsN_le ha).2
  unfold longP
  generalize hL : endsN r.rx s 0 = L at *
  refine PCall.of_w (fn := Tryz.f35) (Γ := gam [(22, .pure iEnds)]) (mu := false) (Sound.pure iEnds_call Sound.nil) mixed Tryz.func35 rfl (by kernel_rfl) (by simp) (by kernel_rfl) ?_
  simp (disch := first | assumption | omega | exact okR_new | exact okR_one | exact trivial | (simp only [lnA, lnC, lnN]; omega) | (simp only [lnA, lnC, lnN, Nat.reduceAdd])) only [go_sem, e_go, e_cond_bool, e_w_bool, e_step_ite, e_reg_ite, e_regW_ite, e_code_ite, e_block_ite, e_evQ_ite, e_fin_ite, e_pair_ite, Tryz.f35, iEnds_eq, hc, hE1]
  refine w_loop [] [4, 13] (fun i : Nat => L.length - i) (fun i => i ≤ L.length) (fun i => ⟨[.cells 0 (cRu r)], []⟩)
    (fun i => [(4, .int .i64 ((L.take i).foldl (longStep r s) 0 : Nat)), (13, .int .i64 (i : Nat))]) 0 (fun _ => rfl) (by kernel_rfl) (Nat.zero_le _) (by simp only [hc]) (by simp [HasE, lk]) ?_
  intro i hi
  by_cases hlt : i < L.length
  · have hg : L[i]? = some L[i] := by simp [hlt]
    have hat := cN_get hg
    have hnx : (L.take (i + 1)).foldl (longStep r s) 0 = longStep r s ((L.take i).foldl (longStep r s) 0) L[i] := by
      rw [List.take_succ_eq_append_getElem hlt, List.foldl_append]; rfl
    have hhs := hLle _ (List.getElem_mem hlt)
    generalize L[i] = a at *
    generalize (L.take i).foldl (longStep r s) 0 = q at *
    have hw : IntKind.i64.wrap ((i : Int) + 1) = (i : Int) + 1 := IntWalk.i64_in _ (by omega)
    by_cases hk : r.trail.k = 0
    · have hst : longStep r s q a = a := by unfold longStep; rw [if_pos hk]
      have hd : decide (r.trail.k = 0) = true := decide_eq_true hk
      simp (disch := first | assumption | omega | exact okR_new | exact okR_one | exact trivial | (simp only [lnA, lnC, lnN]; omega) | (simp only [lnA, lnC, lnN, Nat.reduceAdd])) only [go_sem, e_go, e_cond_bool, e_w_bool, e_step_ite, e_reg_ite, e_regW_ite, e_code_ite, e_block_ite, e_evQ_ite, e_fin_ite, e_pair_ite, Tryz.f35, iEnds_eq, hc, hat, hd, hw]
      exact ⟨i + 1, dn hlt, hlt, by simp only [hc], by simp [HasE, lk, hnx, hst]⟩
    · have hd : decide (r.trail.k = 0) = false := decide_eq_false hk
      have hE := hE2 a
      have hL3 := hL2 a
      have hst : longStep r s q a = if 0 < a ∧ 0 < (endsN r.trail s a).length then max q ((endsN r.trail s a).getLastD 0) else q := by unfold longStep; rw [if_neg hk]
      generalize endsN r.trail s a = M at *
      by_cases h0 : 0 < a
      · have hd0 : decide ((0 : Int) < (a : Nat)) = true := decide_eq_true (by omega)
        rcases List.eq_nil_or_concat M with rfl | ⟨M', z, rfl⟩
        · rw [if_neg (by simp)] at hst
          simp (disch := first | assumption | omega | exact okR_new | exact okR_one | exact trivial | (simp only [lnA, lnC, lnN]; omega) | (simp only [lnA, lnC, lnN, Nat.reduceAdd])) only [go_sem, e_go, e_cond_bool, e_w_bool, e_step_ite, e_reg_ite, e_regW_ite, e_code_ite, e_block_ite, e_evQ_ite, e_fin_ite, e_pair_ite, Tryz.f35, iEnds_eq, hc, hat, hd, hw, hE, hd0]
          exact ⟨i + 1, dn hlt, hlt, by simp only [hc], by simp [HasE, lk, hnx, hst]⟩
        · rw [if_pos (by simp [h0])] at hst
          have hz : (M' ++ [z]).getLastD 0 = z := by simp
          rw [List.concat_eq_append] at hE hL3 hst
          rw [hz] at hst
          have hatz := cN_get (l := M' ++ [z]) (i := M'.length) (v := z) (by simp)
          rw [List.length_append, List.length_singleton] at hE hL3
          have hd1 : decide ((0 : Int) < ((M'.length + 1 : Nat) : Int)) = true := decide_eq_true (by omega)
          have hw1 : IntKind.i64.wrap (((M'.length + 1 : Nat) : Int) - 1) = (M'.length : Nat) := by rw [IntWalk.i64_in _ (by omega)]; omega
          have hmx : imax (q : Nat) (z : Nat) = (max q z : Nat) := by unfold imax; split <;> omega
          simp (disch := first | assumption | omega | exact okR_new | exact okR_one | exact trivial | (simp only [lnA, lnC, lnN]; omega) | (simp only [lnA, lnC, lnN, Nat.reduceAdd])) only [go_sem, e_go, e_cond_bool, e_w_bool, e_step_ite, e_reg_ite, e_regW_ite, e_code_ite, e_block_ite, e_evQ_ite, e_fin_ite, e_pair_ite, Tryz.f35, iEnds_eq, hc, hat, hd, hw, hE, hd0, hd1, hw1, hatz, hmx]
          exact ⟨i + 1, dn hlt, hlt, by simp only [hc], by simp [HasE, lk, hnx, hst]⟩
      · have hd0 : decide ((0 : Int) < (a : Nat)) = false := decide_eq_false (by omega)
        rw [if_neg (fun h => h0 h.1)] at hst
        simp (disch := first | assumption | omega | exact okR_new | exact okR_one | exact trivial | (simp only [lnA, lnC, lnN]; omega) | (simp only [lnA, lnC, lnN, Nat.reduceAdd])) only [go_sem, e_go, e_cond_bool, e_w_bool, e_step_ite, e_reg_ite, e_regW_ite, e_code_ite, e_block_ite, e_evQ_ite, e_fin_ite, e_pair_ite, Tryz.f35, iEnds_eq, hc, hat, hd, hw, hE, hd0]
        exact ⟨i + 1, dn hlt, hlt, by simp only [hc], by simp [HasE, lk, hnx, hst]⟩
  · have hi' : i = L.length := by omega
    subst hi'
    rw [List.take_length]
    simp (disch := first | assumption | omega | exact okR_new | exact okR_one | exact trivial | (simp only [lnA, lnC, lnN]; omega) | (simp only [lnA, lnC, lnN, Nat.reduceAdd])) only [go_sem, e_go, e_cond_bool, e_w_bool, e_step_ite, e_reg_ite, e_regW_ite, e_code_ite, e_block_ite, e_evQ_ite, e_fin_ite, e_pair_ite, Tryz.f35, iEnds_eq, hc]
noncomputable def iLg : List AVal → Option AVal := pimp fun xs r => ∃ (u : Ru) (s : List UInt8), (okRu u ∧ s.length < 1000000000) ∧ xs = [ruV u, .str s] ∧ r = .int .i64 (longP u s : Nat)
theorem iLg_eq {u : Ru} {s : List UInt8} (h : okRu u ∧ s.length < 1000000000) : iLg [ruV u, .str s] = some (.int .i64 (longP u s : Nat)) := pimp_eq ⟨u, s, h, rfl, rfl⟩ (by rintro _ ⟨u', s', h', e, rfl⟩; have e0 := ruV_inj h.1 h'.1 (List.cons.inj e).1; have e1 := AVal.str.inj (List.cons.inj (List.cons.inj e).2).1; subst e0 e1; rfl)
theorem iLg_call : ∀ xs v, iLg xs = some v → PCall Tryz.prog 35 xs v := fun xs v h0 => by obtain ⟨u, s, h, rfl, rfl⟩ := pimp_spec h0; exact w_longest u s h
end Go.Hk.MZ
