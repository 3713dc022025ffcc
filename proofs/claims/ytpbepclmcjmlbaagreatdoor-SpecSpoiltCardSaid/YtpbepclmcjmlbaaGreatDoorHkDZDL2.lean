/- Layer 1: lists and runs. -/
import Derived.Test.YtpbepclmcjmlbaaGreatDoorHkDZDL1
set_option linter.unusedSimpArgs false
set_option linter.unusedVariables false
namespace Go.Hk.DZD
open Go.Proofs
theorem ti33 : tiOf Tryz.prog 33 = some { size := 1, bytes := 24, zero := some (.sl .nil 0 []), k := .slice 3 } := by kernel_rfl
attribute [go_sem] ti33
theorem ti111 : tiOf Tryz.prog 111 = some { size := 1, bytes := 24, zero := some (.sl .nil 0 []), k := .slice 113 } := by kernel_rfl
attribute [go_sem] ti111
theorem ti113 : tiOf Tryz.prog 113 = some { size := 2, bytes := 16, zero := some (.agg [.int .i64 0, .int .i64 0]), k := .arr 2 3 } := by kernel_rfl
attribute [go_sem] ti113
theorem apI_T : appT Tryz.prog 33 33 = some ⟨3, 1, 8⟩ := by kernel_rfl
theorem apI_one {H : List ABlk} {T : List (Nat × (Nat × Nat))} {r r' : Rt} {l} {x} (hr : okR T r l.length (1, 3) = true) (hn : l.length + 1 < 1000000000) : aappend Tryz.prog 33 33 ⟨H, T⟩ (.sl r l.length (fl cI l)) (.sl r' 1 (cI x)) = some (.sl (nxR T r) (l ++ [x]).length (fl cI (l ++ [x])), ⟨H, nxT T r (l ++ [x]).length (1, 3)⟩) := app_fl1 apI_T (by decide) cI_len rfl hr hn
theorem apI_mk (mu : Bool) (m : AMem) {x} : abuildSlice Tryz.prog mu m 33 1 [(0, .int .i64 x)] = some (.sl .full 1 (cI x), m) := build_one ti33 ti3 rfl rfl (cI_len x) rfl (by decide) (by decide)
theorem appR : appT Tryz.prog 111 111 = some ⟨113, 2, 16⟩ := by kernel_rfl
theorem appR_first {h0 : ABlk} {T : List (Nat × (Nat × Nat))} {r : Rt} {x y : AVal} : amapp Tryz.prog 111 111 ⟨[h0], T⟩ (.sl .nil 0 []) (.sl r 1 [x, y]) = some (.msl 1 2 0 1 2, ⟨[h0, .cells 2 [x, y]], T⟩) := by
  simp [amapp, appR, alist]
theorem appR_next {h0 : ABlk} {T : List (Nat × (Nat × Nat))} {r : Rt} {x y : AVal} {e n l : Nat} {cs : List AVal} (he : e % 64 = 2) (hl : l = cs.length) (hc : cs.length = 2 * n) (hn : n < 1000000000) :
    amapp Tryz.prog 111 111 ⟨[h0, .cells e cs], T⟩ (.msl 1 e 0 n l) (.sl r 1 [x, y]) = some (.msl 1 (e + 64) 0 (n + 1) (l + 2), ⟨[h0, .cells (e + 64) (cs ++ [x, y])], T⟩) := by
  subst hl
  have h1 : (n + 1) * 16 ≤ 140737488355328 := by omega
  simp [amapp, appR, alist, he, hc, h1]
  omega
theorem buildR (mu : Bool) (m : AMem) (a b : Int) : abuildSlice Tryz.prog mu m 111 1 [(0, .agg [.int .i64 a, .int .i64 b])] = some (.sl .full 1 [.int .i64 a, .int .i64 b], m) := by
  simp [abuildSlice, ti111, ti113, zeroRow, afill, cellsOf, setMany, List.range, List.range.loop]
structure Ls where
  i : Nat
  r : Rt
  T : List (Nat × (Nat × Nat))
theorem w_List (A : Nat) (hA : A < 2 ^ 256) : PCall Tryz.prog 94 [setV A] (slc cI (lst A 256)) := by
  refine PCall.of_w (fn := Tryz.f94) (Γ := gam [(97, .pure iHas)]) (mu := false) (Sound.pure iHas_call Sound.nil) mixed Tryz.func94 rfl (by kernel_rfl) (by simp) (by kernel_rfl) ?_
  simp (disch := first | assumption | omega | exact okR_new | exact okR_one | exact trivial | (simp only [List.length_append, List.length_cons, List.length_nil]; omega) | (simp only [List.length_append, List.length_cons, List.length_nil, Nat.reduceAdd])) only [go_sem, e_go, e_cond_bool, e_w_bool, e_step_ite, e_reg_ite, e_regW_ite, e_code_ite, e_block_ite, e_evQ_ite, e_fin_ite, e_pair_ite, Tryz.f94, iHas_eq]
  refine w_loop [] [2, 4] (fun x : Ls => 256 - x.i) (fun x => x.i ≤ 256 ∧ okR x.T x.r (lst A x.i).length (1, 3) = true) (fun x => ⟨[.cells 0 (setL A)], x.T⟩)
    (fun x => [(2, .sl x.r (lst A x.i).length (fl cI (lst A x.i))), (4, .int .i64 (x.i : Nat))]) ⟨0, .nil, []⟩ (fun _ => rfl) (by kernel_rfl) (by simp [okR]) rfl (by simp [HasE, lk, lst, fl]) ?_
  rintro ⟨i, r, T⟩ ⟨hi, hr⟩
  simp only at hi hr
  have hl := lst_len A i
  by_cases h : i < 256
  · cases h1 : A.testBit i
    · simp (disch := first | assumption | omega | exact okR_new | exact okR_one | exact trivial | (simp only [List.length_append, List.length_cons, List.length_nil]; omega) | (simp only [List.length_append, List.length_cons, List.length_nil, Nat.reduceAdd])) only [go_sem, e_go, e_cond_bool, e_w_bool, e_step_ite, e_reg_ite, e_regW_ite, e_code_ite, e_block_ite, e_evQ_ite, e_fin_ite, e_pair_ite, Tryz.f94, iHas_eq, has_nat, h1]
      exact ⟨⟨i + 1, r, T⟩, dn h, ⟨h, by simpa [lst, h1] using hr⟩, rfl, by simp [HasE, lk, lst, h1]⟩
    · have e : lst A (i + 1) = lst A i ++ [(i : Int)] := by simp [lst, h1]
      simp (disch := first | assumption | omega | exact okR_new | exact okR_one | exact trivial | (simp only [List.length_append, List.length_cons, List.length_nil]; omega) | (simp only [List.length_append, List.length_cons, List.length_nil, Nat.reduceAdd])) only [go_sem, e_go, e_cond_bool, e_w_bool, e_step_ite, e_reg_ite, e_regW_ite, e_code_ite, e_block_ite, e_evQ_ite, e_fin_ite, e_pair_ite, Tryz.f94, iHas_eq, has_nat, h1, apI_mk, apI_one]
      exact ⟨⟨i + 1, nxR T r, _⟩, dn h, ⟨h, by simp only [e]; exact okR_nx hr⟩, rfl, by simp only [HasE, lk, e]; simp⟩
  · have h4 : i = 256 := by omega
    subst h4
    simp (disch := first | assumption | omega | exact okR_new | exact okR_one | exact trivial | (simp only [List.length_append, List.length_cons, List.length_nil]; omega) | (simp only [List.length_append, List.length_cons, List.length_nil, Nat.reduceAdd])) only [go_sem, e_go, e_cond_bool, e_w_bool, e_step_ite, e_reg_ite, e_regW_ite, e_code_ite, e_block_ite, e_evQ_ite, e_fin_ite, e_pair_ite, Tryz.f94, iHas_eq, slc]
noncomputable def iList : List AVal → Option AVal := pimp fun xs r => ∃ (A : Nat), (A < 2 ^ 256) ∧ xs = [setV A] ∧ r = slc cI (lst A 256)
theorem iList_eq {A : Nat} (h : A < 2 ^ 256) : iList [setV A] = some (slc cI (lst A 256)) := pimp_eq ⟨A, h, rfl, rfl⟩ (by rintro _ ⟨A', h', e, rfl⟩; have e0 := (List.cons.inj e).1; have e0r := (List.cons.inj e).2; have q0 := setV_inj (by first | assumption | exact h | exact h.1 | exact h.1.1 | exact h.1.1.1 | exact h.2 | exact h.2.1 | exact h.2.2 | exact h.2.2.1) (by first | assumption | exact h' | exact h'.1 | exact h'.1.1 | exact h'.1.1.1 | exact h'.2 | exact h'.2.1 | exact h'.2.2 | exact h'.2.2.1) e0; subst q0; first | rfl | exact ⟨rfl, rfl⟩)
theorem iList_call : ∀ xs v, iList xs = some v → PCall Tryz.prog 94 xs v := fun xs v h0 => by obtain ⟨A, h, rfl, rfl⟩ := pimp_spec h0; exact w_List A h
theorem w_Runs' (A : Nat) (hA : A < 2 ^ 256) : PCall Tryz.prog 78 [setV A] (slc cP (runsN A 256)) := by
  refine PCall.of_w (fn := Tryz.f78) (Γ := gam [(82, .pure iHas')]) (mu := true) (Sound.pure iHas'_call Sound.nil) mixed Tryz.func78 rfl (by kernel_rfl) (by simp) (by kernel_rfl) ?_
  simp (disch := first | assumption | omega | exact okR_new | exact okR_one | exact trivial | (simp only [List.length_append, List.length_cons, List.length_nil]; omega) | (simp only [List.length_append, List.length_cons, List.length_nil, Nat.reduceAdd])) only [go_sem, e_go, e_cond_bool, e_w_bool, e_step_ite, e_reg_ite, e_regW_ite, e_code_ite, e_block_ite, e_evQ_ite, e_fin_ite, e_pair_ite, Tryz.f78, iHas'_eq]
  refine w_loop [] [3, 4] (fun x : Rs => 256 - x.i) (fun x => x.i ≤ 256 ∧ x.e % 64 = 2) (fun x => mem0 A x.e (runsN A x.i))
    (fun x => [(3, val0 x.e (runsN A x.i)), (4, .int .i64 (x.i : Nat))]) ⟨0, 2⟩ (fun _ => rfl) (by kernel_rfl) (by simp) rfl (by simp [HasE, lk, runsN, val0]) ?_
  rintro ⟨i, e⟩ ⟨hi, he⟩
  simp only at hi he
  have hl := runsN_len A i
  obtain ⟨h1, h2⟩ := runsN_last A i
  by_cases h : i < 256
  · cases hb : A.testBit i
    · have hr : runsN A (i + 1) = runsN A i := by simp [runsN, hb]
      rcases List.eq_nil_or_concat (runsN A i) with hn | ⟨l, p, hn⟩
      · simp (disch := first | assumption | omega | exact okR_new | exact okR_one | exact trivial | (simp only [List.length_append, List.length_cons, List.length_nil]; omega) | (simp only [List.length_append, List.length_cons, List.length_nil, Nat.reduceAdd])) only [go_sem, e_go, e_cond_bool, e_w_bool, e_step_ite, e_reg_ite, e_regW_ite, e_code_ite, e_block_ite, e_evQ_ite, e_fin_ite, e_pair_ite, Tryz.f78, iHas'_eq, has_nat, hb, hn, mem0_nil, val0_nil]
        exact ⟨⟨i + 1, e⟩, dn h, ⟨h, he⟩, by simp only [hr, hn, mem0_nil], by simp [HasE, lk, hr, hn, val0]⟩
      · rw [List.concat_eq_append] at hn
        simp (disch := first | assumption | omega | exact okR_new | exact okR_one | exact trivial | (simp only [List.length_append, List.length_cons, List.length_nil]; omega) | (simp only [List.length_append, List.length_cons, List.length_nil, Nat.reduceAdd])) only [go_sem, e_go, e_cond_bool, e_w_bool, e_step_ite, e_reg_ite, e_regW_ite, e_code_ite, e_block_ite, e_evQ_ite, e_fin_ite, e_pair_ite, Tryz.f78, iHas'_eq, has_nat, hb, hn, mem0_add, val0_add]
        exact ⟨⟨i + 1, e⟩, dn h, ⟨h, he⟩, by simp only [hr, hn, mem0_add], by simp [HasE, lk, hr, hn, val0]⟩
    · rcases List.eq_nil_or_concat (runsN A i) with hn | ⟨l, p, hn⟩
      · have hp : ¬ (0 < i ∧ A.testBit (i - 1) = true) := fun hp => by
          obtain ⟨l, p, hl⟩ := h1 hp
          rw [hn] at hl
          simp at hl
        have hr : runsN A (i + 1) = [] ++ [((i : Int), (i : Int))] := by simp [runsN, hb, hp, hn]
        by_cases h0 : 0 < i
        · have hb1 : has A ((i : Int) - 1) = false := by
            have e1 : ((i : Int) - 1) = ((i - 1 : Nat) : Int) := by omega
            rw [e1, has_nat (by omega)]
            cases hb2 : A.testBit (i - 1)
            · rfl
            · exact absurd ⟨h0, hb2⟩ hp
          simp (disch := first | assumption | omega | exact okR_new | exact okR_one | exact trivial | (simp only [List.length_append, List.length_cons, List.length_nil]; omega) | (simp only [List.length_append, List.length_cons, List.length_nil, Nat.reduceAdd])) only [go_sem, e_go, e_cond_bool, e_w_bool, e_step_ite, e_reg_ite, e_regW_ite, e_code_ite, e_block_ite, e_evQ_ite, e_fin_ite, e_pair_ite, Tryz.f78, iHas'_eq, has_nat, hb, hn, mem0_nil, val0_nil, hb1, buildR, appR_first]
          exact ⟨⟨i + 1, 2⟩, dn h, ⟨h, rfl⟩, by simp only [hr, mem0_add]; rfl, by simp [HasE, lk, hr, val0]⟩
        · simp (disch := first | assumption | omega | exact okR_new | exact okR_one | exact trivial | (simp only [List.length_append, List.length_cons, List.length_nil]; omega) | (simp only [List.length_append, List.length_cons, List.length_nil, Nat.reduceAdd])) only [go_sem, e_go, e_cond_bool, e_w_bool, e_step_ite, e_reg_ite, e_regW_ite, e_code_ite, e_block_ite, e_evQ_ite, e_fin_ite, e_pair_ite, Tryz.f78, iHas'_eq, has_nat, hb, hn, mem0_nil, val0_nil, buildR, appR_first]
          exact ⟨⟨i + 1, 2⟩, dn h, ⟨h, rfl⟩, by simp only [hr, mem0_add]; rfl, by simp [HasE, lk, hr, val0]⟩
      · rw [List.concat_eq_append] at hn
        have hll : l.length < 256 := by rw [hn] at hl; simp at hl; omega
        have hpl : (pairL (l ++ [p])).length = 2 * (l.length + 1) := by rw [pairL_len]; simp
        by_cases h0 : 0 < i
        · have e1 : ((i : Int) - 1) = ((i - 1 : Nat) : Int) := by omega
          cases hb2 : A.testBit (i - 1)
          · have hb1 : has A ((i : Int) - 1) = false := by rw [e1, has_nat (by omega)]; exact hb2
            have hr : runsN A (i + 1) = l ++ [p] ++ [((i : Int), (i : Int))] := by simp [runsN, hb, hb2, hn]
            simp (disch := first | assumption | omega | exact okR_new | exact okR_one | exact trivial | (simp only [List.length_append, List.length_cons, List.length_nil]; omega) | (simp only [List.length_append, List.length_cons, List.length_nil, Nat.reduceAdd]) | exact hpl.symm) only [go_sem, e_go, e_cond_bool, e_w_bool, e_step_ite, e_reg_ite, e_regW_ite, e_code_ite, e_block_ite, e_evQ_ite, e_fin_ite, e_pair_ite, Tryz.f78, iHas'_eq, has_nat, hb, hn, mem0_add, val0_add, hb1, buildR, appR_next]
            exact ⟨⟨i + 1, e + 64⟩, dn h, ⟨h, by show (e + 64) % 64 = 2; omega⟩, by simp only [hr, mem0_add, pairL_app (l ++ [p])]; rfl, by simp [HasE, lk, hr, val0]; omega⟩
          · have hb1 : has A ((i : Int) - 1) = true := by rw [e1, has_nat (by omega)]; exact hb2
            have hr : runsN A (i + 1) = l ++ [(p.1, (i : Int))] := by simp [runsN, hb, hb2, hn, h0, setLast_add]
            have e3 : ((l.length + 1 : Nat) : Int) - 1 = (l.length : Nat) := by omega
            simp (disch := first | assumption | omega | exact okR_new | exact okR_one | exact trivial | (simp only [List.length_append, List.length_cons, List.length_nil]; omega) | (simp only [List.length_append, List.length_cons, List.length_nil, Nat.reduceAdd])) only [go_sem, e_go, e_cond_bool, e_w_bool, e_step_ite, e_reg_ite, e_regW_ite, e_code_ite, e_block_ite, e_evQ_ite, e_fin_ite, e_pair_ite, Tryz.f78, iHas'_eq, has_nat, hb, hn, mem0_add, val0_add, hb1, e3, hpl, pair_last, pair_set]
            exact ⟨⟨i + 1, e⟩, dn h, ⟨h, he⟩, by simp only [hr, mem0_add], by simp [HasE, lk, hr, hn, val0]⟩
        · exfalso
          have : i = 0 := by omega
          subst this
          simp [runsN] at hn
  · have h4 : i = 256 := by omega
    subst h4
    rcases List.eq_nil_or_concat (runsN A 256) with hn | ⟨l, p, hn⟩
    · simp (disch := first | assumption | omega | exact okR_new | exact okR_one | exact trivial | (simp only [List.length_append, List.length_cons, List.length_nil]; omega) | (simp only [List.length_append, List.length_cons, List.length_nil, Nat.reduceAdd])) only [go_sem, e_go, e_cond_bool, e_w_bool, e_step_ite, e_reg_ite, e_regW_ite, e_code_ite, e_block_ite, e_evQ_ite, e_fin_ite, e_pair_ite, Tryz.f78, iHas'_eq, hn, mem0_nil, val0_nil]
      rfl
    · rw [List.concat_eq_append] at hn
      have hpl : 2 * (l.length + 1) = (pairL (l ++ [p])).length := by rw [pairL_len]; simp
      have hpl2 : l.length + 1 = (l ++ [p]).length := by simp
      simp (disch := first | assumption | omega | exact okR_new | exact okR_one | exact trivial | (simp only [List.length_append, List.length_cons, List.length_nil]; omega) | (simp only [List.length_append, List.length_cons, List.length_nil, Nat.reduceAdd])) only [go_sem, e_go, e_cond_bool, e_w_bool, e_step_ite, e_reg_ite, e_regW_ite, e_code_ite, e_block_ite, e_evQ_ite, e_fin_ite, e_pair_ite, Tryz.f78, iHas'_eq, hn, mem0_add, val0_add, pairL_strip, hpl2, slc]
noncomputable def iRuns' : List AVal → Option AVal := pimp fun xs r => ∃ (A : Nat), (A < 2 ^ 256) ∧ xs = [setV A] ∧ r = slc cP (runsN A 256)
theorem iRuns'_eq {A : Nat} (h : A < 2 ^ 256) : iRuns' [setV A] = some (slc cP (runsN A 256)) := pimp_eq ⟨A, h, rfl, rfl⟩ (by rintro _ ⟨A', h', e, rfl⟩; have e0 := (List.cons.inj e).1; have e0r := (List.cons.inj e).2; have q0 := setV_inj (by first | assumption | exact h | exact h.1 | exact h.1.1 | exact h.1.1.1 | exact h.2 | exact h.2.1 | exact h.2.2 | exact h.2.2.1) (by first | assumption | exact h' | exact h'.1 | exact h'.1.1 | exact h'.1.1.1 | exact h'.2 | exact h'.2.1 | exact h'.2.2 | exact h'.2.2.1) e0; subst q0; first | rfl | exact ⟨rfl, rfl⟩)
theorem iRuns'_call : ∀ xs v, iRuns' xs = some v → PCall Tryz.prog 78 xs v := fun xs v h0 => by obtain ⟨A, h, rfl, rfl⟩ := pimp_spec h0; exact w_Runs' A h
theorem w_Runs (A : Nat) (hA : A < 2 ^ 256) : PCall Tryz.prog 90 [setV A] (slc cP (runsN A 256)) := by
  rw [← fold_runs]
  have hlm := lst_mem A 256
  have hll := lst_len A 256
  refine PCall.of_w (fn := Tryz.f90) (Γ := gam [(94, .pure iList)]) (mu := true) (Sound.pure iList_call Sound.nil) mixed Tryz.func90 rfl (by kernel_rfl) (by simp) (by kernel_rfl) ?_
  simp (disch := first | assumption | omega | exact okR_new | exact okR_one | exact trivial | (simp only [List.length_append, List.length_cons, List.length_nil]; omega) | (simp only [List.length_append, List.length_cons, List.length_nil, Nat.reduceAdd])) only [go_sem, e_go, e_cond_bool, e_w_bool, e_step_ite, e_reg_ite, e_regW_ite, e_code_ite, e_block_ite, e_evQ_ite, e_fin_ite, e_pair_ite, Tryz.f90, iList_eq]
  generalize hL : lst A 256 = L at *
  refine w_loop [] [2, 9] (fun x : Rs => L.length - x.i) (fun x => x.i ≤ L.length ∧ x.e % 64 = 2) (fun x => mem0 A x.e ((L.take x.i).foldl step []))
    (fun x => [(2, val0 x.e ((L.take x.i).foldl step [])), (9, .int .i64 (x.i : Nat))]) ⟨0, 2⟩ (fun _ => rfl) (by kernel_rfl) (by simp) rfl (by simp [HasE, lk, val0]) ?_
  rintro ⟨i, e⟩ ⟨hi, he⟩
  simp only at hi he
  by_cases h : i < L.length
  · have hg : L[i]? = some L[i] := by simp [h]
    have hget := fl_get1 cI_len hg
    obtain ⟨hb0, hb1⟩ := hlm L[i] (List.getElem_mem h)
    have hnext : (L.take (i + 1)).foldl step [] = step ((L.take i).foldl step []) L[i] := by
      rw [List.take_succ_eq_append_getElem h, List.foldl_append]; rfl
    generalize hb : L[i] = b at *
    rcases List.eq_nil_or_concat ((L.take i).foldl step []) with hn | ⟨l, p, hn⟩
    · rw [hn, step_nil] at hnext
      have hr : (L.take (i + 1)).foldl step [] = [] ++ [(b, b)] := hnext
      simp (disch := first | assumption | omega | exact okR_new | exact okR_one | exact trivial | (simp only [List.length_append, List.length_cons, List.length_nil]; omega) | (simp only [List.length_append, List.length_cons, List.length_nil, Nat.reduceAdd])) only [go_sem, e_go, e_cond_bool, e_w_bool, e_step_ite, e_reg_ite, e_regW_ite, e_code_ite, e_block_ite, e_evQ_ite, e_fin_ite, e_pair_ite, Tryz.f90, iList_eq, hn, mem0_nil, val0_nil, buildR, appR_first, hget, cI]
      exact ⟨⟨i + 1, 2⟩, dn h, ⟨h, rfl⟩, by simp only [hr, mem0_add]; rfl, by simp [HasE, lk, hr, val0]⟩
    · rw [List.concat_eq_append] at hn
      rw [hn, step_add] at hnext
      have hpl : (pairL (l ++ [p])).length = 2 * (l.length + 1) := by rw [pairL_len]; simp
      have hlen : l.length < 1000 := by
        have h1 := steps_len (L.take i) []
        rw [hn] at h1
        simp at h1
        omega
      have e3 : ((l.length + 1 : Nat) : Int) - 1 = (l.length : Nat) := by omega
      by_cases hp : p.2 = b - 1
      · rw [if_pos hp] at hnext
        simp (disch := first | assumption | omega | exact okR_new | exact okR_one | exact trivial | (simp only [List.length_append, List.length_cons, List.length_nil]; omega) | (simp only [List.length_append, List.length_cons, List.length_nil, Nat.reduceAdd])) only [go_sem, e_go, e_cond_bool, e_w_bool, e_step_ite, e_reg_ite, e_regW_ite, e_code_ite, e_block_ite, e_evQ_ite, e_fin_ite, e_pair_ite, Tryz.f90, iList_eq, hn, mem0_add, val0_add, hget, cI, e3, hpl, pair_last, pair_set, hp]
        exact ⟨⟨i + 1, e⟩, dn h, ⟨h, he⟩, by simp only [hnext, mem0_add], by simp [HasE, lk, hnext, hn, val0]⟩
      · rw [if_neg hp] at hnext
        simp (disch := first | assumption | omega | exact okR_new | exact okR_one | exact trivial | (simp only [List.length_append, List.length_cons, List.length_nil]; omega) | (simp only [List.length_append, List.length_cons, List.length_nil, Nat.reduceAdd]) | exact hpl.symm) only [go_sem, e_go, e_cond_bool, e_w_bool, e_step_ite, e_reg_ite, e_regW_ite, e_code_ite, e_block_ite, e_evQ_ite, e_fin_ite, e_pair_ite, Tryz.f90, iList_eq, hn, mem0_add, val0_add, hget, cI, e3, pair_last, pair_set, buildR, appR_next]
        exact ⟨⟨i + 1, e + 64⟩, dn h, ⟨h, by show (e + 64) % 64 = 2; omega⟩, by simp only [hnext, mem0_add, pairL_app (l ++ [p])]; rfl, by simp [HasE, lk, hnext, val0]; omega⟩
  · have h4 : i = L.length := by omega
    subst h4
    rw [List.take_length] at *
    rcases List.eq_nil_or_concat (L.foldl step []) with hn | ⟨l, p, hn⟩
    · simp (disch := first | assumption | omega | exact okR_new | exact okR_one | exact trivial | (simp only [List.length_append, List.length_cons, List.length_nil]; omega) | (simp only [List.length_append, List.length_cons, List.length_nil, Nat.reduceAdd])) only [go_sem, e_go, e_cond_bool, e_w_bool, e_step_ite, e_reg_ite, e_regW_ite, e_code_ite, e_block_ite, e_evQ_ite, e_fin_ite, e_pair_ite, Tryz.f90, iList_eq, List.take_length, hn, mem0_nil, val0_nil]
      rfl
    · rw [List.concat_eq_append] at hn
      have hpl : 2 * (l.length + 1) = (pairL (l ++ [p])).length := by rw [pairL_len]; simp
      have hpl2 : l.length + 1 = (l ++ [p]).length := by simp
      simp (disch := first | assumption | omega | exact okR_new | exact okR_one | exact trivial | (simp only [List.length_append, List.length_cons, List.length_nil]; omega) | (simp only [List.length_append, List.length_cons, List.length_nil, Nat.reduceAdd])) only [go_sem, e_go, e_cond_bool, e_w_bool, e_step_ite, e_reg_ite, e_regW_ite, e_code_ite, e_block_ite, e_evQ_ite, e_fin_ite, e_pair_ite, Tryz.f90, iList_eq, List.take_length, hn, mem0_add, val0_add, pairL_strip, hpl2, slc]
noncomputable def iRuns : List AVal → Option AVal := pimp fun xs r => ∃ (A : Nat), (A < 2 ^ 256) ∧ xs = [setV A] ∧ r = slc cP (runsN A 256)
theorem iRuns_eq {A : Nat} (h : A < 2 ^ 256) : iRuns [setV A] = some (slc cP (runsN A 256)) := pimp_eq ⟨A, h, rfl, rfl⟩ (by rintro _ ⟨A', h', e, rfl⟩; have e0 := (List.cons.inj e).1; have e0r := (List.cons.inj e).2; have q0 := setV_inj (by first | assumption | exact h | exact h.1 | exact h.1.1 | exact h.1.1.1 | exact h.2 | exact h.2.1 | exact h.2.2 | exact h.2.2.1) (by first | assumption | exact h' | exact h'.1 | exact h'.1.1 | exact h'.1.1.1 | exact h'.2 | exact h'.2.1 | exact h'.2.2 | exact h'.2.2.1) e0; subst q0; first | rfl | exact ⟨rfl, rfl⟩)
theorem iRuns_call : ∀ xs v, iRuns xs = some v → PCall Tryz.prog 90 xs v := fun xs v h0 => by obtain ⟨A, h, rfl, rfl⟩ := pimp_spec h0; exact w_Runs A h
end Go.Hk.DZD
