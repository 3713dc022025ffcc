/- Layer 5: the document's lists of truths. -/
import Derived.Test.YtbnhflckmfmkoaaHkCN5
import Derived.Test.YtbnhflckmfmkoaaHkMd
set_option linter.unusedSimpArgs false
set_option linter.unusedVariables false
set_option maxRecDepth 20000
namespace Go.Hk.C
open Go.Proofs
theorem ti60 : tiOf Try.prog 60 = some { size := 1, bytes := 24, zero := some (.sl .nil 0 []), k := .slice 4 } := by kernel_rfl
attribute [go_sem] ti60
theorem apB_T : appT Try.prog 60 60 = some ⟨4, 1, 1⟩ := by kernel_rfl
theorem apB_one {H : List ABlk} {T : List (Nat × (Nat × Nat))} {r r' : Rt} {l} {x} (hr : okR T r l.length (1, 4) = true) (hn : l.length + 1 < 1000000000) : aappend Try.prog 60 60 ⟨H, T⟩ (.sl r l.length (fl cB l)) (.sl r' 1 (cB x)) = some (.sl (nxR T r) (l ++ [x]).length (fl cB (l ++ [x])), ⟨H, nxT T r (l ++ [x]).length (1, 4)⟩) := app_fl1 apB_T (by decide) cB_len rfl hr hn
theorem apB_mk (mu : Bool) (m : AMem) {x} : abuildSlice Try.prog mu m 60 1 [(0, .bool x)] = some (.sl .full 1 (cB x), m) := build_one ti60 ti4 rfl rfl (cB_len x) rfl (by decide) (by decide)
theorem w_or (a b : List Bool) (h : a.length = b.length) (hn : a.length < 100000000) : PCall Try.prog 47 [slc cB a, slc cB b] (slc cB (orB a b)) := by
  refine PCall.of_w (fn := Try.f47) (Γ := gam []) (mu := false) Sound.nil mixed Try.func47 rfl (by kernel_rfl) (by simp) (by kernel_rfl) ?_
  simp (disch := first | assumption | omega | exact okR_new | exact okR_one | exact trivial | (simp only [List.length_append, List.length_cons, List.length_nil]; omega) | (simp only [List.length_append, List.length_cons, List.length_nil, Nat.reduceAdd])) only [go_sem, e_go, e_cond_bool, e_w_bool, e_step_ite, e_reg_ite, e_regW_ite, e_code_ite, e_block_ite, e_evQ_ite, e_fin_ite, e_pair_ite, Try.f47]
  refine w_loop [] [5, 6] (fun x : Ls => a.length - x.i) (fun x => x.i ≤ a.length ∧ okR x.T x.r (orB (a.take x.i) (b.take x.i)).length (1, 4) = true) (fun x => ⟨[], x.T⟩)
    (fun x => [(5, .sl x.r (orB (a.take x.i) (b.take x.i)).length (fl cB (orB (a.take x.i) (b.take x.i)))), (6, .int .i64 (x.i : Nat))]) ⟨0, .nil, []⟩ (fun _ => rfl) (by kernel_rfl) (by simp [okR]) rfl (by simp [HasE, lk, orB, fl]) ?_
  rintro ⟨i, r, T⟩ ⟨hi, hr⟩
  simp only at hi hr
  by_cases h1 : i < a.length
  · have h2 : i < b.length := by omega
    have hg := fl_cB_get (l := a) (i := i) (x := a[i]) (by simp [h1])
    have hg2 := fl_cB_get (l := b) (i := i) (x := b[i]) (by simp [h2])
    have hw : IntKind.i64.wrap ((i : Int) + 1) = (i : Int) + 1 := IntWalk.i64_in _ (by omega)
    have hnx := orB_next h1 h2
    have hol : (orB (a.take i) (b.take i)).length ≤ i := by simp [orB]; omega
    cases ha : a[i] <;> simp only [ha, Bool.false_or, Bool.true_or] at hnx
    · simp (disch := first | assumption | omega | exact okR_new | exact okR_one | exact trivial | (simp only [List.length_append, List.length_cons, List.length_nil]; omega) | (simp only [List.length_append, List.length_cons, List.length_nil, Nat.reduceAdd])) only [go_sem, e_go, e_cond_bool, e_w_bool, e_step_ite, e_reg_ite, e_regW_ite, e_code_ite, e_block_ite, e_evQ_ite, e_fin_ite, e_pair_ite, Try.f47, hg, hg2, hw, ha, apB_mk, apB_one]
      exact ⟨⟨i + 1, nxR T r, _⟩, dn h1, ⟨h1, by simp only [hnx, List.length_append, List.length_cons, List.length_nil, Nat.zero_add]; exact okR_nx hr⟩, rfl, by simp only [HasE, lk, hnx]; simp⟩
    · simp (disch := first | assumption | omega | exact okR_new | exact okR_one | exact trivial | (simp only [List.length_append, List.length_cons, List.length_nil]; omega) | (simp only [List.length_append, List.length_cons, List.length_nil, Nat.reduceAdd])) only [go_sem, e_go, e_cond_bool, e_w_bool, e_step_ite, e_reg_ite, e_regW_ite, e_code_ite, e_block_ite, e_evQ_ite, e_fin_ite, e_pair_ite, Try.f47, hg, hg2, hw, ha, apB_mk, apB_one]
      exact ⟨⟨i + 1, nxR T r, _⟩, dn h1, ⟨h1, by simp only [hnx, List.length_append, List.length_cons, List.length_nil, Nat.zero_add]; exact okR_nx hr⟩, rfl, by simp only [HasE, lk, hnx]; simp⟩
  · have hi' : i = a.length := by omega
    subst hi'
    have e : orB (a.take a.length) (b.take a.length) = orB a b := by rw [List.take_length, h, List.take_length]
    simp (disch := first | assumption | omega | exact okR_new | exact okR_one | exact trivial | (simp only [List.length_append, List.length_cons, List.length_nil]; omega) | (simp only [List.length_append, List.length_cons, List.length_nil, Nat.reduceAdd])) only [go_sem, e_go, e_cond_bool, e_w_bool, e_step_ite, e_reg_ite, e_regW_ite, e_code_ite, e_block_ite, e_evQ_ite, e_fin_ite, e_pair_ite, Try.f47, e, slc]
theorem w_orM (G : List ABlk) (q : Nat) (a b : List Bool) (hq : G[q]? = some (.cells 1 (fl cB a))) (hs : shut ⟨G, []⟩ = true) (h : a.length = b.length) (hn : a.length < 100000000) : RCall Try.prog 47 [.msl q 1 0 a.length a.length, slc cB b] ⟨G, []⟩ (slc cB (orB a b)) ⟨G, []⟩ := by
  have hal : (fl cB a).length = a.length := by rw [fl_len cB_len, Nat.mul_one]
  refine RCall.of_ws (fn := Try.f47) (Γ := gam []) (mu := false) (by simp) (by simp) Sound.nil mixed Try.func47 rfl (by kernel_rfl) (by simp) (by kernel_rfl) ?_
  simp (disch := first | assumption | omega | exact okR_new | exact okR_one | exact trivial | (simp only [List.length_append, List.length_cons, List.length_nil]; omega) | (simp only [List.length_append, List.length_cons, List.length_nil, Nat.reduceAdd])) only [go_sem, e_go, e_cond_bool, e_w_bool, e_step_ite, e_reg_ite, e_regW_ite, e_code_ite, e_block_ite, e_evQ_ite, e_fin_ite, e_pair_ite, Try.f47]
  refine w_loop [] [5, 6] (fun x : Ls => a.length - x.i) (fun x => x.i ≤ a.length ∧ okR x.T x.r (orB (a.take x.i) (b.take x.i)).length (1, 4) = true) (fun x => ⟨G, x.T⟩)
    (fun x => [(5, .sl x.r (orB (a.take x.i) (b.take x.i)).length (fl cB (orB (a.take x.i) (b.take x.i)))), (6, .int .i64 (x.i : Nat))]) ⟨0, .nil, []⟩ (fun _ => rfl) (by kernel_rfl) (by simp [okR]) rfl (by simp [HasE, lk, orB, fl]) ?_
  rintro ⟨i, r, T⟩ ⟨hi, hr⟩
  simp only at hi hr
  by_cases h1 : i < a.length
  · have h2 : i < b.length := by omega
    have hg := fl_cB_get (l := a) (i := i) (x := a[i]) (by simp [h1])
    have hg2 := fl_cB_get (l := b) (i := i) (x := b[i]) (by simp [h2])
    have hw : IntKind.i64.wrap ((i : Int) + 1) = (i : Int) + 1 := IntWalk.i64_in _ (by omega)
    have hnx := orB_next h1 h2
    have hol : (orB (a.take i) (b.take i)).length ≤ i := by simp [orB]; omega
    cases ha : a[i] <;> simp only [ha, Bool.false_or, Bool.true_or] at hnx hg
    · simp (disch := first | assumption | omega | exact okR_new | exact okR_one | exact trivial | (simp only [List.length_append, List.length_cons, List.length_nil]; omega) | (simp only [List.length_append, List.length_cons, List.length_nil, Nat.reduceAdd])) only [go_sem, e_go, e_cond_bool, e_w_bool, e_step_ite, e_reg_ite, e_regW_ite, e_code_ite, e_block_ite, e_evQ_ite, e_fin_ite, e_pair_ite, Try.f47, hg, hg2, hw, hq, hal, apB_mk, apB_one]
      exact ⟨⟨i + 1, nxR T r, _⟩, dn h1, ⟨h1, by simp only [hnx, List.length_append, List.length_cons, List.length_nil, Nat.zero_add]; exact okR_nx hr⟩, rfl, by simp only [HasE, lk, hnx]; simp⟩
    · simp (disch := first | assumption | omega | exact okR_new | exact okR_one | exact trivial | (simp only [List.length_append, List.length_cons, List.length_nil]; omega) | (simp only [List.length_append, List.length_cons, List.length_nil, Nat.reduceAdd])) only [go_sem, e_go, e_cond_bool, e_w_bool, e_step_ite, e_reg_ite, e_regW_ite, e_code_ite, e_block_ite, e_evQ_ite, e_fin_ite, e_pair_ite, Try.f47, hg, hg2, hw, hq, hal, apB_mk, apB_one]
      exact ⟨⟨i + 1, nxR T r, _⟩, dn h1, ⟨h1, by simp only [hnx, List.length_append, List.length_cons, List.length_nil, Nat.zero_add]; exact okR_nx hr⟩, rfl, by simp only [HasE, lk, hnx]; simp⟩
  · have hi' : i = a.length := by omega
    subst hi'
    have e : orB (a.take a.length) (b.take a.length) = orB a b := by rw [List.take_length, h, List.take_length]
    simp (disch := first | assumption | omega | exact okR_new | exact okR_one | exact trivial | (simp only [List.length_append, List.length_cons, List.length_nil]; omega) | (simp only [List.length_append, List.length_cons, List.length_nil, Nat.reduceAdd])) only [go_sem, e_go, e_cond_bool, e_w_bool, e_step_ite, e_reg_ite, e_regW_ite, e_code_ite, e_block_ite, e_evQ_ite, e_fin_ite, e_pair_ite, Try.f47, e, slc]
    exact .inr ⟨⟨[], T, by simp⟩, hs⟩
theorem iOrM_call : ∀ xs m v m', iOrM xs m = some (v, m') → RCall Try.prog 47 xs m v m' := by
  intro xs m v m' h0
  obtain ⟨A, B, u, h, rfl, hu, rfl, hm⟩ := rimp_spec h0
  rw [hm]
  rcases hu with rfl | ⟨b, rfl, hb, hT, hs⟩
  · exact (w_or A B h.1 h.2).stable (by simp only [stripL, slc, strip, l_s_cB])
  · obtain ⟨G, T⟩ := m
    simp only at hT hb
    subst hT
    exact w_orM G b A B hb hs h.1 h.2
theorem w_within (a b : List Bool) (h : a.length = b.length) (hn : a.length < 100000000) : PCall Try.prog 49 [slc cB a, slc cB b] (.bool (inB a b)) := by
  refine PCall.of_w (fn := Try.f49) (Γ := gam []) (mu := false) Sound.nil mixed Try.func49 rfl (by kernel_rfl) (by simp) (by kernel_rfl) ?_
  simp (disch := first | assumption | omega | exact okR_new | exact okR_one | exact trivial | (simp only [List.length_append, List.length_cons, List.length_nil]; omega) | (simp only [List.length_append, List.length_cons, List.length_nil, Nat.reduceAdd])) only [go_sem, e_go, e_cond_bool, e_w_bool, e_step_ite, e_reg_ite, e_regW_ite, e_code_ite, e_block_ite, e_evQ_ite, e_fin_ite, e_pair_ite, Try.f49]
  refine w_loop [4] [5] (fun i : Nat => a.length - i) (fun i => i ≤ a.length ∧ inB (a.take i) (b.take i) = true) (fun i => ⟨[], []⟩)
    (fun i => [(5, .int .i64 (i : Nat))]) 0 (fun _ => rfl) (by kernel_rfl) ⟨Nat.zero_le _, rfl⟩ rfl (by simp [HasE, lk]) ?_
  rintro i ⟨hi, hq⟩
  by_cases h1 : i < a.length
  · have h2 : i < b.length := by omega
    have hg := fl_cB_get (l := a) (i := i) (x := a[i]) (by simp [h1])
    have hg2 := fl_cB_get (l := b) (i := i) (x := b[i]) (by simp [h2])
    have hw : IntKind.i64.wrap ((i : Int) + 1) = (i : Int) + 1 := IntWalk.i64_in _ (by omega)
    have hnx := inB_next h1 h2
    have hall : inB (a.take (i + 1)) (b.take (i + 1)) = false → inB a b = false := inB_take h
    cases ha : a[i] <;> simp only [ha, hq, Bool.not_false, Bool.true_or, Bool.not_true, Bool.false_or, Bool.and_true, Bool.true_and] at hnx
    · simp (disch := first | assumption | omega | exact okR_new | exact okR_one | exact trivial | (simp only [List.length_append, List.length_cons, List.length_nil]; omega) | (simp only [List.length_append, List.length_cons, List.length_nil, Nat.reduceAdd])) only [go_sem, e_go, e_cond_bool, e_w_bool, e_step_ite, e_reg_ite, e_regW_ite, e_code_ite, e_block_ite, e_evQ_ite, e_fin_ite, e_pair_ite, Try.f49, hg, hg2, hw, ha]
      exact ⟨i + 1, dn h1, ⟨h1, hnx⟩, rfl, by simp [HasE, lk]⟩
    · cases hb : b[i] <;> simp only [hb] at hnx
      · have hf := hall hnx
        simp (disch := first | assumption | omega | exact okR_new | exact okR_one | exact trivial | (simp only [List.length_append, List.length_cons, List.length_nil]; omega) | (simp only [List.length_append, List.length_cons, List.length_nil, Nat.reduceAdd])) only [go_sem, e_go, e_cond_bool, e_w_bool, e_step_ite, e_reg_ite, e_regW_ite, e_code_ite, e_block_ite, e_evQ_ite, e_fin_ite, e_pair_ite, Try.f49, hg, hg2, hw, ha, hb, hf]
      · simp (disch := first | assumption | omega | exact okR_new | exact okR_one | exact trivial | (simp only [List.length_append, List.length_cons, List.length_nil]; omega) | (simp only [List.length_append, List.length_cons, List.length_nil, Nat.reduceAdd])) only [go_sem, e_go, e_cond_bool, e_w_bool, e_step_ite, e_reg_ite, e_regW_ite, e_code_ite, e_block_ite, e_evQ_ite, e_fin_ite, e_pair_ite, Try.f49, hg, hg2, hw, ha, hb]
        exact ⟨i + 1, dn h1, ⟨h1, hnx⟩, rfl, by simp [HasE, lk]⟩
  · have hi' : i = a.length := by omega
    subst hi'
    rw [List.take_length, h, List.take_length] at hq
    simp (disch := first | assumption | omega | exact okR_new | exact okR_one | exact trivial | (simp only [List.length_append, List.length_cons, List.length_nil]; omega) | (simp only [List.length_append, List.length_cons, List.length_nil, Nat.reduceAdd])) only [go_sem, e_go, e_cond_bool, e_w_bool, e_step_ite, e_reg_ite, e_regW_ite, e_code_ite, e_block_ite, e_evQ_ite, e_fin_ite, e_pair_ite, Try.f49, hq]
noncomputable def iWi : List AVal → Option AVal := pimp fun xs r => ∃ (a b : List Bool), (a.length = b.length ∧ a.length < 100000000) ∧ xs = [slc cB a, slc cB b] ∧ r = .bool (inB a b)
theorem iWi_eq {a b : List Bool} (h : a.length = b.length ∧ a.length < 100000000) : iWi [slc cB a, slc cB b] = some (.bool (inB a b)) := pimp_eq ⟨a, b, h, rfl, rfl⟩ (by rintro _ ⟨a', b', h', e, rfl⟩; have e0 := (List.cons.inj e).1; have e0r := (List.cons.inj e).2; have e1 := (List.cons.inj e0r).1; have e1r := (List.cons.inj e0r).2; have q0 := slc_inj cB_len (fun _ _ _ _ => cB_inj) e0; have q1 := slc_inj cB_len (fun _ _ _ _ => cB_inj) e1; subst q0; subst q1; first | rfl | exact ⟨rfl, rfl⟩)
theorem iWi_call : ∀ xs v, iWi xs = some v → PCall Try.prog 49 xs v := fun xs v h0 => by obtain ⟨a, b, h, rfl, rfl⟩ := pimp_spec h0; exact w_within a b h.1 h.2
theorem w_closed (y : Rx) (h : okX y) : PCall Try.prog 48 [rV y] (.bool (loopy y)) := by
  have yk0 : (cR y)[0]? = some (.int .i64 y.k) := by rw [cR_eq]; rfl
  have yk5 : (cR y)[5]? = some (.int .i64 y.lo) := by rw [cR_eq]; rfl
  have yk6 : (cR y)[6]? = some (.int .i64 y.hi) := by rw [cR_eq]; rfl
  unfold loopy
  refine PCall.of_w (fn := Try.f48) (Γ := gam []) (mu := false) Sound.nil mixed Try.func48 rfl (by kernel_rfl) (by simp) (by kernel_rfl) ?_
  by_cases c2 : y.k = 5
  · by_cases c3 : y.hi < 0
    · by_cases c4 : y.lo ≤ 1
      · simp (disch := first | assumption | omega | exact okR_new | exact okR_one | exact trivial | (simp only [List.length_append, List.length_cons, List.length_nil]; omega) | (simp only [List.length_append, List.length_cons, List.length_nil, Nat.reduceAdd])) only [go_sem, e_go, e_cond_bool, e_w_bool, e_step_ite, e_reg_ite, e_regW_ite, e_code_ite, e_block_ite, e_evQ_ite, e_fin_ite, e_pair_ite, Try.f48, yk0, yk5, yk6, c2]
      · simp (disch := first | assumption | omega | exact okR_new | exact okR_one | exact trivial | (simp only [List.length_append, List.length_cons, List.length_nil]; omega) | (simp only [List.length_append, List.length_cons, List.length_nil, Nat.reduceAdd])) only [go_sem, e_go, e_cond_bool, e_w_bool, e_step_ite, e_reg_ite, e_regW_ite, e_code_ite, e_block_ite, e_evQ_ite, e_fin_ite, e_pair_ite, Try.f48, yk0, yk5, yk6, c2]
    · simp (disch := first | assumption | omega | exact okR_new | exact okR_one | exact trivial | (simp only [List.length_append, List.length_cons, List.length_nil]; omega) | (simp only [List.length_append, List.length_cons, List.length_nil, Nat.reduceAdd])) only [go_sem, e_go, e_cond_bool, e_w_bool, e_step_ite, e_reg_ite, e_regW_ite, e_code_ite, e_block_ite, e_evQ_ite, e_fin_ite, e_pair_ite, Try.f48, yk0, yk5, yk6, c2]
      simp [c3]
  · have c2' : decide (y.k = 5) = false := by simp [c2]
    simp (disch := first | assumption | omega | exact okR_new | exact okR_one | exact trivial | (simp only [List.length_append, List.length_cons, List.length_nil]; omega) | (simp only [List.length_append, List.length_cons, List.length_nil, Nat.reduceAdd])) only [go_sem, e_go, e_cond_bool, e_w_bool, e_step_ite, e_reg_ite, e_regW_ite, e_code_ite, e_block_ite, e_evQ_ite, e_fin_ite, e_pair_ite, Try.f48, yk0, yk5, yk6, c2']
    simp
noncomputable def iClo : List AVal → Option AVal := pimp fun xs r => ∃ (y : Rx), (okX y) ∧ xs = [rV y] ∧ r = .bool (loopy y)
theorem iClo_eq {y : Rx} (h : okX y) : iClo [rV y] = some (.bool (loopy y)) := pimp_eq ⟨y, h, rfl, rfl⟩ (by rintro _ ⟨y', h', e, rfl⟩; have e0 := (List.cons.inj e).1; have e0r := (List.cons.inj e).2; have q0 := rV_inj (by first | assumption | exact h | exact h.1 | exact h.1.1 | exact h.1.1.1 | exact h.2 | exact h.2.1 | exact h.2.2 | exact h.2.2.1) (by first | assumption | exact h' | exact h'.1 | exact h'.1.1 | exact h'.1.1.1 | exact h'.2 | exact h'.2.1 | exact h'.2.2 | exact h'.2.2.1) e0; subst q0; first | rfl | exact ⟨rfl, rfl⟩)
theorem iClo_call : ∀ xs v, iClo xs = some v → PCall Try.prog 48 xs v := fun xs v h0 => by obtain ⟨y, h, rfl, rfl⟩ := pimp_spec h0; exact w_closed y h
end Go.Hk.C
