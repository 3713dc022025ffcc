/- Layer 3: patterns by numbers, made. -/
import Derived.Test.YtbnhflckmfmkoaaHkCM1
set_option linter.unusedSimpArgs false
set_option linter.unusedVariables false
namespace Go.Hk.C
open Go.Proofs

theorem apX_T : appT Try.prog 28 28 = some ⟨30, 8, 80⟩ := by kernel_rfl
theorem apX_one {H : List ABlk} {T : List (Nat × (Nat × Nat))} {r r' : Rt} {l} {x} (hr : okR T r (l.length * 8) (8, 30) = true) (hn : l.length + 1 < 1000000000) : aappend Try.prog 28 28 ⟨H, T⟩ (.sl r l.length (fl cR l)) (.sl r' 1 (cR x)) = some (.sl (nxR T r) (l ++ [x]).length (fl cR (l ++ [x])), ⟨H, nxT T r ((l ++ [x]).length * 8) (8, 30)⟩) := app_fl apX_T (by decide) cR_len rfl hr hn
theorem apX_all {H : List ABlk} {T : List (Nat × (Nat × Nat))} {r r' : Rt} {l l'} (hr : okR T r (l.length * 8) (8, 30) = true) (hf : r = .full → l.length = 0 ∨ 0 < l'.length) (hn : l.length + l'.length < 1000000000) : aappend Try.prog 28 28 ⟨H, T⟩ (.sl r l.length (fl cR l)) (.sl r' l'.length (fl cR l')) = some (.sl (nxR T r) (l ++ l').length (fl cR (l ++ l')), ⟨H, nxT T r ((l ++ l').length * 8) (8, 30)⟩) := app_fls apX_T (by decide) cR_len hr hf hn
theorem apX_mk (mu : Bool) (m : AMem) {x} : abuildSlice Try.prog mu m 28 1 [(0, rV x)] = some (.sl .full 1 (cR x), m) := build_one ti28 ti30 rfl rfl (cR_len x) rfl (by decide) (by decide)
abbrev okJd (k : Int) (l : List Rx) : Prop := (∀ y ∈ l, okX y) ∧ l.length < 1000000 ∧ (flatK k l).length < 1000000
theorem w_joined (k : Int) (l : List Rx) (h : okJd k l) : PCall Try.prog 32 [.int .i64 k, slc cR l] (rV (joinX k l)) := by
  obtain ⟨hm, hl, hf⟩ := h
  rw [joinX_flat, ← rV_kids]
  refine PCall.of_w (fn := Try.f32) (Γ := gam []) (mu := false) Sound.nil mixed Try.func32 rfl (by kernel_rfl) (by simp) (by kernel_rfl) ?_
  simp (disch := first | assumption | omega | exact okR_new | exact okR_one | exact trivial | (simp only [List.length_append, List.length_cons, List.length_nil]; omega) | (simp only [List.length_append, List.length_cons, List.length_nil, Nat.reduceAdd])) only [go_sem, e_go, e_cond_bool, e_w_bool, e_step_ite, e_reg_ite, e_regW_ite, e_code_ite, e_block_ite, e_evQ_ite, e_fin_ite, e_pair_ite, Try.f32]
  refine w_loop [] [6] (fun x : Ls => l.length - x.i) (fun x => x.i ≤ l.length ∧ okR x.T x.r ((flatK k (l.take x.i)).length * 8) (8, 30) = true ∧ x.r ≠ .full)
    (fun x => ⟨[.cells 0 [.int .i64 0, .int .u64 0, .int .u64 0, .int .u64 0, .int .u64 0, .int .i64 0, .int .i64 0, .sl .nil 0 []], .cells 0 [.int .i64 k, .int .u64 0, .int .u64 0, .int .u64 0, .int .u64 0, .int .i64 0, .int .i64 0, .sl x.r (flatK k (l.take x.i)).length (fl cR (flatK k (l.take x.i)))]], x.T⟩)
    (fun x => [(6, .int .i64 (x.i : Nat))]) ⟨0, .nil, []⟩ (fun _ => rfl) (by kernel_rfl) (by simp [okR]) (by simp [flatK, fl]) (by simp [HasE, lk]) ?_
  rintro ⟨i, r, T⟩ ⟨hi, hr, hne⟩
  simp only at hi hr hne
  have hfi := flatK_le (k := k) (l := l) (i := i)
  by_cases h : i < l.length
  · have hg : l[i]? = some l[i] := by simp [h]
    have hat := fl_at cR_len hg
    have hle : i * 8 + 8 ≤ l.length * 8 := by omega
    have hk0 := fl_get0 cR_len hg (by decide)
    have hk7 := fl_get (j := 7) cR_len hg (by decide)
    have hcy := cR_eq l[i]
    rw [hcy] at hk0 hk7
    have hnx := flatK_next (k := k) hg
    have hfi2 := flatK_le (k := k) (l := l) (i := i + 1)
    have hok := hm _ (List.getElem_mem h)
    by_cases hk : l[i].k = k
    · have hfl : flat1 k l[i] = l[i].l := if_pos hk
      rw [hfl] at hnx
      rw [hnx, List.length_append] at hfi2
      generalize hM : flatK k (l.take i) = M at *
      have hff : r = .full → M.length = 0 ∨ 0 < l[i].l.length := fun h => absurd h hne
      simp (disch := first | assumption | omega | exact okR_new | exact okR_one | exact trivial | (simp only [List.length_append, List.length_cons, List.length_nil]; omega) | (simp only [List.length_append, List.length_cons, List.length_nil, Nat.reduceAdd])) only [go_sem, e_go, e_cond_bool, e_w_bool, e_step_ite, e_reg_ite, e_regW_ite, e_code_ite, e_block_ite, e_evQ_ite, e_fin_ite, e_pair_ite, Try.f32, hat, hk0, hk7, apX_all]
      refine ⟨⟨i + 1, nxR T r, nxT T r ((M ++ l[i].l).length * 8) (8, 30)⟩, ?_, ⟨h, ?_, nxR_ne⟩, ?_, ?_⟩
      · show l.length - (i + 1) < l.length - i
        omega
      · show okR _ _ ((flatK k (l.take (i + 1))).length * 8) _ = true
        rw [hnx]; exact okR_app hr
      · simp only [hnx, List.length_append]
      · simp [HasE, lk]
    · have hfl : flat1 k l[i] = [l[i]] := if_neg hk
      rw [hfl] at hnx
      rw [hnx, List.length_append] at hfi2
      generalize hM : flatK k (l.take i) = M at *
      simp (disch := first | assumption | omega | exact okR_new | exact okR_one | exact trivial | (simp only [List.length_append, List.length_cons, List.length_nil]; omega) | (simp only [List.length_append, List.length_cons, List.length_nil, Nat.reduceAdd])) only [go_sem, e_go, e_cond_bool, e_w_bool, e_step_ite, e_reg_ite, e_regW_ite, e_code_ite, e_block_ite, e_evQ_ite, e_fin_ite, e_pair_ite, Try.f32, hat, hk0, hk7, apX_mk, apX_one]
      refine ⟨⟨i + 1, nxR T r, nxT T r ((M ++ [l[i]]).length * 8) (8, 30)⟩, ?_, ⟨h, ?_, nxR_ne⟩, ?_, ?_⟩
      · show l.length - (i + 1) < l.length - i
        omega
      · show okR _ _ ((flatK k (l.take (i + 1))).length * 8) _ = true
        rw [hnx]; exact okR_app hr
      · simp only [hnx, List.length_append, List.length_cons, List.length_nil]
      · simp [HasE, lk]
  · have hi' : i = l.length := by omega
    subst hi'
    rw [List.take_length] at hr
    simp (disch := first | assumption | omega | exact okR_new | exact okR_one | exact trivial | (simp only [List.length_append, List.length_cons, List.length_nil]; omega) | (simp only [List.length_append, List.length_cons, List.length_nil, Nat.reduceAdd])) only [go_sem, e_go, e_cond_bool, e_w_bool, e_step_ite, e_reg_ite, e_regW_ite, e_code_ite, e_block_ite, e_evQ_ite, e_fin_ite, e_pair_ite, Try.f32, List.take_length]
noncomputable def iJd : List AVal → Option AVal := pimp fun xs r => ∃ (k : Int) (l : List Rx), (okJd k l) ∧ xs = [.int .i64 k, slc cR l] ∧ r = rV (joinX k l)
theorem iJd_eq {k : Int} {l : List Rx} (h : okJd k l) : iJd [.int .i64 k, slc cR l] = some (rV (joinX k l)) := pimp_eq ⟨k, l, h, rfl, rfl⟩ (by rintro _ ⟨k', l', h', e, rfl⟩; have e0 := (List.cons.inj e).1; have e1 := (List.cons.inj (List.cons.inj e).2).1; have q0 := (AVal.int.inj e0).2; have q1 := slc_inj cR_len (fun a ha b hb e => cR_inj' a (h.1 a ha) b (h'.1 b hb) e) e1; subst q0; subst q1; rfl)
theorem iJd_call : ∀ xs v, iJd xs = some v → PCall Try.prog 32 xs v := fun xs v h0 => by obtain ⟨k, l, h, rfl, rfl⟩ := pimp_spec h0; exact w_joined k l h
end Go.Hk.C
