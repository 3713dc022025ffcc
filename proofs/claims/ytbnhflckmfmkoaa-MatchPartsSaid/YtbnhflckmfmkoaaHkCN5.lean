/- Layer 5: where a pattern ends. -/
import Derived.Test.YtbnhflckmfmkoaaHkCN4
set_option linter.unusedSimpArgs false
set_option linter.unusedVariables false
set_option maxRecDepth 20000
namespace Go.Hk.C
open Go.Proofs


theorem w_Ends (x : Rx) (s : List UInt8) (i : Int) (hx : okX x) (hl : s.length < 9223372036854775808) : PCall Try.prog 13 [rV x, .str s, .int .i64 i] (slc cI (endsL x s i)) := by
  refine PCall.of_w (fn := Try.f13) (Γ := gam [(23, .pure iRt), (24, .raw iSo), (25, .raw iKeys), (26, .raw (iBh (sz x + 1)))]) (mu := false) (Sound.pure iRt_call (Sound.raw iSo_call (Sound.raw iKeys_call (Sound.raw (iBh_call (sz x + 1)) Sound.nil)))) mixed Try.func13 rfl (by kernel_rfl) (by simp) (by kernel_rfl) ?_
  unfold endsL
  by_cases h : rightT x = true ∧ s.length ≤ 10000 ∧ 0 ≤ i ∧ i ≤ s.length
  · obtain ⟨h1, h2, h3, h4⟩ := h
    obtain ⟨k, rfl⟩ := Int.eq_ofNat_of_zero_le h3
    rw [if_pos ⟨h1, h2, h3, h4⟩]
    have hr : inR x := ⟨20, by simp only [rightT, Bool.and_eq_true] at h1; exact h1.1.1⟩
    have hkl : k ≤ s.length := by omega
    obtain ⟨S, hS⟩ : ∃ S, cset (s.length + 1) (R s x k) = S := ⟨_, rfl⟩
    have hSn : S.Nodup := by rw [← hS]; exact cset_nodup
    have hSl : S.length ≤ s.length + 1 := by rw [← hS]; exact cset_len
    have hSm : ∀ j ∈ S, j < s.length + 1 := fun j hj => by rw [← hS] at hj; exact (cset_mem.1 hj).1
    have hput : amput Try.prog 56 ⟨[.cells 0 (cR x), .cells 0 [.str s], .amap []], []⟩ (.map 2) (.int .i64 (k : Int)) (.agg []) = some (.undef, ⟨[.cells 0 (cR x), .cells 0 [.str s], .amap (sents [k])], []⟩) := by
      have := set_put (P := Try.prog) (t := 56) (H := [.cells 0 (cR x), .cells 0 [.str s], .amap []]) (T := []) (b := 2) (ks := []) (k := k) ti56 rfl ti3 rfl rfl List.nodup_nil rfl
      rw [this]; rfl
    have hB : iBh (sz x + 1) [.ptr 1 0 0, rV x, .map 2] ⟨[.cells 0 (cR x), .cells 0 [.str s], .amap (sents [k])], []⟩ = some (.map 3, ⟨[.cells 0 (cR x), .cells 0 [.str s], .amap (sents [k]), .amap (sents S)], []⟩) := by
      have := iBh_eq (n := sz x + 1) (x := x) (G := [.cells 0 (cR x), .cells 0 [.str s], .amap (sents [k])]) (T := []) (p := 1) (b := 2) (t := s) (ks := [k]) ⟨rfl, rfl, by simp, by omega, by simpa using hkl, by simp only [shut, List.all_cons, cR_clo0, sents_cloB, List.all_nil, Bool.and_true]; rfl⟩ hx hr (Nat.lt_succ_self _)
      rw [this, Im_one, hS]; rfl
    have hK : iKeys [.map 3] ⟨[.cells 0 (cR x), .cells 0 [.str s], .amap (sents [k]), .amap (sents S)], []⟩ = some (.fn 39 [] [.ptr 4 0 0], ⟨[.cells 0 (cR x), .cells 0 [.str s], .amap (sents [k]), .amap (sents S), .cells 0 [.map 3]], []⟩) :=
      iKeys_eq (G := [.cells 0 (cR x), .cells 0 [.str s], .amap (sents [k]), .amap (sents S)]) (T := []) (b := 3) ⟨by simp, by simp only [shut, List.all_cons, cR_clo0, sents_cloB, List.all_nil, Bool.and_true]; rfl⟩
    have hO : iSo [.fn 39 [] [.ptr 4 0 0]] ⟨[.cells 0 (cR x), .cells 0 [.str s], .amap (sents [k]), .amap (sents S), .cells 0 [.map 3]], []⟩ = some (slc cI (S.map fun k : Nat => (k : Int)), ⟨[.cells 0 (cR x), .cells 0 [.str s], .amap (sents [k]), .amap (sents S), .cells 0 [.map 3]], []⟩) := by
      have := iSo_eq (G := [.cells 0 (cR x), .cells 0 [.str s], .amap (sents [k]), .amap (sents S), .cells 0 [.map 3]]) (T := []) (c := 4) (b := 3) (ks := S) ⟨rfl, rfl, hSn, by omega, fun j hj => by have := hSm j hj; omega⟩
      rw [← hS, cset_sorted] at this
      rw [← hS]
      exact this
    simp (disch := first | assumption | omega | exact okR_new | exact okR_one | exact trivial | (simp only [List.length_append, List.length_cons, List.length_nil]; omega) | (simp only [List.length_append, List.length_cons, List.length_nil, Nat.reduceAdd])) only [go_sem, e_go, e_cond_bool, e_w_bool, e_step_ite, e_reg_ite, e_regW_ite, e_code_ite, e_block_ite, e_evQ_ite, e_fin_ite, e_pair_ite, Try.f13, iRt_eq, iSo_eq, iKeys_eq, l_s_cR, h1, hput, hB, hK, hO, hS]
  · rw [if_neg h]
    have hnil : AVal.sl .no 0 [] = slc cI [] := rfl
    cases h1 : rightT x
    · simp (disch := first | assumption | omega | exact okR_new | exact okR_one | exact trivial | (simp only [List.length_append, List.length_cons, List.length_nil]; omega) | (simp only [List.length_append, List.length_cons, List.length_nil, Nat.reduceAdd])) only [go_sem, e_go, e_cond_bool, e_w_bool, e_step_ite, e_reg_ite, e_regW_ite, e_code_ite, e_block_ite, e_evQ_ite, e_fin_ite, e_pair_ite, Try.f13, iRt_eq, iSo_eq, iKeys_eq, l_s_cR, h1, hnil]
    · by_cases h2 : s.length ≤ 10000
      · by_cases h3 : 0 ≤ i
        · have h4 : ¬ i ≤ s.length := fun h4 => h ⟨h1, h2, h3, h4⟩
          simp (disch := first | assumption | omega | exact okR_new | exact okR_one | exact trivial | (simp only [List.length_append, List.length_cons, List.length_nil]; omega) | (simp only [List.length_append, List.length_cons, List.length_nil, Nat.reduceAdd])) only [go_sem, e_go, e_cond_bool, e_w_bool, e_step_ite, e_reg_ite, e_regW_ite, e_code_ite, e_block_ite, e_evQ_ite, e_fin_ite, e_pair_ite, Try.f13, iRt_eq, iSo_eq, iKeys_eq, l_s_cR, h1, hnil]
        · simp (disch := first | assumption | omega | exact okR_new | exact okR_one | exact trivial | (simp only [List.length_append, List.length_cons, List.length_nil]; omega) | (simp only [List.length_append, List.length_cons, List.length_nil, Nat.reduceAdd])) only [go_sem, e_go, e_cond_bool, e_w_bool, e_step_ite, e_reg_ite, e_regW_ite, e_code_ite, e_block_ite, e_evQ_ite, e_fin_ite, e_pair_ite, Try.f13, iRt_eq, iSo_eq, iKeys_eq, l_s_cR, h1, hnil]
      · simp (disch := first | assumption | omega | exact okR_new | exact okR_one | exact trivial | (simp only [List.length_append, List.length_cons, List.length_nil]; omega) | (simp only [List.length_append, List.length_cons, List.length_nil, Nat.reduceAdd])) only [go_sem, e_go, e_cond_bool, e_w_bool, e_step_ite, e_reg_ite, e_regW_ite, e_code_ite, e_block_ite, e_evQ_ite, e_fin_ite, e_pair_ite, Try.f13, iRt_eq, iSo_eq, iKeys_eq, l_s_cR, h1, hnil]
noncomputable def iEnds : List AVal → Option AVal := pimp fun xs r => ∃ (x : Rx) (s : List UInt8) (i : Int), (okX x ∧ s.length < 9223372036854775808) ∧ xs = [rV x, .str s, .int .i64 i] ∧ r = slc cI (endsL x s i)
theorem iEnds_eq {x : Rx} {s : List UInt8} {i : Int} (h : okX x ∧ s.length < 9223372036854775808) : iEnds [rV x, .str s, .int .i64 i] = some (slc cI (endsL x s i)) := pimp_eq ⟨x, s, i, h, rfl, rfl⟩ (by rintro _ ⟨x', s', i', h', e, rfl⟩; have e0 := (List.cons.inj e).1; have e0r := (List.cons.inj e).2; have e1 := (List.cons.inj e0r).1; have e1r := (List.cons.inj e0r).2; have e2 := (List.cons.inj e1r).1; have e2r := (List.cons.inj e1r).2; have q0 := rV_inj (by first | assumption | exact h | exact h.1 | exact h.1.1 | exact h.1.1.1 | exact h.2 | exact h.2.1 | exact h.2.2 | exact h.2.2.1) (by first | assumption | exact h' | exact h'.1 | exact h'.1.1 | exact h'.1.1.1 | exact h'.2 | exact h'.2.1 | exact h'.2.2 | exact h'.2.2.1) e0; have q1 := AVal.str.inj e1; have q2 := (AVal.int.inj e2).2; subst q0; subst q1; subst q2; first | rfl | exact ⟨rfl, rfl⟩)
theorem iEnds_call : ∀ xs v, iEnds xs = some v → PCall Try.prog 13 xs v := fun xs v h0 => by obtain ⟨x, s, i, h, rfl, rfl⟩ := pimp_spec h0; exact w_Ends x s i h.1 h.2
theorem w_Index (l : List Int) (v : Int) (h : l.length < 9223372036854775808) : PCall Try.prog 33 [slc cI l, .int .i64 v] (.int .i64 (idx (fun y => decide (v = y)) l)) := by
  refine PCall.of_w (fn := Try.f33) (Γ := gam []) (mu := false) Sound.nil mixed Try.func33 rfl (by kernel_rfl) (by simp) (by kernel_rfl) ?_
  simp (disch := first | assumption | omega | exact okR_new | exact okR_one | exact trivial | (simp only [List.length_append, List.length_cons, List.length_nil]; omega) | (simp only [List.length_append, List.length_cons, List.length_nil, Nat.reduceAdd])) only [go_sem, e_go, e_cond_bool, e_w_bool, e_step_ite, e_reg_ite, e_regW_ite, e_code_ite, e_block_ite, e_evQ_ite, e_fin_ite, e_pair_ite, Try.f33]
  refine w_loop [4] [8] (fun i : Nat => l.length - i) (fun i => i ≤ l.length ∧ ∀ y ∈ l.take i, decide (v = y) = false) (fun i => ⟨[], []⟩)
    (fun i => [(8, .int .i64 (i : Nat))]) 0 (fun _ => rfl) (by kernel_rfl) ⟨Nat.zero_le _, by simp⟩ rfl (by simp [HasE, lk]) ?_
  rintro i ⟨hi, hq⟩
  by_cases h : i < l.length
  · have hg : l[i]? = some l[i] := by simp [h]
    have hat : (fl cI l)[i]? = some (.int .i64 l[i]) := fl_cI_get hg
    have hw : IntKind.i64.wrap ((i : Int) + 1) = (i : Int) + 1 := IntWalk.i64_in _ (by omega)
    cases hp : decide (v = l[i])
    · simp (disch := first | assumption | omega | exact okR_new | exact okR_one | exact trivial | (simp only [List.length_append, List.length_cons, List.length_nil]; omega) | (simp only [List.length_append, List.length_cons, List.length_nil, Nat.reduceAdd])) only [go_sem, e_go, e_cond_bool, e_w_bool, e_step_ite, e_reg_ite, e_regW_ite, e_code_ite, e_block_ite, e_evQ_ite, e_fin_ite, e_pair_ite, Try.f33, hat, hp, hw]
      exact ⟨i + 1, dn h, ⟨h, upto_next hq hg hp⟩, rfl, by simp [HasE, lk]⟩
    · simp (disch := first | assumption | omega | exact okR_new | exact okR_one | exact trivial | (simp only [List.length_append, List.length_cons, List.length_nil]; omega) | (simp only [List.length_append, List.length_cons, List.length_nil, Nat.reduceAdd])) only [go_sem, e_go, e_cond_bool, e_w_bool, e_step_ite, e_reg_ite, e_regW_ite, e_code_ite, e_block_ite, e_evQ_ite, e_fin_ite, e_pair_ite, Try.f33, hat, hp, hw]
      rw [idx_at (p := fun y => decide (v = y)) hg hq hp]
  · have hi' : i = l.length := by omega
    subst hi'
    rw [List.take_length] at hq
    have hno := idx_none hq
    simp (disch := first | assumption | omega | exact okR_new | exact okR_one | exact trivial | (simp only [List.length_append, List.length_cons, List.length_nil]; omega) | (simp only [List.length_append, List.length_cons, List.length_nil, Nat.reduceAdd])) only [go_sem, e_go, e_cond_bool, e_w_bool, e_step_ite, e_reg_ite, e_regW_ite, e_code_ite, e_block_ite, e_evQ_ite, e_fin_ite, e_pair_ite, Try.f33, hno]
noncomputable def iIdx : List AVal → Option AVal := pimp fun xs r => ∃ (l : List Int) (v : Int), (l.length < 9223372036854775808) ∧ xs = [slc cI l, .int .i64 v] ∧ r = .int .i64 (idx (fun y => decide (v = y)) l)
theorem iIdx_eq {l : List Int} {v : Int} (h : l.length < 9223372036854775808) : iIdx [slc cI l, .int .i64 v] = some (.int .i64 (idx (fun y => decide (v = y)) l)) := pimp_eq ⟨l, v, h, rfl, rfl⟩ (by rintro _ ⟨l', v', h', e, rfl⟩; have e0 := (List.cons.inj e).1; have e0r := (List.cons.inj e).2; have e1 := (List.cons.inj e0r).1; have e1r := (List.cons.inj e0r).2; have q0 := slc_inj cI_len (fun _ _ _ _ => cI_inj) e0; have q1 := (AVal.int.inj e1).2; subst q0; subst q1; first | rfl | exact ⟨rfl, rfl⟩)
theorem iIdx_call : ∀ xs v, iIdx xs = some v → PCall Try.prog 33 xs v := fun xs v h0 => by obtain ⟨l, v, h, rfl, rfl⟩ := pimp_spec h0; exact w_Index l v h
theorem w_Contains (l : List Int) (v : Int) (h : l.length < 9223372036854775808) : PCall Try.prog 22 [slc cI l, .int .i64 v] (.bool (decide (v ∈ l))) := by
  have hm : decide (v ∈ l) = decide (0 ≤ idx (fun y => decide (v = y)) l) := by
    rw [idx_any, Bool.eq_iff_iff]
    simp
  rw [hm]
  refine PCall.of_w (fn := Try.f22) (Γ := gam [(33, .pure iIdx)]) (mu := false) (Sound.pure iIdx_call Sound.nil) mixed Try.func22 rfl (by kernel_rfl) (by simp) (by kernel_rfl) ?_
  simp (disch := first | assumption | omega | exact okR_new | exact okR_one | exact trivial | (simp only [List.length_append, List.length_cons, List.length_nil]; omega) | (simp only [List.length_append, List.length_cons, List.length_nil, Nat.reduceAdd])) only [go_sem, e_go, e_cond_bool, e_w_bool, e_step_ite, e_reg_ite, e_regW_ite, e_code_ite, e_block_ite, e_evQ_ite, e_fin_ite, e_pair_ite, Try.f22, iIdx_eq]
noncomputable def iCont : List AVal → Option AVal := pimp fun xs r => ∃ (l : List Int) (v : Int), (l.length < 9223372036854775808) ∧ xs = [slc cI l, .int .i64 v] ∧ r = .bool (decide (v ∈ l))
theorem iCont_eq {l : List Int} {v : Int} (h : l.length < 9223372036854775808) : iCont [slc cI l, .int .i64 v] = some (.bool (decide (v ∈ l))) := pimp_eq ⟨l, v, h, rfl, rfl⟩ (by rintro _ ⟨l', v', h', e, rfl⟩; have e0 := (List.cons.inj e).1; have e0r := (List.cons.inj e).2; have e1 := (List.cons.inj e0r).1; have e1r := (List.cons.inj e0r).2; have q0 := slc_inj cI_len (fun _ _ _ _ => cI_inj) e0; have q1 := (AVal.int.inj e1).2; subst q0; subst q1; first | rfl | exact ⟨rfl, rfl⟩)
theorem iCont_call : ∀ xs v, iCont xs = some v → PCall Try.prog 22 xs v := fun xs v h0 => by obtain ⟨l, v, h, rfl, rfl⟩ := pimp_spec h0; exact w_Contains l v h
theorem endsL_len (x : Rx) (s : List UInt8) (i : Int) : (endsL x s i).length < 9223372036854775808 := by
  unfold endsL
  split
  · rename_i h
    have := cset_len (n := s.length + 1) (S := R s x i.toNat)
    simp only [List.length_map]
    omega
  · simp
theorem w_Match (x : Rx) (s : List UInt8) (h : okX x ∧ s.length < 9223372036854775808) : PCall Try.prog 11 [rV x, .str s] (.bool (decide ((s.length : Int) ∈ endsL x s 0))) := by
  have hl := endsL_len x s 0
  refine PCall.of_w (fn := Try.f11) (Γ := gam [(13, .pure iEnds), (22, .pure iCont)]) (mu := false) (Sound.pure iEnds_call (Sound.pure iCont_call Sound.nil)) mixed Try.func11 rfl (by kernel_rfl) (by simp) (by kernel_rfl) ?_
  simp (disch := first | assumption | omega | exact okR_new | exact okR_one | exact trivial | (simp only [List.length_append, List.length_cons, List.length_nil]; omega) | (simp only [List.length_append, List.length_cons, List.length_nil, Nat.reduceAdd])) only [go_sem, e_go, e_cond_bool, e_w_bool, e_step_ite, e_reg_ite, e_regW_ite, e_code_ite, e_block_ite, e_evQ_ite, e_fin_ite, e_pair_ite, Try.f11, iEnds_eq, iCont_eq]
noncomputable def iMat : List AVal → Option AVal := pimp fun xs r => ∃ (x : Rx) (s : List UInt8), (okX x ∧ s.length < 9223372036854775808) ∧ xs = [rV x, .str s] ∧ r = .bool (decide ((s.length : Int) ∈ endsL x s 0))
theorem iMat_eq {x : Rx} {s : List UInt8} (h : okX x ∧ s.length < 9223372036854775808) : iMat [rV x, .str s] = some (.bool (decide ((s.length : Int) ∈ endsL x s 0))) := pimp_eq ⟨x, s, h, rfl, rfl⟩ (by rintro _ ⟨x', s', h', e, rfl⟩; have e0 := (List.cons.inj e).1; have e0r := (List.cons.inj e).2; have e1 := (List.cons.inj e0r).1; have e1r := (List.cons.inj e0r).2; have q0 := rV_inj (by first | assumption | exact h | exact h.1 | exact h.1.1 | exact h.1.1.1 | exact h.2 | exact h.2.1 | exact h.2.2 | exact h.2.2.1) (by first | assumption | exact h' | exact h'.1 | exact h'.1.1 | exact h'.1.1.1 | exact h'.2 | exact h'.2.1 | exact h'.2.2 | exact h'.2.2.1) e0; have q1 := AVal.str.inj e1; subst q0; subst q1; first | rfl | exact ⟨rfl, rfl⟩)
theorem iMat_call : ∀ xs v, iMat xs = some v → PCall Try.prog 11 xs v := fun xs v h0 => by obtain ⟨x, s, h, rfl, rfl⟩ := pimp_spec h0; exact w_Match x s h
end Go.Hk.C
