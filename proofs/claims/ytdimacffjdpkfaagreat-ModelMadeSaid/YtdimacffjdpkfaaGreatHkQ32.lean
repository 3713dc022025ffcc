import Derived.Test.YtdimacffjdpkfaaGreatHkQ31
import Derived.Test.YtdimacffjdpkfaaGreatHkQ21
set_option linter.unusedSimpArgs false
set_option linter.unusedVariables false
set_option maxRecDepth 20000
namespace Go.Hk.MZ
open Go.Proofs

theorem w_May (x : Rx) (s : List UInt8) (h : okX x) (hl : s.length < 9223372036854775808) : PCall Tryz.prog 67 [rV x, .str s] (.bool (rightT x && decide ((s.length : Int) ≤ 10000))) := by
  refine PCall.of_w (fn := Tryz.f67) (Γ := gam [(86, .pure iRtR)]) (mu := false) (Sound.pure iRtR_call Sound.nil) mixed Tryz.func67 rfl (by kernel_rfl) (by simp) (by kernel_rfl) ?_
  cases h1 : rightT x
  · simp (disch := first | assumption | omega | exact okR_new | exact okR_one | exact trivial | (simp only [lnA, lnC, lnN]; omega) | (simp only [lnA, lnC, lnN, Nat.reduceAdd])) only [go_sem, e_go, e_cond_bool, e_w_bool, e_step_ite, e_reg_ite, e_regW_ite, e_code_ite, e_block_ite, e_evQ_ite, e_fin_ite, e_pair_ite, Tryz.f67, iRtR_eq, h1]
    rfl
  · simp (disch := first | assumption | omega | exact okR_new | exact okR_one | exact trivial | (simp only [lnA, lnC, lnN]; omega) | (simp only [lnA, lnC, lnN, Nat.reduceAdd])) only [go_sem, e_go, e_cond_bool, e_w_bool, e_step_ite, e_reg_ite, e_regW_ite, e_code_ite, e_block_ite, e_evQ_ite, e_fin_ite, e_pair_ite, Tryz.f67, iRtR_eq, h1]
noncomputable def iMay : List AVal → Option AVal := pimp fun xs r => ∃ (x : Rx) (s : List UInt8), (okX x ∧ s.length < 9223372036854775808) ∧ xs = [rV x, .str s] ∧ r = .bool (rightT x && decide ((s.length : Int) ≤ 10000))
theorem iMay_eq {x : Rx} {s : List UInt8} (h : okX x ∧ s.length < 9223372036854775808) : iMay [rV x, .str s] = some (.bool (rightT x && decide ((s.length : Int) ≤ 10000))) := pimp_eq ⟨x, s, h, rfl, rfl⟩ (by rintro _ ⟨x', s', h', e, rfl⟩; have e0 := (List.cons.inj e).1; have e0r := (List.cons.inj e).2; have e1 := (List.cons.inj e0r).1; have e1r := (List.cons.inj e0r).2; have q0 := rV_inj (by first | assumption | exact h | exact h.1 | exact h.1.1 | exact h.1.1.1 | exact h.2 | exact h.2.1 | exact h.2.2 | exact h.2.2.1) (by first | assumption | exact h' | exact h'.1 | exact h'.1.1 | exact h'.1.1.1 | exact h'.2 | exact h'.2.1 | exact h'.2.2 | exact h'.2.2.1) e0; have q1 := AVal.str.inj e1; subst q0; subst q1; first | rfl | exact ⟨rfl, rfl⟩)
theorem iMay_call : ∀ xs v, iMay xs = some v → PCall Tryz.prog 67 xs v := fun xs v h0 => by obtain ⟨x, s, h, rfl, rfl⟩ := pimp_spec h0; exact w_May x s h.1 h.2
theorem apI5_T : appT Tryz.prog 41 41 = some ⟨3, 1, 8⟩ := by kernel_rfl
theorem apI5_one {H : List ABlk} {T : List (Nat × (Nat × Nat))} {r r' : Rt} {l} {x} (hr : okR T r l.length (1, 3) = true) (hn : l.length + 1 < 1000000000) : aappend Tryz.prog 41 41 ⟨H, T⟩ (.sl r l.length (fl cI l)) (.sl r' 1 (cI x)) = some (.sl (nxR T r) (l ++ [x]).length (fl cI (l ++ [x])), ⟨H, nxT T r (l ++ [x]).length (1, 3)⟩) := app_fl1 apI5_T (by decide) cI_len rfl hr hn
theorem apI5_mk (mu : Bool) (m : AMem) {x} : abuildSlice Tryz.prog mu m 41 1 [(0, .int .i64 x)] = some (.sl .full 1 (cI x), m) := build_one ti41 ti3 rfl rfl (cI_len x) rfl (by decide) (by decide)
theorem w_EndsR1 (x : Rx) (s : List UInt8) (i : Int) (hx : okX x) (hl : s.length < 9223372036854775808) (h : rightT x = true ∧ s.length ≤ 10000 ∧ 0 ≤ i ∧ i ≤ s.length) : PCall Tryz.prog 45 [rV x, .str s, .int .i64 i] (slc cI (endsL x s i)) := by
  unfold endsL
  have hok : okX x ∧ s.length < 9223372036854775808 := ⟨hx, hl⟩
  refine PCall.of_cut (fn := Tryz.f45) (Γ := gam [(67, .pure iMay), (68, .pure iSt)]) (mu := true) (Γ' := gam [(67, .pure iMay), (68, .pure iSt)]) (mu' := false) 4 (Sound.pure iMay_call (Sound.pure iSt_call Sound.nil)) (Sound.pure iMay_call (Sound.pure iSt_call Sound.nil)) mixed Tryz.func45 rfl (by kernel_rfl) (by simp) rfl (by kernel_rfl) (by kernel_rfl) ?_; simp only [e_preC, e_preC0, e_postC, e_postC0]; intro K hK
  obtain ⟨h1, h2, h3, h4⟩ := h
  obtain ⟨k, rfl⟩ := Int.eq_ofNat_of_zero_le h3
  rw [if_pos ⟨h1, h2, h3, h4⟩] at hK ⊢
  have hkl : k < s.length + 1 := by omega
  have hr : inR x := ⟨20, by simp only [rightT, Bool.and_eq_true] at h1; exact h1.1.1⟩
  have hd : decide ((s.length : Int) ≤ 10000) = true := by simp; omega
  have hmay : iMay [rV x, .str s] = some (.bool true) := by rw [iMay_eq hok, h1, hd]; rfl
  have hrep : List.replicate (s.length + 1) (AVal.bool false) = fl cB (bset (s.length + 1) fun _ => False) := by rw [bset_false (fun _ _ h => h), fl_cB_map]; simp
  have hw : IntKind.i64.wrap ((s.length : Int) + 1) = (s.length : Int) + 1 := IntWalk.i64_in _ (by omega)
  have htn : ((s.length : Int) + 1).toNat = s.length + 1 := by omega
  have hlb : ∀ S, (fl cB (bset (s.length + 1) S)).length = s.length + 1 := fun S => by rw [fl_len cB_len, bset_len, Nat.mul_one]
  simp (disch := first | assumption | omega | exact okR_new | exact okR_one | exact trivial | (simp only [lnA, lnC, lnN]; omega) | (simp only [lnA, lnC, lnN, Nat.reduceAdd])) only [go_sem, e_go, e_cond_bool, e_w_bool, e_step_ite, e_reg_ite, e_regW_ite, e_code_ite, e_block_ite, e_evQ_ite, e_fin_ite, e_pair_ite, Tryz.f45, iMay_eq, iSt_eq, h1, hmay, hw, htn, hrep, hlb]
  have hset : (fl cB (bset (s.length + 1) fun _ => False)).set k (.bool true) = fl cB (bset (s.length + 1) fun j => j = k) := by
    rw [fl_cB_set, bset_set (S' := fun j => j = k) (by omega) (by simp) (fun j _ hj => by simp [hj])]
  rw [hset]
  refine hK _ [(3, .ipt (cR x) 0), (7, slc cB (bset (s.length + 1) fun j => j = k)), (1, .str s)] ?_ ?_
  · intro p hp
    simp only [List.mem_cons, List.not_mem_nil, or_false] at hp
    rcases hp with rfl | rfl | rfl
    · simp (disch := first | assumption | omega | exact okR_new | exact okR_one | exact trivial | (simp only [lnA, lnC, lnN]; omega) | (simp only [lnA, lnC, lnN, Nat.reduceAdd])) only [go_sem, e_go, e_cond_bool, e_w_bool, e_step_ite, e_reg_ite, e_regW_ite, e_code_ite, e_block_ite, e_evQ_ite, e_fin_ite, e_pair_ite, Tryz.f45, iMay_eq, iSt_eq]
    · simp (disch := first | assumption | omega | exact okR_new | exact okR_one | exact trivial | (simp only [lnA, lnC, lnN]; omega) | (simp only [lnA, lnC, lnN, Nat.reduceAdd])) only [go_sem, e_go, e_cond_bool, e_w_bool, e_step_ite, e_reg_ite, e_regW_ite, e_code_ite, e_block_ite, e_evQ_ite, e_fin_ite, e_pair_ite, Tryz.f45, iMay_eq, iSt_eq, hlb]
      rw [slc, bset_len]
    · simp (disch := first | assumption | omega | exact okR_new | exact okR_one | exact trivial | (simp only [lnA, lnC, lnN]; omega) | (simp only [lnA, lnC, lnN, Nat.reduceAdd])) only [go_sem, e_go, e_cond_bool, e_w_bool, e_step_ite, e_reg_ite, e_regW_ite, e_code_ite, e_block_ite, e_evQ_ite, e_fin_ite, e_pair_ite, Tryz.f45, iMay_eq, iSt_eq]
  · have hfin : bset (s.length + 1) (ImP (R s x) (isT (bset (s.length + 1) fun j => j = k))) = bset (s.length + 1) (R s x k) := bset_congr fun j _ => by
      constructor
      · rintro ⟨i, a, b⟩
        have := (isT_bset.1 a).2
        subst this; exact b
      · intro hj; exact ⟨k, isT_bset.2 ⟨hkl, rfl⟩, hj⟩
    have hst := iSt_eq (x := x) (t := s) (L := bset (s.length + 1) fun j => j = k) ⟨hx, hr, bset_len, by omega⟩
    rw [hfin] at hst
    have hres : plT (bset (s.length + 1) (R s x k)) (s.length + 1) = (cset (s.length + 1) (R s x k)).map fun j : Nat => (j : Int) := plT_bset
    obtain ⟨B, hB⟩ : ∃ B, bset (s.length + 1) (R s x k) = B := ⟨_, rfl⟩
    have hBl : B.length = s.length + 1 := by rw [← hB, bset_len]
    rw [hB] at hst hres
    simp (disch := first | assumption | omega | exact okR_new | exact okR_one | exact trivial | (simp only [lnA, lnC, lnN]; omega) | (simp only [lnA, lnC, lnN, Nat.reduceAdd])) only [go_sem, e_go, e_cond_bool, e_w_bool, e_step_ite, e_reg_ite, e_regW_ite, e_code_ite, e_block_ite, e_evQ_ite, e_fin_ite, e_pair_ite, Tryz.f45, iMay_eq, iSt_eq, hst, Int.toNat_natCast]
    refine w_loop [] [9, 10] (fun x : Ls => B.length - x.i) (fun x => x.i ≤ B.length ∧ okR x.T x.r (plT B x.i).length (1, 3) = true) (fun x => ⟨[], x.T⟩)
      (fun x => [(9, .sl x.r (plT B x.i).length (fl cI (plT B x.i))), (10, .int .i64 (x.i : Nat))]) ⟨0, .nil, []⟩ (fun _ => rfl) (by kernel_rfl) (by simp [okR, plT]) rfl (by simp [HasE, lk, plT, fl]) ?_
    rintro ⟨i, r, T⟩ ⟨hi, hr2⟩
    simp only at hi hr2
    by_cases h5 : i < B.length
    · have hg := fl_cB_get (l := B) (i := i) (x := B[i]) (by simp [h5])
      have hw : IntKind.i64.wrap ((i : Int) + 1) = (i : Int) + 1 := IntWalk.i64_in _ (by omega)
      have hnx := plT_next h5
      have hpl := plT_len (L := B) (i := i)
      cases hb : B[i] <;> simp only [hb, if_true, if_false, Bool.false_eq_true] at hnx hg
      · simp (disch := first | assumption | omega | exact okR_new | exact okR_one | exact trivial | (simp only [lnA, lnC, lnN]; omega) | (simp only [lnA, lnC, lnN, Nat.reduceAdd])) only [go_sem, e_go, e_cond_bool, e_w_bool, e_step_ite, e_reg_ite, e_regW_ite, e_code_ite, e_block_ite, e_evQ_ite, e_fin_ite, e_pair_ite, Tryz.f45, iMay_eq, iSt_eq, hg, hw, apI5_mk, apI5_one]
        exact ⟨⟨i + 1, r, T⟩, dn h5, ⟨h5, by simp only [hnx]; exact hr2⟩, rfl, by simp only [HasE, lk, hnx]; simp⟩
      · simp (disch := first | assumption | omega | exact okR_new | exact okR_one | exact trivial | (simp only [lnA, lnC, lnN]; omega) | (simp only [lnA, lnC, lnN, Nat.reduceAdd])) only [go_sem, e_go, e_cond_bool, e_w_bool, e_step_ite, e_reg_ite, e_regW_ite, e_code_ite, e_block_ite, e_evQ_ite, e_fin_ite, e_pair_ite, Tryz.f45, iMay_eq, iSt_eq, hg, hw, apI5_mk, apI5_one]
        exact ⟨⟨i + 1, nxR T r, _⟩, dn h5, ⟨h5, by simp only [hnx, lnA, lnC, lnN, Nat.zero_add]; exact okR_nx hr2⟩, rfl, by simp only [HasE, lk, hnx]; simp⟩
    · have hi' : i = s.length + 1 := by omega
      subst hi'
      simp (disch := first | assumption | omega | exact okR_new | exact okR_one | exact trivial | (simp only [lnA, lnC, lnN]; omega) | (simp only [lnA, lnC, lnN, Nat.reduceAdd])) only [go_sem, e_go, e_cond_bool, e_w_bool, e_step_ite, e_reg_ite, e_regW_ite, e_code_ite, e_block_ite, e_evQ_ite, e_fin_ite, e_pair_ite, Tryz.f45, iMay_eq, iSt_eq, hres, slc]
theorem w_EndsR2 (x : Rx) (s : List UInt8) (i : Int) (hx : okX x) (hl : s.length < 9223372036854775808) (h : ¬ (rightT x = true ∧ s.length ≤ 10000 ∧ 0 ≤ i ∧ i ≤ s.length)) : PCall Tryz.prog 45 [rV x, .str s, .int .i64 i] (slc cI (endsL x s i)) := by
  unfold endsL
  have hok : okX x ∧ s.length < 9223372036854775808 := ⟨hx, hl⟩
  refine PCall.of_cut (fn := Tryz.f45) (Γ := gam [(67, .pure iMay), (68, .pure iSt)]) (mu := true) (Γ' := gam [(67, .pure iMay), (68, .pure iSt)]) (mu' := false) 4 (Sound.pure iMay_call (Sound.pure iSt_call Sound.nil)) (Sound.pure iMay_call (Sound.pure iSt_call Sound.nil)) mixed Tryz.func45 rfl (by kernel_rfl) (by simp) rfl (by kernel_rfl) (by kernel_rfl) ?_; simp only [e_preC, e_preC0, e_postC, e_postC0]; intro K hK
  rw [if_neg h] at hK ⊢
  clear hK
  have hnil : AVal.sl .no 0 [] = slc cI [] := rfl
  cases h1 : rightT x
  · have hmay : iMay [rV x, .str s] = some (.bool false) := by rw [iMay_eq hok, h1]; rfl
    simp (disch := first | assumption | omega | exact okR_new | exact okR_one | exact trivial | (simp only [lnA, lnC, lnN]; omega) | (simp only [lnA, lnC, lnN, Nat.reduceAdd])) only [go_sem, e_go, e_cond_bool, e_w_bool, e_step_ite, e_reg_ite, e_regW_ite, e_code_ite, e_block_ite, e_evQ_ite, e_fin_ite, e_pair_ite, Tryz.f45, iMay_eq, iSt_eq, hmay, hnil]
  · by_cases h2 : s.length ≤ 10000
    · have hd : decide ((s.length : Int) ≤ 10000) = true := by simp; omega
      have hmay : iMay [rV x, .str s] = some (.bool true) := by rw [iMay_eq hok, h1, hd]; rfl
      by_cases h3 : 0 ≤ i
      · have h4 : ¬ i ≤ s.length := fun h4 => h ⟨h1, h2, h3, h4⟩
        simp (disch := first | assumption | omega | exact okR_new | exact okR_one | exact trivial | (simp only [lnA, lnC, lnN]; omega) | (simp only [lnA, lnC, lnN, Nat.reduceAdd])) only [go_sem, e_go, e_cond_bool, e_w_bool, e_step_ite, e_reg_ite, e_regW_ite, e_code_ite, e_block_ite, e_evQ_ite, e_fin_ite, e_pair_ite, Tryz.f45, iMay_eq, iSt_eq, hmay, hnil]
      · simp (disch := first | assumption | omega | exact okR_new | exact okR_one | exact trivial | (simp only [lnA, lnC, lnN]; omega) | (simp only [lnA, lnC, lnN, Nat.reduceAdd])) only [go_sem, e_go, e_cond_bool, e_w_bool, e_step_ite, e_reg_ite, e_regW_ite, e_code_ite, e_block_ite, e_evQ_ite, e_fin_ite, e_pair_ite, Tryz.f45, iMay_eq, iSt_eq, hmay, hnil]
    · have hd : decide ((s.length : Int) ≤ 10000) = false := by simp; omega
      have hmay : iMay [rV x, .str s] = some (.bool false) := by rw [iMay_eq hok, h1, hd]; rfl
      simp (disch := first | assumption | omega | exact okR_new | exact okR_one | exact trivial | (simp only [lnA, lnC, lnN]; omega) | (simp only [lnA, lnC, lnN, Nat.reduceAdd])) only [go_sem, e_go, e_cond_bool, e_w_bool, e_step_ite, e_reg_ite, e_regW_ite, e_code_ite, e_block_ite, e_evQ_ite, e_fin_ite, e_pair_ite, Tryz.f45, iMay_eq, iSt_eq, hmay, hnil]
theorem w_EndsR (x : Rx) (s : List UInt8) (i : Int) (hx : okX x) (hl : s.length < 9223372036854775808) : PCall Tryz.prog 45 [rV x, .str s, .int .i64 i] (slc cI (endsL x s i)) := by
  by_cases h : rightT x = true ∧ s.length ≤ 10000 ∧ 0 ≤ i ∧ i ≤ s.length
  · exact w_EndsR1 x s i hx hl h
  · exact w_EndsR2 x s i hx hl h
noncomputable def iEndsR : List AVal → Option AVal := pimp fun xs r => ∃ (x : Rx) (s : List UInt8) (i : Int), (okX x ∧ s.length < 9223372036854775808) ∧ xs = [rV x, .str s, .int .i64 i] ∧ r = slc cI (endsL x s i)
theorem iEndsR_eq {x : Rx} {s : List UInt8} {i : Int} (h : okX x ∧ s.length < 9223372036854775808) : iEndsR [rV x, .str s, .int .i64 i] = some (slc cI (endsL x s i)) := pimp_eq ⟨x, s, i, h, rfl, rfl⟩ (by rintro _ ⟨x', s', i', h', e, rfl⟩; have e0 := (List.cons.inj e).1; have e0r := (List.cons.inj e).2; have e1 := (List.cons.inj e0r).1; have e1r := (List.cons.inj e0r).2; have e2 := (List.cons.inj e1r).1; have e2r := (List.cons.inj e1r).2; have q0 := rV_inj (by first | assumption | exact h | exact h.1 | exact h.1.1 | exact h.1.1.1 | exact h.2 | exact h.2.1 | exact h.2.2 | exact h.2.2.1) (by first | assumption | exact h' | exact h'.1 | exact h'.1.1 | exact h'.1.1.1 | exact h'.2 | exact h'.2.1 | exact h'.2.2 | exact h'.2.2.1) e0; have q1 := AVal.str.inj e1; have q2 := (AVal.int.inj e2).2; subst q0; subst q1; subst q2; first | rfl | exact ⟨rfl, rfl⟩)
theorem iEndsR_call : ∀ xs v, iEndsR xs = some v → PCall Tryz.prog 45 xs v := fun xs v h0 => by obtain ⟨x, s, i, h, rfl, rfl⟩ := pimp_spec h0; exact w_EndsR x s i h.1 h.2
theorem endsL_last (x : Rx) (s : List UInt8) : (0 < (endsL x s 0).length ∧ (endsL x s 0)[(endsL x s 0).length - 1]? = some (s.length : Int)) ↔ (s.length : Int) ∈ endsL x s 0 := by
  unfold endsL
  split
  · exact cset_last rfl
  · simp
theorem w_MatchR (x : Rx) (s : List UInt8) (h : okX x ∧ s.length < 9223372036854775808) : PCall Tryz.prog 44 [rV x, .str s] (.bool (decide ((s.length : Int) ∈ endsL x s 0))) := by
  have hl := endsL_len x s 0
  have hm := endsL_last x s
  have he := iEndsR_eq (x := x) (s := s) (i := 0) h
  generalize endsL x s 0 = L at *
  refine PCall.of_w (fn := Tryz.f44) (Γ := gam [(45, .pure iEndsR)]) (mu := false) (Sound.pure iEndsR_call Sound.nil) mixed Tryz.func44 rfl (by kernel_rfl) (by simp) (by kernel_rfl) ?_
  by_cases h0 : 0 < L.length
  · have hd : decide (0 < (L.length : Int)) = true := by simp; omega
    have hg : L[L.length - 1]? = some L[L.length - 1] := List.getElem?_eq_getElem (by omega)
    have hgf := fl_cI_get hg
    have hw : IntKind.i64.wrap ((L.length : Int) - 1) = (L.length : Int) - 1 := IntWalk.i64_in _ (by omega)
    have htn : ((L.length : Int) - 1).toNat = L.length - 1 := by omega
    have hmm : decide ((s.length : Int) ∈ L) = decide (L[L.length - 1] = (s.length : Int)) := decide_eq_decide.2 (by
      rw [← hm, hg]
      simp [h0])
    rw [hmm]
    simp (disch := first | assumption | omega | exact okR_new | exact okR_one | exact trivial | (simp only [lnA, lnC, lnN]; omega) | (simp only [lnA, lnC, lnN, Nat.reduceAdd])) only [go_sem, e_go, e_cond_bool, e_w_bool, e_step_ite, e_reg_ite, e_regW_ite, e_code_ite, e_block_ite, e_evQ_ite, e_fin_ite, e_pair_ite, Tryz.f44, iEndsR_eq, he, hd, hgf, hw, htn]
  · have hd : decide (0 < (L.length : Int)) = false := decide_eq_false (by omega)
    have hmm : decide ((s.length : Int) ∈ L) = false := decide_eq_false fun h' => h0 (hm.2 h').1
    rw [hmm]
    simp (disch := first | assumption | omega | exact okR_new | exact okR_one | exact trivial | (simp only [lnA, lnC, lnN]; omega) | (simp only [lnA, lnC, lnN, Nat.reduceAdd])) only [go_sem, e_go, e_cond_bool, e_w_bool, e_step_ite, e_reg_ite, e_regW_ite, e_code_ite, e_block_ite, e_evQ_ite, e_fin_ite, e_pair_ite, Tryz.f44, iEndsR_eq, he, hd]
noncomputable def iMatR : List AVal → Option AVal := pimp fun xs r => ∃ (x : Rx) (s : List UInt8), (okX x ∧ s.length < 9223372036854775808) ∧ xs = [rV x, .str s] ∧ r = .bool (decide ((s.length : Int) ∈ endsL x s 0))
theorem iMatR_eq {x : Rx} {s : List UInt8} (h : okX x ∧ s.length < 9223372036854775808) : iMatR [rV x, .str s] = some (.bool (decide ((s.length : Int) ∈ endsL x s 0))) := pimp_eq ⟨x, s, h, rfl, rfl⟩ (by rintro _ ⟨x', s', h', e, rfl⟩; have e0 := (List.cons.inj e).1; have e0r := (List.cons.inj e).2; have e1 := (List.cons.inj e0r).1; have e1r := (List.cons.inj e0r).2; have q0 := rV_inj (by first | assumption | exact h | exact h.1 | exact h.1.1 | exact h.1.1.1 | exact h.2 | exact h.2.1 | exact h.2.2 | exact h.2.2.1) (by first | assumption | exact h' | exact h'.1 | exact h'.1.1 | exact h'.1.1.1 | exact h'.2 | exact h'.2.1 | exact h'.2.2 | exact h'.2.2.1) e0; have q1 := AVal.str.inj e1; subst q0; subst q1; first | rfl | exact ⟨rfl, rfl⟩)
theorem iMatR_call : ∀ xs v, iMatR xs = some v → PCall Tryz.prog 44 xs v := fun xs v h0 => by obtain ⟨x, s, h, rfl, rfl⟩ := pimp_spec h0; exact w_MatchR x s h
end Go.Hk.MZ
namespace Go.Hk.MZ
open Go.Proofs

theorem w_Text (l : List UInt8) (hl : l.length < 9223372036854775808) : PCall Tryz.prog 7 [slc cU l] (.str (textT l)) := by
  refine PCall.of_w (fn := Tryz.f7) (Γ := gam []) (mu := false) Sound.nil mixed Tryz.func7 rfl (by kernel_rfl) (by simp) (by kernel_rfl) ?_
  simp (disch := first | assumption | omega | exact okR_new | exact okR_one | exact trivial | (simp only [lnA, lnC, lnN]; omega) | (simp only [lnA, lnC, lnN, Nat.reduceAdd])) only [go_sem, e_go, e_cond_bool, e_w_bool, e_step_ite, e_reg_ite, e_regW_ite, e_code_ite, e_block_ite, e_evQ_ite, e_fin_ite, e_pair_ite, Tryz.f7]
  refine w_loop [] [3, 4] (fun i : Nat => l.length - i) (fun i => i ≤ l.length ∧ i ≤ 12) (fun i => ⟨[], []⟩)
    (fun i => [(3, .str (textT (l.take i))), (4, .int .i64 (i : Nat))]) 0 (fun _ => rfl) (by kernel_rfl) ⟨Nat.zero_le _, Nat.zero_le _⟩ rfl (by simp [HasE, lk, textT]) ?_
  rintro i ⟨hi, hi2⟩
  by_cases h1 : i < l.length
  · by_cases h2 : i < 12
    · have hg : (fl cU l)[i]? = some (.int .u8 (l[i].toNat : Nat)) := by rw [fl_cU_map]; simp [h1]
      have hu := l[i].toNat_lt
      have hw : IntKind.i64.wrap ((i : Int) + 1) = (i : Int) + 1 := IntWalk.i64_in _ (by omega)
      have hw2 : IntKind.i64.wrap ((l[i].toNat : Nat) : Int) = ((l[i].toNat : Nat) : Int) := IntWalk.i64_in _ (by omega)
      have hnx := textT_next h1 h2
      have htm : ((l[i].toNat : Nat) : Int).tmod 12 = ((l[i].toNat % 12 : Nat) : Int) := rfl
      have hm : l[i].toNat % 12 < 12 := Nat.mod_lt _ (by decide)
      have htl := textT_len (l.take i)
      obtain ⟨m, hmm⟩ : ∃ m, l[i].toNat % 12 = m := ⟨_, rfl⟩
      rw [hmm] at htm hm hnx
      have hw3 : IntKind.i64.wrap ((m : Int) + 1) = (m : Int) + 1 := IntWalk.i64_in _ (by omega)
      have hi1 : (if 0 ≤ (m : Int) + 1 ∧ (m : Int) + 1 ≤ ((12 : Nat) : Int) then some ((m : Int) + 1).toNat else none) = some (m + 1) := by rw [if_pos (by omega)]; congr 1
      have hi3 : (if 0 ≤ (m : Int) ∧ (m : Int) ≤ ((m + 1 : Nat) : Int) then some ((m : Int)).toNat else none) = some m := by rw [if_pos (by omega)]; congr 1
      have hsl : List.take (m + 1 - m) (List.drop m [97, 97, 98, 98, 99, 99, 45, 90, 10, 48, 0, 255]) = [alph.getD m 0] := by rw [Nat.add_sub_cancel_left]; exact alph_at m hm
      simp (disch := first | assumption | omega | exact okR_new | exact okR_one | exact trivial | (simp only [lnA, lnC, lnN]; omega) | (simp only [lnA, lnC, lnN, Nat.reduceAdd])) only [go_sem, e_go, e_cond_bool, e_w_bool, e_step_ite, e_reg_ite, e_regW_ite, e_code_ite, e_block_ite, e_evQ_ite, e_fin_ite, e_pair_ite, Tryz.f7, hg, hw, hw2, htm, hw3, hi1, hi3, hsl]
      exact ⟨i + 1, dn h1, ⟨h1, h2⟩, rfl, by simp [HasE, lk, hnx]⟩
    · have hz := textT_all (l := l) (i := i) (.inr (by omega))
      simp (disch := first | assumption | omega | exact okR_new | exact okR_one | exact trivial | (simp only [lnA, lnC, lnN]; omega) | (simp only [lnA, lnC, lnN, Nat.reduceAdd])) only [go_sem, e_go, e_cond_bool, e_w_bool, e_step_ite, e_reg_ite, e_regW_ite, e_code_ite, e_block_ite, e_evQ_ite, e_fin_ite, e_pair_ite, Tryz.f7, hz]
  · have hz := textT_all (l := l) (i := i) (.inl (by omega))
    simp (disch := first | assumption | omega | exact okR_new | exact okR_one | exact trivial | (simp only [lnA, lnC, lnN]; omega) | (simp only [lnA, lnC, lnN, Nat.reduceAdd])) only [go_sem, e_go, e_cond_bool, e_w_bool, e_step_ite, e_reg_ite, e_regW_ite, e_code_ite, e_block_ite, e_evQ_ite, e_fin_ite, e_pair_ite, Tryz.f7, hz]
noncomputable def iText : List AVal → Option AVal := pimp fun xs r => ∃ (l : List UInt8), (l.length < 9223372036854775808) ∧ xs = [slc cU l] ∧ r = .str (textT l)
theorem iText_eq {l : List UInt8} (h : l.length < 9223372036854775808) : iText [slc cU l] = some (.str (textT l)) := pimp_eq ⟨l, h, rfl, rfl⟩ (by rintro _ ⟨l', h', e, rfl⟩; have e0 := (List.cons.inj e).1; have e0r := (List.cons.inj e).2; have q0 := slc_inj cU_len (fun _ _ _ _ => cU_inj) e0; subst q0; first | rfl | exact ⟨rfl, rfl⟩)
theorem iText_call : ∀ xs v, iText xs = some v → PCall Tryz.prog 7 xs v := fun xs v h0 => by obtain ⟨l, h, rfl, rfl⟩ := pimp_spec h0; exact w_Text l h
end Go.Hk.MZ
