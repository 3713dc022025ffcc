import Derived.Test.YtdimacffjdpkfaaGreatHkQ29
import Derived.Test.YtdimacffjdpkfaaGreatHkQ20
set_option linter.unusedSimpArgs false
set_option linter.unusedVariables false
set_option maxRecDepth 20000
namespace Go.Hk.MZ
open Go.Proofs


theorem w_Ends (x : Rx) (s : List UInt8) (i : Int) (hx : okX x) (hl : s.length < 9223372036854775808) : PCall Tryz.prog 22 [rV x, .str s, .int .i64 i] (slc cI (endsL x s i)) := by
  refine PCall.of_w (fn := Tryz.f22) (Γ := gam [(37, .pure iRt), (38, .raw iSo), (39, .raw iKeys), (40, .raw (iBh (sz x + 1)))]) (mu := false) (Sound.pure iRt_call (Sound.raw iSo_call (Sound.raw iKeys_call (Sound.raw (iBh_call (sz x + 1)) Sound.nil)))) mixed Tryz.func22 rfl (by kernel_rfl) (by simp) (by kernel_rfl) ?_
  unfold endsL
  by_cases h : rightT x = true ∧ s.length ≤ 10000 ∧ 0 ≤ i ∧ i ≤ s.length
  · obtain ⟨h1, h2, h3, h4⟩ := h
    obtain ⟨k, rfl⟩ := Int.eq_ofNat_of_zero_le h3
    rw [if_pos ⟨h1, h2, h3, h4⟩]
    have hr : inR x := ⟨20, by simp only [rightT, Bool.and_eq_true] at h1; exact h1.1.1⟩
    have hkl : k ≤ s.length := by omega
    obtain ⟨S, hS⟩ : ∃ S, cset (s.length + 1) (R s x k) = S := ⟨_, rfl⟩
    have hSn : S.Nodup := by rw [← hS]; exact cset_nodup
    have hSl : S.length ≤ s.length + 1 := by rw [← hS]; exact cset_len
    have hSm : ∀ j ∈ S, j < s.length + 1 := fun j hj => by rw [← hS] at hj; exact (cset_mem.1 hj).1
    have hput : amput Tryz.prog 88 ⟨[.cells 0 (cR x), .cells 0 [.str s], .amap []], []⟩ (.map 2) (.int .i64 (k : Int)) (.agg []) = some (.undef, ⟨[.cells 0 (cR x), .cells 0 [.str s], .amap (sents [k])], []⟩) := by
      have := set_put (P := Tryz.prog) (t := 88) (H := [.cells 0 (cR x), .cells 0 [.str s], .amap []]) (T := []) (b := 2) (ks := []) (k := k) ti88 rfl ti3 rfl rfl List.nodup_nil rfl
      rw [this]; rfl
    have hB : iBh (sz x + 1) [.ptr 1 0 0, rV x, .map 2] ⟨[.cells 0 (cR x), .cells 0 [.str s], .amap (sents [k])], []⟩ = some (.map 3, ⟨[.cells 0 (cR x), .cells 0 [.str s], .amap (sents [k]), .amap (sents S)], []⟩) := by
      have := iBh_eq (n := sz x + 1) (x := x) (G := [.cells 0 (cR x), .cells 0 [.str s], .amap (sents [k])]) (T := []) (p := 1) (b := 2) (t := s) (ks := [k]) ⟨rfl, rfl, by simp, by omega, by simpa using hkl, by simp only [shut, List.all_cons, cR_clo0, sents_cloB, List.all_nil, Bool.and_true]; rfl⟩ hx hr (Nat.lt_succ_self _)
      rw [this, Im_one, hS]; rfl
    have hK : iKeys [.map 3] ⟨[.cells 0 (cR x), .cells 0 [.str s], .amap (sents [k]), .amap (sents S)], []⟩ = some (.fn 60 [] [.ptr 4 0 0], ⟨[.cells 0 (cR x), .cells 0 [.str s], .amap (sents [k]), .amap (sents S), .cells 0 [.map 3]], []⟩) :=
      iKeys_eq (G := [.cells 0 (cR x), .cells 0 [.str s], .amap (sents [k]), .amap (sents S)]) (T := []) (b := 3) ⟨by simp, by simp only [shut, List.all_cons, cR_clo0, sents_cloB, List.all_nil, Bool.and_true]; rfl⟩
    have hO : iSo [.fn 60 [] [.ptr 4 0 0]] ⟨[.cells 0 (cR x), .cells 0 [.str s], .amap (sents [k]), .amap (sents S), .cells 0 [.map 3]], []⟩ = some (slc cI (S.map fun k : Nat => (k : Int)), ⟨[.cells 0 (cR x), .cells 0 [.str s], .amap (sents [k]), .amap (sents S), .cells 0 [.map 3]], []⟩) := by
      have := iSo_eq (G := [.cells 0 (cR x), .cells 0 [.str s], .amap (sents [k]), .amap (sents S), .cells 0 [.map 3]]) (T := []) (c := 4) (b := 3) (ks := S) ⟨rfl, rfl, hSn, by omega, fun j hj => by have := hSm j hj; omega⟩
      rw [← hS, cset_sorted] at this
      rw [← hS]
      exact this
    simp (disch := first | assumption | omega | exact okR_new | exact okR_one | exact trivial | (simp only [lnA, lnC, lnN]; omega) | (simp only [lnA, lnC, lnN, Nat.reduceAdd])) only [go_sem, e_go, e_cond_bool, e_w_bool, e_step_ite, e_reg_ite, e_regW_ite, e_code_ite, e_block_ite, e_evQ_ite, e_fin_ite, e_pair_ite, Tryz.f22, iRt_eq, iSo_eq, iKeys_eq, l_s_cR, h1, hput, hB, hK, hO, hS]
  · rw [if_neg h]
    have hnil : AVal.sl .no 0 [] = slc cI [] := rfl
    cases h1 : rightT x
    · simp (disch := first | assumption | omega | exact okR_new | exact okR_one | exact trivial | (simp only [lnA, lnC, lnN]; omega) | (simp only [lnA, lnC, lnN, Nat.reduceAdd])) only [go_sem, e_go, e_cond_bool, e_w_bool, e_step_ite, e_reg_ite, e_regW_ite, e_code_ite, e_block_ite, e_evQ_ite, e_fin_ite, e_pair_ite, Tryz.f22, iRt_eq, iSo_eq, iKeys_eq, l_s_cR, h1, hnil]
    · by_cases h2 : s.length ≤ 10000
      · by_cases h3 : 0 ≤ i
        · have h4 : ¬ i ≤ s.length := fun h4 => h ⟨h1, h2, h3, h4⟩
          simp (disch := first | assumption | omega | exact okR_new | exact okR_one | exact trivial | (simp only [lnA, lnC, lnN]; omega) | (simp only [lnA, lnC, lnN, Nat.reduceAdd])) only [go_sem, e_go, e_cond_bool, e_w_bool, e_step_ite, e_reg_ite, e_regW_ite, e_code_ite, e_block_ite, e_evQ_ite, e_fin_ite, e_pair_ite, Tryz.f22, iRt_eq, iSo_eq, iKeys_eq, l_s_cR, h1, hnil]
        · simp (disch := first | assumption | omega | exact okR_new | exact okR_one | exact trivial | (simp only [lnA, lnC, lnN]; omega) | (simp only [lnA, lnC, lnN, Nat.reduceAdd])) only [go_sem, e_go, e_cond_bool, e_w_bool, e_step_ite, e_reg_ite, e_regW_ite, e_code_ite, e_block_ite, e_evQ_ite, e_fin_ite, e_pair_ite, Tryz.f22, iRt_eq, iSo_eq, iKeys_eq, l_s_cR, h1, hnil]
      · simp (disch := first | assumption | omega | exact okR_new | exact okR_one | exact trivial | (simp only [lnA, lnC, lnN]; omega) | (simp only [lnA, lnC, lnN, Nat.reduceAdd])) only [go_sem, e_go, e_cond_bool, e_w_bool, e_step_ite, e_reg_ite, e_regW_ite, e_code_ite, e_block_ite, e_evQ_ite, e_fin_ite, e_pair_ite, Tryz.f22, iRt_eq, iSo_eq, iKeys_eq, l_s_cR, h1, hnil]
noncomputable def iEnds : List AVal → Option AVal := pimp fun xs r => ∃ (x : Rx) (s : List UInt8) (i : Int), (okX x ∧ s.length < 9223372036854775808) ∧ xs = [rV x, .str s, .int .i64 i] ∧ r = slc cI (endsL x s i)
theorem iEnds_eq {x : Rx} {s : List UInt8} {i : Int} (h : okX x ∧ s.length < 9223372036854775808) : iEnds [rV x, .str s, .int .i64 i] = some (slc cI (endsL x s i)) := pimp_eq ⟨x, s, i, h, rfl, rfl⟩ (by rintro _ ⟨x', s', i', h', e, rfl⟩; have e0 := (List.cons.inj e).1; have e0r := (List.cons.inj e).2; have e1 := (List.cons.inj e0r).1; have e1r := (List.cons.inj e0r).2; have e2 := (List.cons.inj e1r).1; have e2r := (List.cons.inj e1r).2; have q0 := rV_inj (by first | assumption | exact h | exact h.1 | exact h.1.1 | exact h.1.1.1 | exact h.2 | exact h.2.1 | exact h.2.2 | exact h.2.2.1) (by first | assumption | exact h' | exact h'.1 | exact h'.1.1 | exact h'.1.1.1 | exact h'.2 | exact h'.2.1 | exact h'.2.2 | exact h'.2.2.1) e0; have q1 := AVal.str.inj e1; have q2 := (AVal.int.inj e2).2; subst q0; subst q1; subst q2; first | rfl | exact ⟨rfl, rfl⟩)
theorem iEnds_call : ∀ xs v, iEnds xs = some v → PCall Tryz.prog 22 xs v := fun xs v h0 => by obtain ⟨x, s, i, h, rfl, rfl⟩ := pimp_spec h0; exact w_Ends x s i h.1 h.2
theorem w_Index (l : List Int) (v : Int) (h : l.length < 9223372036854775808) : PCall Tryz.prog 41 [slc cI l, .int .i64 v] (.int .i64 (idx (fun y => decide (v = y)) l)) := by
  refine PCall.of_w (fn := Tryz.f41) (Γ := gam []) (mu := false) Sound.nil mixed Tryz.func41 rfl (by kernel_rfl) (by simp) (by kernel_rfl) ?_
  simp (disch := first | assumption | omega | exact okR_new | exact okR_one | exact trivial | (simp only [lnA, lnC, lnN]; omega) | (simp only [lnA, lnC, lnN, Nat.reduceAdd])) only [go_sem, e_go, e_cond_bool, e_w_bool, e_step_ite, e_reg_ite, e_regW_ite, e_code_ite, e_block_ite, e_evQ_ite, e_fin_ite, e_pair_ite, Tryz.f41]
  refine w_loop [4] [8] (fun i : Nat => l.length - i) (fun i => i ≤ l.length ∧ ∀ y ∈ l.take i, decide (v = y) = false) (fun i => ⟨[], []⟩)
    (fun i => [(8, .int .i64 (i : Nat))]) 0 (fun _ => rfl) (by kernel_rfl) ⟨Nat.zero_le _, by simp⟩ rfl (by simp [HasE, lk]) ?_
  rintro i ⟨hi, hq⟩
  by_cases h : i < l.length
  · have hg : l[i]? = some l[i] := by simp [h]
    have hat : (fl cI l)[i]? = some (.int .i64 l[i]) := fl_cI_get hg
    have hw : IntKind.i64.wrap ((i : Int) + 1) = (i : Int) + 1 := IntWalk.i64_in _ (by omega)
    cases hp : decide (v = l[i])
    · simp (disch := first | assumption | omega | exact okR_new | exact okR_one | exact trivial | (simp only [lnA, lnC, lnN]; omega) | (simp only [lnA, lnC, lnN, Nat.reduceAdd])) only [go_sem, e_go, e_cond_bool, e_w_bool, e_step_ite, e_reg_ite, e_regW_ite, e_code_ite, e_block_ite, e_evQ_ite, e_fin_ite, e_pair_ite, Tryz.f41, hat, hp, hw]
      exact ⟨i + 1, dn h, ⟨h, upto_next hq hg hp⟩, rfl, by simp [HasE, lk]⟩
    · simp (disch := first | assumption | omega | exact okR_new | exact okR_one | exact trivial | (simp only [lnA, lnC, lnN]; omega) | (simp only [lnA, lnC, lnN, Nat.reduceAdd])) only [go_sem, e_go, e_cond_bool, e_w_bool, e_step_ite, e_reg_ite, e_regW_ite, e_code_ite, e_block_ite, e_evQ_ite, e_fin_ite, e_pair_ite, Tryz.f41, hat, hp, hw]
      rw [idx_at (p := fun y => decide (v = y)) hg hq hp]
  · have hi' : i = l.length := by omega
    subst hi'
    rw [List.take_length] at hq
    have hno := idx_none hq
    simp (disch := first | assumption | omega | exact okR_new | exact okR_one | exact trivial | (simp only [lnA, lnC, lnN]; omega) | (simp only [lnA, lnC, lnN, Nat.reduceAdd])) only [go_sem, e_go, e_cond_bool, e_w_bool, e_step_ite, e_reg_ite, e_regW_ite, e_code_ite, e_block_ite, e_evQ_ite, e_fin_ite, e_pair_ite, Tryz.f41, hno]
noncomputable def iIdx : List AVal → Option AVal := pimp fun xs r => ∃ (l : List Int) (v : Int), (l.length < 9223372036854775808) ∧ xs = [slc cI l, .int .i64 v] ∧ r = .int .i64 (idx (fun y => decide (v = y)) l)
theorem iIdx_eq {l : List Int} {v : Int} (h : l.length < 9223372036854775808) : iIdx [slc cI l, .int .i64 v] = some (.int .i64 (idx (fun y => decide (v = y)) l)) := pimp_eq ⟨l, v, h, rfl, rfl⟩ (by rintro _ ⟨l', v', h', e, rfl⟩; have e0 := (List.cons.inj e).1; have e0r := (List.cons.inj e).2; have e1 := (List.cons.inj e0r).1; have e1r := (List.cons.inj e0r).2; have q0 := slc_inj cI_len (fun _ _ _ _ => cI_inj) e0; have q1 := (AVal.int.inj e1).2; subst q0; subst q1; first | rfl | exact ⟨rfl, rfl⟩)
theorem iIdx_call : ∀ xs v, iIdx xs = some v → PCall Tryz.prog 41 xs v := fun xs v h0 => by obtain ⟨l, v, h, rfl, rfl⟩ := pimp_spec h0; exact w_Index l v h
theorem w_Contains (l : List Int) (v : Int) (h : l.length < 9223372036854775808) : PCall Tryz.prog 23 [slc cI l, .int .i64 v] (.bool (decide (v ∈ l))) := by
  have hm : decide (v ∈ l) = decide (0 ≤ idx (fun y => decide (v = y)) l) := by
    rw [idx_any, Bool.eq_iff_iff]
    simp
  rw [hm]
  refine PCall.of_w (fn := Tryz.f23) (Γ := gam [(41, .pure iIdx)]) (mu := false) (Sound.pure iIdx_call Sound.nil) mixed Tryz.func23 rfl (by kernel_rfl) (by simp) (by kernel_rfl) ?_
  simp (disch := first | assumption | omega | exact okR_new | exact okR_one | exact trivial | (simp only [lnA, lnC, lnN]; omega) | (simp only [lnA, lnC, lnN, Nat.reduceAdd])) only [go_sem, e_go, e_cond_bool, e_w_bool, e_step_ite, e_reg_ite, e_regW_ite, e_code_ite, e_block_ite, e_evQ_ite, e_fin_ite, e_pair_ite, Tryz.f23, iIdx_eq]
noncomputable def iCont : List AVal → Option AVal := pimp fun xs r => ∃ (l : List Int) (v : Int), (l.length < 9223372036854775808) ∧ xs = [slc cI l, .int .i64 v] ∧ r = .bool (decide (v ∈ l))
theorem iCont_eq {l : List Int} {v : Int} (h : l.length < 9223372036854775808) : iCont [slc cI l, .int .i64 v] = some (.bool (decide (v ∈ l))) := pimp_eq ⟨l, v, h, rfl, rfl⟩ (by rintro _ ⟨l', v', h', e, rfl⟩; have e0 := (List.cons.inj e).1; have e0r := (List.cons.inj e).2; have e1 := (List.cons.inj e0r).1; have e1r := (List.cons.inj e0r).2; have q0 := slc_inj cI_len (fun _ _ _ _ => cI_inj) e0; have q1 := (AVal.int.inj e1).2; subst q0; subst q1; first | rfl | exact ⟨rfl, rfl⟩)
theorem iCont_call : ∀ xs v, iCont xs = some v → PCall Tryz.prog 23 xs v := fun xs v h0 => by obtain ⟨l, v, h, rfl, rfl⟩ := pimp_spec h0; exact w_Contains l v h
theorem endsL_len (x : Rx) (s : List UInt8) (i : Int) : (endsL x s i).length < 9223372036854775808 := by
  unfold endsL
  split
  · rename_i h
    have := cset_len (n := s.length + 1) (S := R s x i.toNat)
    simp only [List.length_map]
    omega
  · simp
theorem w_Match (x : Rx) (s : List UInt8) (h : okX x ∧ s.length < 9223372036854775808) : PCall Tryz.prog 25 [rV x, .str s] (.bool (decide ((s.length : Int) ∈ endsL x s 0))) := by
  have hl := endsL_len x s 0
  refine PCall.of_w (fn := Tryz.f25) (Γ := gam [(22, .pure iEnds), (23, .pure iCont)]) (mu := false) (Sound.pure iEnds_call (Sound.pure iCont_call Sound.nil)) mixed Tryz.func25 rfl (by kernel_rfl) (by simp) (by kernel_rfl) ?_
  simp (disch := first | assumption | omega | exact okR_new | exact okR_one | exact trivial | (simp only [lnA, lnC, lnN]; omega) | (simp only [lnA, lnC, lnN, Nat.reduceAdd])) only [go_sem, e_go, e_cond_bool, e_w_bool, e_step_ite, e_reg_ite, e_regW_ite, e_code_ite, e_block_ite, e_evQ_ite, e_fin_ite, e_pair_ite, Tryz.f25, iEnds_eq, iCont_eq]
noncomputable def iMat : List AVal → Option AVal := pimp fun xs r => ∃ (x : Rx) (s : List UInt8), (okX x ∧ s.length < 9223372036854775808) ∧ xs = [rV x, .str s] ∧ r = .bool (decide ((s.length : Int) ∈ endsL x s 0))
theorem iMat_eq {x : Rx} {s : List UInt8} (h : okX x ∧ s.length < 9223372036854775808) : iMat [rV x, .str s] = some (.bool (decide ((s.length : Int) ∈ endsL x s 0))) := pimp_eq ⟨x, s, h, rfl, rfl⟩ (by rintro _ ⟨x', s', h', e, rfl⟩; have e0 := (List.cons.inj e).1; have e0r := (List.cons.inj e).2; have e1 := (List.cons.inj e0r).1; have e1r := (List.cons.inj e0r).2; have q0 := rV_inj (by first | assumption | exact h | exact h.1 | exact h.1.1 | exact h.1.1.1 | exact h.2 | exact h.2.1 | exact h.2.2 | exact h.2.2.1) (by first | assumption | exact h' | exact h'.1 | exact h'.1.1 | exact h'.1.1.1 | exact h'.2 | exact h'.2.1 | exact h'.2.2 | exact h'.2.2.1) e0; have q1 := AVal.str.inj e1; subst q0; subst q1; first | rfl | exact ⟨rfl, rfl⟩)
theorem iMat_call : ∀ xs v, iMat xs = some v → PCall Tryz.prog 25 xs v := fun xs v h0 => by obtain ⟨x, s, h, rfl, rfl⟩ := pimp_spec h0; exact w_Match x s h
end Go.Hk.MZ
namespace Go.Hk.MZ
open Go.Proofs
theorem ti109 : tiOf Tryz.prog 109 = some { size := 1, bytes := 24, zero := some (.sl .nil 0 []), k := .slice 4 } := by kernel_rfl
attribute [go_sem] ti109
theorem apB_T : appT Tryz.prog 109 109 = some ⟨4, 1, 1⟩ := by kernel_rfl
theorem apB_one {H : List ABlk} {T : List (Nat × (Nat × Nat))} {r r' : Rt} {l} {x} (hr : okR T r l.length (1, 4) = true) (hn : l.length + 1 < 1000000000) : aappend Tryz.prog 109 109 ⟨H, T⟩ (.sl r l.length (fl cB l)) (.sl r' 1 (cB x)) = some (.sl (nxR T r) (l ++ [x]).length (fl cB (l ++ [x])), ⟨H, nxT T r (l ++ [x]).length (1, 4)⟩) := app_fl1 apB_T (by decide) cB_len rfl hr hn
theorem apB_mk (mu : Bool) (m : AMem) {x} : abuildSlice Tryz.prog mu m 109 1 [(0, .bool x)] = some (.sl .full 1 (cB x), m) := build_one ti109 ti4 rfl rfl (cB_len x) rfl (by decide) (by decide)
theorem w_or (a b : List Bool) (h : a.length = b.length) (hn : a.length < 100000000) : PCall Tryz.prog 88 [slc cB a, slc cB b] (slc cB (orB a b)) := by
  refine PCall.of_w (fn := Tryz.f88) (Γ := gam []) (mu := false) Sound.nil mixed Tryz.func88 rfl (by kernel_rfl) (by simp) (by kernel_rfl) ?_
  simp (disch := first | assumption | omega | exact okR_new | exact okR_one | exact trivial | (simp only [lnA, lnC, lnN]; omega) | (simp only [lnA, lnC, lnN, Nat.reduceAdd])) only [go_sem, e_go, e_cond_bool, e_w_bool, e_step_ite, e_reg_ite, e_regW_ite, e_code_ite, e_block_ite, e_evQ_ite, e_fin_ite, e_pair_ite, Tryz.f88]
  refine w_loop [] [5, 6] (fun x : Ls => a.length - x.i) (fun x => x.i ≤ a.length ∧ okR x.T x.r (orB (a.take x.i) (b.take x.i)).length (1, 4) = true) (fun x => ⟨[], x.T⟩)
    (fun x => [(5, .sl x.r (orB (a.take x.i) (b.take x.i)).length (fl cB (orB (a.take x.i) (b.take x.i)))), (6, .int .i64 (x.i : Nat))]) ⟨0, .nil, []⟩ (fun _ => rfl) (by kernel_rfl) (by simp [okR]) rfl (by simp [HasE, lk, orB, fl]) ?_
  rintro ⟨i, r, T⟩ ⟨hi, hr⟩
  simp only at hi hr
  by_cases h1 : i < a.length
  · have h2 : i < b.length := by omega
    have hg := fl_cB_get (l := a) (i := i) (x := a[i]) (by simp [h1])
    have hg2 := fl_cB_get (l := b) (i := i) (x := b[i]) (by simp [h2])
    have hw : IntKind.i64.wrap ((i : Int) + 1) = (i : Int) + 1 := IntWalk.i64_in _ (by omega)
    have hnx := orB_next h1 h2
    have hol : (orB (a.take i) (b.take i)).length ≤ i := by simp [orB]; omega
    cases ha : a[i] <;> simp only [ha, Bool.false_or, Bool.true_or] at hnx
    · simp (disch := first | assumption | omega | exact okR_new | exact okR_one | exact trivial | (simp only [lnA, lnC, lnN]; omega) | (simp only [lnA, lnC, lnN, Nat.reduceAdd])) only [go_sem, e_go, e_cond_bool, e_w_bool, e_step_ite, e_reg_ite, e_regW_ite, e_code_ite, e_block_ite, e_evQ_ite, e_fin_ite, e_pair_ite, Tryz.f88, hg, hg2, hw, ha, apB_mk, apB_one]
      exact ⟨⟨i + 1, nxR T r, _⟩, dn h1, ⟨h1, by simp only [hnx, lnA, lnC, lnN, Nat.zero_add]; exact okR_nx hr⟩, rfl, by simp only [HasE, lk, hnx]; simp⟩
    · simp (disch := first | assumption | omega | exact okR_new | exact okR_one | exact trivial | (simp only [lnA, lnC, lnN]; omega) | (simp only [lnA, lnC, lnN, Nat.reduceAdd])) only [go_sem, e_go, e_cond_bool, e_w_bool, e_step_ite, e_reg_ite, e_regW_ite, e_code_ite, e_block_ite, e_evQ_ite, e_fin_ite, e_pair_ite, Tryz.f88, hg, hg2, hw, ha, apB_mk, apB_one]
      exact ⟨⟨i + 1, nxR T r, _⟩, dn h1, ⟨h1, by simp only [hnx, lnA, lnC, lnN, Nat.zero_add]; exact okR_nx hr⟩, rfl, by simp only [HasE, lk, hnx]; simp⟩
  · have hi' : i = a.length := by omega
    subst hi'
    have e : orB (a.take a.length) (b.take a.length) = orB a b := by rw [List.take_length, h, List.take_length]
    simp (disch := first | assumption | omega | exact okR_new | exact okR_one | exact trivial | (simp only [lnA, lnC, lnN]; omega) | (simp only [lnA, lnC, lnN, Nat.reduceAdd])) only [go_sem, e_go, e_cond_bool, e_w_bool, e_step_ite, e_reg_ite, e_regW_ite, e_code_ite, e_block_ite, e_evQ_ite, e_fin_ite, e_pair_ite, Tryz.f88, e, slc]
theorem w_orM (G : List ABlk) (q : Nat) (a b : List Bool) (hq : G[q]? = some (.cells 1 (fl cB a))) (hs : shut ⟨G, []⟩ = true) (h : a.length = b.length) (hn : a.length < 100000000) : RCall Tryz.prog 88 [.msl q 1 0 a.length a.length, slc cB b] ⟨G, []⟩ (slc cB (orB a b)) ⟨G, []⟩ := by
  have hal : (fl cB a).length = a.length := by rw [fl_len cB_len, Nat.mul_one]
  refine RCall.of_ws (fn := Tryz.f88) (Γ := gam []) (mu := false) (by simp) (by simp) Sound.nil mixed Tryz.func88 rfl (by kernel_rfl) (by simp) (by kernel_rfl) ?_
  simp (disch := first | assumption | omega | exact okR_new | exact okR_one | exact trivial | (simp only [lnA, lnC, lnN]; omega) | (simp only [lnA, lnC, lnN, Nat.reduceAdd])) only [go_sem, e_go, e_cond_bool, e_w_bool, e_step_ite, e_reg_ite, e_regW_ite, e_code_ite, e_block_ite, e_evQ_ite, e_fin_ite, e_pair_ite, Tryz.f88]
  refine w_loop [] [5, 6] (fun x : Ls => a.length - x.i) (fun x => x.i ≤ a.length ∧ okR x.T x.r (orB (a.take x.i) (b.take x.i)).length (1, 4) = true) (fun x => ⟨G, x.T⟩)
    (fun x => [(5, .sl x.r (orB (a.take x.i) (b.take x.i)).length (fl cB (orB (a.take x.i) (b.take x.i)))), (6, .int .i64 (x.i : Nat))]) ⟨0, .nil, []⟩ (fun _ => rfl) (by kernel_rfl) (by simp [okR]) rfl (by simp [HasE, lk, orB, fl]) ?_
  rintro ⟨i, r, T⟩ ⟨hi, hr⟩
  simp only at hi hr
  by_cases h1 : i < a.length
  · have h2 : i < b.length := by omega
    have hg := fl_cB_get (l := a) (i := i) (x := a[i]) (by simp [h1])
    have hg2 := fl_cB_get (l := b) (i := i) (x := b[i]) (by simp [h2])
    have hw : IntKind.i64.wrap ((i : Int) + 1) = (i : Int) + 1 := IntWalk.i64_in _ (by omega)
    have hnx := orB_next h1 h2
    have hol : (orB (a.take i) (b.take i)).length ≤ i := by simp [orB]; omega
    cases ha : a[i] <;> simp only [ha, Bool.false_or, Bool.true_or] at hnx hg
    · simp (disch := first | assumption | omega | exact okR_new | exact okR_one | exact trivial | (simp only [lnA, lnC, lnN]; omega) | (simp only [lnA, lnC, lnN, Nat.reduceAdd])) only [go_sem, e_go, e_cond_bool, e_w_bool, e_step_ite, e_reg_ite, e_regW_ite, e_code_ite, e_block_ite, e_evQ_ite, e_fin_ite, e_pair_ite, Tryz.f88, hg, hg2, hw, hq, hal, apB_mk, apB_one]
      exact ⟨⟨i + 1, nxR T r, _⟩, dn h1, ⟨h1, by simp only [hnx, lnA, lnC, lnN, Nat.zero_add]; exact okR_nx hr⟩, rfl, by simp only [HasE, lk, hnx]; simp⟩
    · simp (disch := first | assumption | omega | exact okR_new | exact okR_one | exact trivial | (simp only [lnA, lnC, lnN]; omega) | (simp only [lnA, lnC, lnN, Nat.reduceAdd])) only [go_sem, e_go, e_cond_bool, e_w_bool, e_step_ite, e_reg_ite, e_regW_ite, e_code_ite, e_block_ite, e_evQ_ite, e_fin_ite, e_pair_ite, Tryz.f88, hg, hg2, hw, hq, hal, apB_mk, apB_one]
      exact ⟨⟨i + 1, nxR T r, _⟩, dn h1, ⟨h1, by simp only [hnx, lnA, lnC, lnN, Nat.zero_add]; exact okR_nx hr⟩, rfl, by simp only [HasE, lk, hnx]; simp⟩
  · have hi' : i = a.length := by omega
    subst hi'
    have e : orB (a.take a.length) (b.take a.length) = orB a b := by rw [List.take_length, h, List.take_length]
    simp (disch := first | assumption | omega | exact okR_new | exact okR_one | exact trivial | (simp only [lnA, lnC, lnN]; omega) | (simp only [lnA, lnC, lnN, Nat.reduceAdd])) only [go_sem, e_go, e_cond_bool, e_w_bool, e_step_ite, e_reg_ite, e_regW_ite, e_code_ite, e_block_ite, e_evQ_ite, e_fin_ite, e_pair_ite, Tryz.f88, e, slc]
    exact .inr ⟨⟨[], T, by simp⟩, hs⟩
theorem iOrM_call : ∀ xs m v m', iOrM xs m = some (v, m') → RCall Tryz.prog 88 xs m v m' := by
  intro xs m v m' h0
  obtain ⟨A, B, u, h, rfl, hu, rfl, hm⟩ := rimp_spec h0
  rw [hm]
  rcases hu with rfl | ⟨b, rfl, hb, hT, hs⟩
  · exact (w_or A B h.1 h.2).stable (by simp only [stripL, slc, strip, l_s_cB])
  · obtain ⟨G, T⟩ := m
    simp only at hT hb
    subst hT
    exact w_orM G b A B hb hs h.1 h.2
theorem w_within (a b : List Bool) (h : a.length = b.length) (hn : a.length < 100000000) : PCall Tryz.prog 90 [slc cB a, slc cB b] (.bool (inB a b)) := by
  refine PCall.of_w (fn := Tryz.f90) (Γ := gam []) (mu := false) Sound.nil mixed Tryz.func90 rfl (by kernel_rfl) (by simp) (by kernel_rfl) ?_
  simp (disch := first | assumption | omega | exact okR_new | exact okR_one | exact trivial | (simp only [lnA, lnC, lnN]; omega) | (simp only [lnA, lnC, lnN, Nat.reduceAdd])) only [go_sem, e_go, e_cond_bool, e_w_bool, e_step_ite, e_reg_ite, e_regW_ite, e_code_ite, e_block_ite, e_evQ_ite, e_fin_ite, e_pair_ite, Tryz.f90]
  refine w_loop [4] [5] (fun i : Nat => a.length - i) (fun i => i ≤ a.length ∧ inB (a.take i) (b.take i) = true) (fun i => ⟨[], []⟩)
    (fun i => [(5, .int .i64 (i : Nat))]) 0 (fun _ => rfl) (by kernel_rfl) ⟨Nat.zero_le _, rfl⟩ rfl (by simp [HasE, lk]) ?_
  rintro i ⟨hi, hq⟩
  by_cases h1 : i < a.length
  · have h2 : i < b.length := by omega
    have hg := fl_cB_get (l := a) (i := i) (x := a[i]) (by simp [h1])
    have hg2 := fl_cB_get (l := b) (i := i) (x := b[i]) (by simp [h2])
    have hw : IntKind.i64.wrap ((i : Int) + 1) = (i : Int) + 1 := IntWalk.i64_in _ (by omega)
    have hnx := inB_next h1 h2
    have hall : inB (a.take (i + 1)) (b.take (i + 1)) = false → inB a b = false := inB_take h
    cases ha : a[i] <;> simp only [ha, hq, Bool.not_false, Bool.true_or, Bool.not_true, Bool.false_or, Bool.and_true, Bool.true_and] at hnx
    · simp (disch := first | assumption | omega | exact okR_new | exact okR_one | exact trivial | (simp only [lnA, lnC, lnN]; omega) | (simp only [lnA, lnC, lnN, Nat.reduceAdd])) only [go_sem, e_go, e_cond_bool, e_w_bool, e_step_ite, e_reg_ite, e_regW_ite, e_code_ite, e_block_ite, e_evQ_ite, e_fin_ite, e_pair_ite, Tryz.f90, hg, hg2, hw, ha]
      exact ⟨i + 1, dn h1, ⟨h1, hnx⟩, rfl, by simp [HasE, lk]⟩
    · cases hb : b[i] <;> simp only [hb] at hnx
      · have hf := hall hnx
        simp (disch := first | assumption | omega | exact okR_new | exact okR_one | exact trivial | (simp only [lnA, lnC, lnN]; omega) | (simp only [lnA, lnC, lnN, Nat.reduceAdd])) only [go_sem, e_go, e_cond_bool, e_w_bool, e_step_ite, e_reg_ite, e_regW_ite, e_code_ite, e_block_ite, e_evQ_ite, e_fin_ite, e_pair_ite, Tryz.f90, hg, hg2, hw, ha, hb, hf]
      · simp (disch := first | assumption | omega | exact okR_new | exact okR_one | exact trivial | (simp only [lnA, lnC, lnN]; omega) | (simp only [lnA, lnC, lnN, Nat.reduceAdd])) only [go_sem, e_go, e_cond_bool, e_w_bool, e_step_ite, e_reg_ite, e_regW_ite, e_code_ite, e_block_ite, e_evQ_ite, e_fin_ite, e_pair_ite, Tryz.f90, hg, hg2, hw, ha, hb]
        exact ⟨i + 1, dn h1, ⟨h1, hnx⟩, rfl, by simp [HasE, lk]⟩
  · have hi' : i = a.length := by omega
    subst hi'
    rw [List.take_length, h, List.take_length] at hq
    simp (disch := first | assumption | omega | exact okR_new | exact okR_one | exact trivial | (simp only [lnA, lnC, lnN]; omega) | (simp only [lnA, lnC, lnN, Nat.reduceAdd])) only [go_sem, e_go, e_cond_bool, e_w_bool, e_step_ite, e_reg_ite, e_regW_ite, e_code_ite, e_block_ite, e_evQ_ite, e_fin_ite, e_pair_ite, Tryz.f90, hq]
noncomputable def iWi : List AVal → Option AVal := pimp fun xs r => ∃ (a b : List Bool), (a.length = b.length ∧ a.length < 100000000) ∧ xs = [slc cB a, slc cB b] ∧ r = .bool (inB a b)
theorem iWi_eq {a b : List Bool} (h : a.length = b.length ∧ a.length < 100000000) : iWi [slc cB a, slc cB b] = some (.bool (inB a b)) := pimp_eq ⟨a, b, h, rfl, rfl⟩ (by rintro _ ⟨a', b', h', e, rfl⟩; have e0 := (List.cons.inj e).1; have e0r := (List.cons.inj e).2; have e1 := (List.cons.inj e0r).1; have e1r := (List.cons.inj e0r).2; have q0 := slc_inj cB_len (fun _ _ _ _ => cB_inj) e0; have q1 := slc_inj cB_len (fun _ _ _ _ => cB_inj) e1; subst q0; subst q1; first | rfl | exact ⟨rfl, rfl⟩)
theorem iWi_call : ∀ xs v, iWi xs = some v → PCall Tryz.prog 90 xs v := fun xs v h0 => by obtain ⟨a, b, h, rfl, rfl⟩ := pimp_spec h0; exact w_within a b h.1 h.2
theorem w_closed (y : Rx) (h : okX y) : PCall Tryz.prog 89 [rV y] (.bool (loopy y)) := by
  have yk0 : (cR y)[0]? = some (.int .i64 y.k) := by rw [cR_eq]; rfl
  have yk5 : (cR y)[5]? = some (.int .i64 y.lo) := by rw [cR_eq]; rfl
  have yk6 : (cR y)[6]? = some (.int .i64 y.hi) := by rw [cR_eq]; rfl
  unfold loopy
  refine PCall.of_w (fn := Tryz.f89) (Γ := gam []) (mu := false) Sound.nil mixed Tryz.func89 rfl (by kernel_rfl) (by simp) (by kernel_rfl) ?_
  by_cases c2 : y.k = 5
  · by_cases c3 : y.hi < 0
    · by_cases c4 : y.lo ≤ 1
      · simp (disch := first | assumption | omega | exact okR_new | exact okR_one | exact trivial | (simp only [lnA, lnC, lnN]; omega) | (simp only [lnA, lnC, lnN, Nat.reduceAdd])) only [go_sem, e_go, e_cond_bool, e_w_bool, e_step_ite, e_reg_ite, e_regW_ite, e_code_ite, e_block_ite, e_evQ_ite, e_fin_ite, e_pair_ite, Tryz.f89, yk0, yk5, yk6, c2]
      · simp (disch := first | assumption | omega | exact okR_new | exact okR_one | exact trivial | (simp only [lnA, lnC, lnN]; omega) | (simp only [lnA, lnC, lnN, Nat.reduceAdd])) only [go_sem, e_go, e_cond_bool, e_w_bool, e_step_ite, e_reg_ite, e_regW_ite, e_code_ite, e_block_ite, e_evQ_ite, e_fin_ite, e_pair_ite, Tryz.f89, yk0, yk5, yk6, c2]
    · simp (disch := first | assumption | omega | exact okR_new | exact okR_one | exact trivial | (simp only [lnA, lnC, lnN]; omega) | (simp only [lnA, lnC, lnN, Nat.reduceAdd])) only [go_sem, e_go, e_cond_bool, e_w_bool, e_step_ite, e_reg_ite, e_regW_ite, e_code_ite, e_block_ite, e_evQ_ite, e_fin_ite, e_pair_ite, Tryz.f89, yk0, yk5, yk6, c2]
      simp [c3]
  · have c2' : decide (y.k = 5) = false := by simp [c2]
    simp (disch := first | assumption | omega | exact okR_new | exact okR_one | exact trivial | (simp only [lnA, lnC, lnN]; omega) | (simp only [lnA, lnC, lnN, Nat.reduceAdd])) only [go_sem, e_go, e_cond_bool, e_w_bool, e_step_ite, e_reg_ite, e_regW_ite, e_code_ite, e_block_ite, e_evQ_ite, e_fin_ite, e_pair_ite, Tryz.f89, yk0, yk5, yk6, c2']
    simp
noncomputable def iClo : List AVal → Option AVal := pimp fun xs r => ∃ (y : Rx), (okX y) ∧ xs = [rV y] ∧ r = .bool (loopy y)
theorem iClo_eq {y : Rx} (h : okX y) : iClo [rV y] = some (.bool (loopy y)) := pimp_eq ⟨y, h, rfl, rfl⟩ (by rintro _ ⟨y', h', e, rfl⟩; have e0 := (List.cons.inj e).1; have e0r := (List.cons.inj e).2; have q0 := rV_inj (by first | assumption | exact h | exact h.1 | exact h.1.1 | exact h.1.1.1 | exact h.2 | exact h.2.1 | exact h.2.2 | exact h.2.2.1) (by first | assumption | exact h' | exact h'.1 | exact h'.1.1 | exact h'.1.1.1 | exact h'.2 | exact h'.2.1 | exact h'.2.2 | exact h'.2.2.1) e0; subst q0; first | rfl | exact ⟨rfl, rfl⟩)
theorem iClo_call : ∀ xs v, iClo xs = some v → PCall Tryz.prog 89 xs v := fun xs v h0 => by obtain ⟨y, h, rfl, rfl⟩ := pimp_spec h0; exact w_closed y h
end Go.Hk.MZ
