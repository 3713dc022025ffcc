import Derived.Test.YtojahfdjfacgaaaHkQ32
import Derived.Test.YtojahfdjfacgaaaHkQ28
/- Layer 13: are two tables the same? -/
set_option linter.unusedSimpArgs false
set_option linter.unusedVariables false
set_option maxRecDepth 20000
namespace Go.Hk.N
open Go.Proofs

theorem w_Same13 (p q : Pk) (h : okPk p) (h' : okPk q) : PCall Try.prog 8 [pkV p, pkV q] (.bool (decide (p = q))) := by
  obtain ⟨h0, h1, h2, h3, h4, h5, h6⟩ := h
  obtain ⟨g0, g1, g2, g3, g4, g5, g6⟩ := h'
  have i1 : iIn [.sl .no p.mp.length (fl cI p.mp), .sl .no q.mp.length (fl cI q.mp)] = _ := iIn_eq ⟨h0, g0⟩
  have i2 : iIn [.sl .no p.bs.length (fl cI p.bs), .sl .no q.bs.length (fl cI q.bs)] = _ := iIn_eq ⟨h1, g1⟩
  have i3 : iIn [.sl .no p.df.length (fl cI p.df), .sl .no q.df.length (fl cI q.df)] = _ := iIn_eq ⟨h2, g2⟩
  have i4 : iIn [.sl .no p.nx.length (fl cI p.nx), .sl .no q.nx.length (fl cI q.nx)] = _ := iIn_eq ⟨h3, g3⟩
  have i5 : iIn [.sl .no p.ck.length (fl cI p.ck), .sl .no q.ck.length (fl cI q.ck)] = _ := iIn_eq ⟨h4, g4⟩
  have i6 : iIn [.sl .no p.ac.length (fl cI p.ac), .sl .no q.ac.length (fl cI q.ac)] = _ := iIn_eq ⟨h5, g5⟩
  have i7 : iIn [.sl .no p.st.length (fl cI p.st), .sl .no q.st.length (fl cI q.st)] = _ := iIn_eq ⟨h6, g6⟩
  rw [pk_dec]
  refine PCall.of_w (fn := Try.f8) (Γ := gam [(19, .pure iIn)]) (mu := false) (Sound.pure iIn_call Sound.nil) mixed Try.func8 rfl (by kernel_rfl) (by simp) (by kernel_rfl) ?_
  (simp (disch := first | assumption | omega | exact okR_new | exact okR_one | exact trivial | (simp only [List.length_append, List.length_cons, List.length_nil]; omega) | (simp only [List.length_append, List.length_cons, List.length_nil, Nat.reduceAdd])) only [go_sem, e_bin_bool, Bool.true_and, Bool.and_true, Bool.false_and, Bool.and_false, Bool.true_or, Bool.or_true, Bool.false_or, Bool.or_false, Bool.not_eq_eq_eq_not, Bool.not_not, z_or, z_and, z_beq_t, z_beq_f, decide_eq_true_eq, decide_eq_false_iff_not, ite_not, Bool.not_eq_true', Bool.or_eq_true, Bool.and_eq_true, i_t, i_f, Try.f8, iIn_eq, i1, i2, i3, i4, i5, i6, i7] <;> (repeat' ((first | refine w_cond_cases ?_ ?_ | refine w_go_cases ?_ ?_ | refine w_pick_cases ?_ ?_) <;> intro hq <;> (try simp only [decide_eq_true_eq, decide_eq_false_iff_not, Bool.not_eq_true', Bool.not_eq_false', Bool.or_eq_true, Bool.and_eq_true, Bool.or_eq_false_iff, Bool.and_eq_false_iff, Bool.not_eq_eq_eq_not, Bool.not_true, Bool.not_false, Bool.not_not] at hq) <;> (first | simp (disch := first | assumption | omega | exact okR_new | exact okR_one | exact trivial | (simp only [List.length_append, List.length_cons, List.length_nil]; omega) | (simp only [List.length_append, List.length_cons, List.length_nil, Nat.reduceAdd])) only [show (_ : Bool) = true from hq, go_sem, e_bin_bool, Bool.true_and, Bool.and_true, Bool.false_and, Bool.and_false, Bool.true_or, Bool.or_true, Bool.false_or, Bool.or_false, Bool.not_eq_eq_eq_not, Bool.not_not, z_or, z_and, z_beq_t, z_beq_f, decide_eq_true_eq, decide_eq_false_iff_not, ite_not, Bool.not_eq_true', Bool.or_eq_true, Bool.and_eq_true, i_t, i_f, Try.f8, iIn_eq, i1, i2, i3, i4, i5, i6, i7] | simp (disch := first | assumption | omega | exact okR_new | exact okR_one | exact trivial | (simp only [List.length_append, List.length_cons, List.length_nil]; omega) | (simp only [List.length_append, List.length_cons, List.length_nil, Nat.reduceAdd])) only [show (_ : Bool) = false from hq, go_sem, e_bin_bool, Bool.true_and, Bool.and_true, Bool.false_and, Bool.and_false, Bool.true_or, Bool.or_true, Bool.false_or, Bool.or_false, Bool.not_eq_eq_eq_not, Bool.not_not, z_or, z_and, z_beq_t, z_beq_f, decide_eq_true_eq, decide_eq_false_iff_not, ite_not, Bool.not_eq_true', Bool.or_eq_true, Bool.and_eq_true, i_t, i_f, Try.f8, iIn_eq, i1, i2, i3, i4, i5, i6, i7] | simp (disch := first | assumption | omega | exact okR_new | exact okR_one | exact trivial | (simp only [List.length_append, List.length_cons, List.length_nil]; omega) | (simp only [List.length_append, List.length_cons, List.length_nil, Nat.reduceAdd])) only [go_sem, e_bin_bool, Bool.true_and, Bool.and_true, Bool.false_and, Bool.and_false, Bool.true_or, Bool.or_true, Bool.false_or, Bool.or_false, Bool.not_eq_eq_eq_not, Bool.not_not, z_or, z_and, z_beq_t, z_beq_f, decide_eq_true_eq, decide_eq_false_iff_not, ite_not, Bool.not_eq_true', Bool.or_eq_true, Bool.and_eq_true, i_t, i_f, Try.f8, iIn_eq, i1, i2, i3, i4, i5, i6, i7] | skip)))) <;> (first | rfl | omega | ((repeat' split) <;> (try rw [Bool.eq_iff_iff]) <;> (try simp only [Bool.and_eq_true, Bool.or_eq_true, decide_eq_true_eq, Bool.not_eq_true', Bool.not_eq_false', decide_eq_false_iff_not, decide_eq_decide, Bool.false_eq_true, beq_iff_eq, Bool.not_eq_eq_eq_not, Bool.not_true, Bool.not_false, true_iff, false_iff, iff_true, iff_false, and_true, true_and, not_true_eq_false, not_false_eq_true] at *) <;> first | omega | grind))
noncomputable def iSm : List AVal → Option AVal := pimp fun xs r => ∃ (p : Pk) (q : Pk), (okPk p ∧ okPk q) ∧ xs = [pkV p, pkV q] ∧ r = .bool (decide (p = q))
theorem iSm_eq {p : Pk} {q : Pk} (h : okPk p ∧ okPk q) : iSm [pkV p, pkV q] = some (.bool (decide (p = q))) := pimp_eq ⟨p, q, h, rfl, rfl⟩ (by rintro _ ⟨p', q', h', e, rfl⟩; have e0 := pkV_inj (List.cons.inj e).1; have e1 := pkV_inj (List.cons.inj (List.cons.inj e).2).1; subst e0 e1; rfl)
theorem iSm_call : ∀ xs v, iSm xs = some v → PCall Try.prog 8 xs v := fun xs v h0 => by obtain ⟨p, q, h, rfl, rfl⟩ := pimp_spec h0; exact w_Same13 p q h.1 h.2
end Go.Hk.N
/- strings.Builder: its methods. -/
namespace Go.Hk.N
open Go.Proofs
theorem ti5 : tiOf Try.prog 5 = some { size := 1, bytes := 1, zero := some (.int .u8 0), k := .int .u8 } := by kernel_rfl
attribute [go_sem] ti5
theorem ti9 : tiOf Try.prog 9 = some { size := 1, bytes := 16, zero := some (.str []), k := .str } := by kernel_rfl
attribute [go_sem] ti9
theorem ti35 : tiOf Try.prog 35 = some { size := 1, bytes := 8, zero := some (.nilp), k := .ptr 38 } := by kernel_rfl
attribute [go_sem] ti35
theorem ti36 : tiOf Try.prog 36 = some { size := 1, bytes := 24, zero := some (.sl .nil 0 []), k := .slice 5 } := by kernel_rfl
attribute [go_sem] ti36
theorem ti38 : tiOf Try.prog 38 = some { size := 2, bytes := 32, zero := some (.agg [.nilp, .sl .nil 0 []]), k := .struct [(true, 35, 0), (true, 36, 1)] } := by kernel_rfl
attribute [go_sem] ti38
theorem ti40 : tiOf Try.prog 40 = some { size := 2, bytes := 32, zero := some (.agg [.nilp, .sl .nil 0 []]), k := .struct [(true, 38, 0)] } := by kernel_rfl
attribute [go_sem] ti40
theorem ti42 : tiOf Try.prog 42 = some { size := 1, bytes := 16, zero := some (.nili), k := .iface } := by kernel_rfl
attribute [go_sem] ti42
theorem ti68 : tiOf Try.prog 68 = some { size := 1, bytes := 8, zero := some (.nilp), k := .ptr 5 } := by kernel_rfl
attribute [go_sem] ti68
theorem ti72 : tiOf Try.prog 72 = some { size := 1, bytes := 8, zero := some (.nilp), k := .other } := by kernel_rfl
attribute [go_sem] ti72
theorem iNE_call : ∀ xs T r T', iNE xs T = some (r, T') → ECall Try.prog 32 xs T r T' := by
  intro xs T r T' h
  unfold iNE at h
  split at h
  · cases h
    exact ecall_same Try.func32 (by kernel_rfl) (by kernel_rfl) (by kernel_rfl) (by kernel_rfl) _ _
  · cases h

theorem iCC_call : ∀ xs m v m', iCC 40 xs m = some (v, m') → RCall Try.prog 26 xs m v m' := by
  rintro xs ⟨H, T⟩ v m' h
  unfold iCC at h
  split at h
  · rename_i B' b k
    split at h
    · rename_i hc
      obtain ⟨rfl, rfl⟩ := hc
      split at h
      · rename_i x hx
        have hl := (List.getElem?_eq_some_iff.1 hx).1
        cases h
        simp only at hx hl
        have hcast : castOK Try.prog 35 72 40 2 = true := by kernel_rfl
        have hcast' : castOK Try.prog 72 35 40 2 = true := by kernel_rfl
        refine RCall.of_w (fn := Try.f26) (Γ := gam [(32, .ext iNE)]) (mu := false) (by simp) (by simp) (Sound.ext iNE_call Sound.nil) mixed Try.func26 rfl (by kernel_rfl) (by simp) (by kernel_rfl) ?_
        simp (disch := first | assumption | omega | exact okR_new | exact okR_one | exact trivial | (simp only [List.length_append, List.length_cons, List.length_nil]; omega) | (simp only [List.length_append, List.length_cons, List.length_nil, Nat.reduceAdd])) only [go_sem, e_go, e_cond_bool, e_w_bool, e_step_ite, e_reg_ite, e_regW_ite, e_code_ite, e_block_ite, e_evQ_ite, e_fin_ite, e_pair_ite, Try.f26, iNE_eq, hx, set_at, hcast, hcast']
        exact .inl rfl
      · rename_i B'' b' k' x hx
        split at h
        · rename_i hc
          obtain ⟨rfl, rfl, rfl⟩ := hc
          have hl := (List.getElem?_eq_some_iff.1 hx).1
          cases h
          simp only at hx hl
          have hpt : ptrT Try.prog 35 = true := by kernel_rfl
          refine RCall.of_w (fn := Try.f26) (Γ := gam [(32, .ext iNE)]) (mu := false) (by simp) (by simp) (Sound.ext iNE_call Sound.nil) mixed Try.func26 rfl (by kernel_rfl) (by simp) (by kernel_rfl) ?_
          simp (disch := first | assumption | omega | exact okR_new | exact okR_one | exact trivial | (simp only [List.length_append, List.length_cons, List.length_nil]; omega) | (simp only [List.length_append, List.length_cons, List.length_nil, Nat.reduceAdd])) only [go_sem, e_go, e_cond_bool, e_w_bool, e_step_ite, e_reg_ite, e_regW_ite, e_code_ite, e_block_ite, e_evQ_ite, e_fin_ite, e_pair_ite, Try.f26, iNE_eq, hx, set_at, hpt]
          exact .inl rfl
        · cases h
      · cases h
    · cases h
  · cases h

theorem apU_T : appT Try.prog 36 36 = some ⟨5, 1, 1⟩ := by kernel_rfl
theorem apS_T : appT Try.prog 36 9 = some ⟨5, 1, 1⟩ := by kernel_rfl
theorem apU_mk (mu : Bool) (m : AMem) {c : UInt8} : abuildSlice Try.prog mu m 36 1 [(0, .int .u8 (c.toNat : Nat))] = some (.sl .full 1 (cU c), m) := build_one ti36 ti5 rfl rfl (cU_len c) rfl (by decide) (by decide)
theorem apU_one {H : List ABlk} {T : List (Nat × (Nat × Nat))} {r r' : Rt} {l} {x} (hr : okR T r l.length (1, 5) = true) (hn : l.length + 1 < 1000000000) : aappend Try.prog 36 36 ⟨H, T⟩ (.sl r l.length (fl cU l)) (.sl r' 1 (cU x)) = some (.sl (nxR T r) (l ++ [x]).length (fl cU (l ++ [x])), ⟨H, nxT T r (l ++ [x]).length (1, 5)⟩) := app_fl1 apU_T (by decide) cU_len rfl hr hn
theorem apU_first {H : List ABlk} {T : List (Nat × (Nat × Nat))} {r' : Rt} {x} : aappend Try.prog 36 36 ⟨H, T⟩ (.sl .nil 0 []) (.sl r' 1 (cU x)) = some (.sl (.tok T.length) [x].length (fl cU [x]), ⟨H, T ++ [([x].length, (1, 5))]⟩) := apU_one (r := .nil) (l := []) rfl (by decide)
theorem iWB_call : ∀ xs m v m', iWB 40 5 xs m = some (v, m') → RCall Try.prog 27 xs m v m' := by
  rintro xs ⟨H, T⟩ v m' h
  unfold iWB at h
  split at h
  · rename_i B' b k c
    split at h
    · rename_i hc
      obtain ⟨rfl, rfl, h0, h1⟩ := hc
      have hcu := u8_of h0 h1
      generalize UInt8.ofNat c.toNat = u at *
      subst hcu
      obtain ⟨rfl, ⟨hs, hx, rfl⟩ | ⟨t, s, hx, ho, hs, rfl⟩⟩ := bld_cases h
      · rcases hx with hx | hx <;>
        · have hl := (List.getElem?_eq_some_iff.1 hx).1
          simp only at hx hl
          refine RCall.of_w (fn := Try.f27) (Γ := gam [(26, .raw (iCC 40))]) (mu := false) (by simp) (by simp) (Sound.raw iCC_call Sound.nil) mixed Try.func27 rfl (by kernel_rfl) (by simp) (by kernel_rfl) ?_
          simp (disch := first | assumption | omega | exact okR_new | exact okR_one | exact trivial | (simp only [List.length_append, List.length_cons, List.length_nil]; omega) | (simp only [List.length_append, List.length_cons, List.length_nil, Nat.reduceAdd])) only [go_sem, e_go, e_cond_bool, e_w_bool, e_step_ite, e_reg_ite, e_regW_ite, e_code_ite, e_block_ite, e_evQ_ite, e_fin_ite, e_pair_ite, Try.f27, iCC_eq, cc_new, cc_on, hx, set_at, List.set_set, apU_mk, apU_first]
          exact .inl rfl
      · have hl := (List.getElem?_eq_some_iff.1 hx).1
        simp only at hx hl ho
        have hs' : s.length + 1 < 1000000000 := hs
        refine RCall.of_w (fn := Try.f27) (Γ := gam [(26, .raw (iCC 40))]) (mu := false) (by simp) (by simp) (Sound.raw iCC_call Sound.nil) mixed Try.func27 rfl (by kernel_rfl) (by simp) (by kernel_rfl) ?_
        simp (disch := first | assumption | omega | exact okR_new | exact okR_one | exact trivial | (simp only [List.length_append, List.length_cons, List.length_nil]; omega) | (simp only [List.length_append, List.length_cons, List.length_nil, Nat.reduceAdd])) only [go_sem, e_go, e_cond_bool, e_w_bool, e_step_ite, e_reg_ite, e_regW_ite, e_code_ite, e_block_ite, e_evQ_ite, e_fin_ite, e_pair_ite, Try.f27, iCC_eq, cc_new, cc_on, hx, set_at, List.set_set, apU_mk, apU_one, nxR, nxT]
        exact .inl rfl
    · cases h
  · cases h

theorem iWS_call : ∀ xs m v m', iWS 40 5 xs m = some (v, m') → RCall Try.prog 12 xs m v m' := by
  rintro xs ⟨H, T⟩ v m' h
  unfold iWS at h
  split at h
  · rename_i B' b k s'
    split at h
    · rename_i hc
      obtain ⟨rfl, rfl⟩ := hc
      obtain ⟨rfl, ⟨hs, hx, rfl⟩ | ⟨t, s, hx, ho, hs, rfl⟩⟩ := bld_cases h
      · have hap := app_str (H := H) (T := T) (r := .nil) (l := []) (s := s') apS_T rfl (fun h => by cases h) (by simpa using hs)
        rcases hx with hx | hx <;>
        · have hl := (List.getElem?_eq_some_iff.1 hx).1
          simp only at hx hl
          have hap := app_str (H := H.set b (.cells 0 [.tpt 40 b 2, .sl .nil 0 []])) (T := T) (r := .nil) (l := []) (s := s') apS_T rfl (fun h => by cases h) (by simpa using hs)
          have hap2 := app_str (H := H) (T := T) (r := .nil) (l := []) (s := s') apS_T rfl (fun h => by cases h) (by simpa using hs)
          simp only [List.length_nil, fl_nil, List.nil_append] at hap hap2
          refine RCall.of_w (fn := Try.f12) (Γ := gam [(26, .raw (iCC 40))]) (mu := false) (by simp) (by simp) (Sound.raw iCC_call Sound.nil) mixed Try.func12 rfl (by kernel_rfl) (by simp) (by kernel_rfl) ?_
          simp (disch := first | assumption | omega | exact okR_new | exact okR_one | exact trivial | (simp only [List.length_append, List.length_cons, List.length_nil]; omega) | (simp only [List.length_append, List.length_cons, List.length_nil, Nat.reduceAdd])) only [go_sem, e_go, e_cond_bool, e_w_bool, e_step_ite, e_reg_ite, e_regW_ite, e_code_ite, e_block_ite, e_evQ_ite, e_fin_ite, e_pair_ite, Try.f12, iCC_eq, cc_new, cc_on, hx, set_at, List.set_set, hap, hap2, nxR, nxT]
          exact .inl rfl
      · have hl := (List.getElem?_eq_some_iff.1 hx).1
        simp only at hx hl ho
        have hap := app_str (H := H) (s := s') apS_T ho (fun h => by cases h) hs
        refine RCall.of_w (fn := Try.f12) (Γ := gam [(26, .raw (iCC 40))]) (mu := false) (by simp) (by simp) (Sound.raw iCC_call Sound.nil) mixed Try.func12 rfl (by kernel_rfl) (by simp) (by kernel_rfl) ?_
        simp (disch := first | assumption | omega | exact okR_new | exact okR_one | exact trivial | (simp only [List.length_append, List.length_cons, List.length_nil]; omega) | (simp only [List.length_append, List.length_cons, List.length_nil, Nat.reduceAdd])) only [go_sem, e_go, e_cond_bool, e_w_bool, e_step_ite, e_reg_ite, e_regW_ite, e_code_ite, e_block_ite, e_evQ_ite, e_fin_ite, e_pair_ite, Try.f12, iCC_eq, cc_new, cc_on, hx, set_at, List.set_set, hap, nxR, nxT]
        exact .inl rfl
    · cases h
  · cases h

theorem iBS_call : ∀ xs m v m', iBS 40 5 xs m = some (v, m') → RCall Try.prog 15 xs m v m' := by
  rintro xs ⟨H, T⟩ v m' h
  unfold iBS at h
  split at h
  · rename_i B' b k
    split at h
    · rename_i hc
      obtain ⟨rfl, rfl⟩ := hc
      split at h
      · rename_i p hx
        have hl := (List.getElem?_eq_some_iff.1 hx).1
        cases h
        simp only at hx hl
        refine RCall.of_w (fn := Try.f15) (Γ := gam []) (mu := false) (by simp) (by simp) Sound.nil mixed Try.func15 rfl (by kernel_rfl) (by simp) (by kernel_rfl) ?_
        simp (disch := first | assumption | omega | exact okR_new | exact okR_one | exact trivial | (simp only [List.length_append, List.length_cons, List.length_nil]; omega) | (simp only [List.length_append, List.length_cons, List.length_nil, Nat.reduceAdd])) only [go_sem, e_go, e_cond_bool, e_w_bool, e_step_ite, e_reg_ite, e_regW_ite, e_code_ite, e_block_ite, e_evQ_ite, e_fin_ite, e_pair_ite, Try.f15, hx, adata, austr]
        exact .inl rfl
      · rename_i p t n cs hx
        split at h
        · rename_i s hb
          split at h
          · rename_i hc
            obtain ⟨ho, rfl, hs, hs2⟩ := hc
            have hl := (List.getElem?_eq_some_iff.1 hx).1
            cases h
            have := bytesOf_spec _ _ hb
            rw [← fl_cU_map] at this
            subst this
            simp only at hx hl ho
            have hpt : ptTo Try.prog 68 5 = true := by kernel_rfl
            have htt : T[t]? = some (s.length, (1, 5)) := by simpa [okR] using ho
            refine RCall.of_w (fn := Try.f15) (Γ := gam []) (mu := false) (by simp) (by simp) Sound.nil mixed Try.func15 rfl (by kernel_rfl) (by simp) (by kernel_rfl) ?_
            simp (disch := first | assumption | omega | exact okR_new | exact okR_one | exact trivial | (simp only [List.length_append, List.length_cons, List.length_nil]; omega) | (simp only [List.length_append, List.length_cons, List.length_nil, Nat.reduceAdd])) only [go_sem, e_go, e_cond_bool, e_w_bool, e_step_ite, e_reg_ite, e_regW_ite, e_code_ite, e_block_ite, e_evQ_ite, e_fin_ite, e_pair_ite, Try.f15, hx, adata, austr, l_n_cU, htt, hpt, bytesOf_cU]
            exact .inl rfl
          · cases h
        · cases h
      · cases h
    · cases h
  · cases h

end Go.Hk.N
