/- strings.Builder: its methods. -/
import Derived.Test.YtpbepclmcjmlbaaGreatDoorHkDZDL2
import Derived.Test.YtpbepclmcjmlbaaGreatDoorHkDZDL1
import Derived.Test.YtpbepclmcjmlbaaGreatDoorHkPg
set_option linter.unusedSimpArgs false
set_option linter.unusedVariables false
namespace Go.Hk.DZD
open Go.Proofs
theorem ti5 : tiOf Tryz.prog 5 = some { size := 1, bytes := 1, zero := some (.int .u8 0), k := .int .u8 } := by kernel_rfl
attribute [go_sem] ti5
theorem ti9 : tiOf Tryz.prog 9 = some { size := 1, bytes := 16, zero := some (.str []), k := .str } := by kernel_rfl
attribute [go_sem] ti9
theorem ti20 : tiOf Tryz.prog 20 = some { size := 1, bytes := 16, zero := some (.nili), k := .iface } := by kernel_rfl
attribute [go_sem] ti20
theorem ti22 : tiOf Tryz.prog 22 = some { size := 1, bytes := 24, zero := some (.sl .nil 0 []), k := .slice 5 } := by kernel_rfl
attribute [go_sem] ti22
theorem ti65 : tiOf Tryz.prog 65 = some { size := 1, bytes := 8, zero := some (.nilp), k := .ptr 67 } := by kernel_rfl
attribute [go_sem] ti65
theorem ti67 : tiOf Tryz.prog 67 = some { size := 2, bytes := 32, zero := some (.agg [.nilp, .sl .nil 0 []]), k := .struct [(true, 65, 0), (true, 22, 1)] } := by kernel_rfl
attribute [go_sem] ti67
theorem ti72 : tiOf Tryz.prog 72 = some { size := 1, bytes := 16, zero := some (.nili), k := .iface } := by kernel_rfl
attribute [go_sem] ti72
theorem ti88 : tiOf Tryz.prog 88 = some { size := 1, bytes := 8, zero := some (.nilp), k := .ptr 5 } := by kernel_rfl
attribute [go_sem] ti88
theorem ti100 : tiOf Tryz.prog 100 = some { size := 1, bytes := 8, zero := some (.nilp), k := .other } := by kernel_rfl
attribute [go_sem] ti100
theorem iNE_call : ∀ xs T r T', iNE xs T = some (r, T') → ECall Tryz.prog 64 xs T r T' := by
  intro xs T r T' h
  unfold iNE at h
  split at h
  · cases h
    exact ecall_same Tryz.func64 (by kernel_rfl) (by kernel_rfl) (by kernel_rfl) (by kernel_rfl) _ _
  · cases h

theorem iCC_call : ∀ xs m v m', iCC 67 xs m = some (v, m') → RCall Tryz.prog 47 xs m v m' := by
  rintro xs ⟨H, T⟩ v m' h
  unfold iCC at h
  split at h
  · rename_i B' b k
    split at h
    · rename_i hc
      obtain ⟨rfl, rfl⟩ := hc
      split at h
      · rename_i x hx
        have hl := (List.getElem?_eq_some_iff.1 hx).1
        cases h
        simp only at hx hl
        have hcast : castOK Tryz.prog 65 100 67 2 = true := by kernel_rfl
        have hcast' : castOK Tryz.prog 100 65 67 2 = true := by kernel_rfl
        refine RCall.of_w (fn := Tryz.f47) (Γ := gam [(64, .ext iNE)]) (mu := false) (by simp) (by simp) (Sound.ext iNE_call Sound.nil) mixed Tryz.func47 rfl (by kernel_rfl) (by simp) (by kernel_rfl) ?_
        simp (disch := first | assumption | omega | exact okR_new | exact okR_one | exact trivial | (simp only [List.length_append, List.length_cons, List.length_nil]; omega) | (simp only [List.length_append, List.length_cons, List.length_nil, Nat.reduceAdd])) only [go_sem, e_go, e_cond_bool, e_w_bool, e_step_ite, e_reg_ite, e_regW_ite, e_code_ite, e_block_ite, e_evQ_ite, e_fin_ite, e_pair_ite, Tryz.f47, iNE_eq, hx, set_at, hcast, hcast']
        exact .inl rfl
      · rename_i B'' b' k' x hx
        split at h
        · rename_i hc
          obtain ⟨rfl, rfl, rfl⟩ := hc
          have hl := (List.getElem?_eq_some_iff.1 hx).1
          cases h
          simp only at hx hl
          have hpt : ptrT Tryz.prog 65 = true := by kernel_rfl
          refine RCall.of_w (fn := Tryz.f47) (Γ := gam [(64, .ext iNE)]) (mu := false) (by simp) (by simp) (Sound.ext iNE_call Sound.nil) mixed Tryz.func47 rfl (by kernel_rfl) (by simp) (by kernel_rfl) ?_
          simp (disch := first | assumption | omega | exact okR_new | exact okR_one | exact trivial | (simp only [List.length_append, List.length_cons, List.length_nil]; omega) | (simp only [List.length_append, List.length_cons, List.length_nil, Nat.reduceAdd])) only [go_sem, e_go, e_cond_bool, e_w_bool, e_step_ite, e_reg_ite, e_regW_ite, e_code_ite, e_block_ite, e_evQ_ite, e_fin_ite, e_pair_ite, Tryz.f47, iNE_eq, hx, set_at, hpt]
          exact .inl rfl
        · cases h
      · cases h
    · cases h
  · cases h

theorem apU_T : appT Tryz.prog 22 22 = some ⟨5, 1, 1⟩ := by kernel_rfl
theorem apS_T : appT Tryz.prog 22 9 = some ⟨5, 1, 1⟩ := by kernel_rfl
theorem apU_mk (mu : Bool) (m : AMem) {c : UInt8} : abuildSlice Tryz.prog mu m 22 1 [(0, .int .u8 (c.toNat : Nat))] = some (.sl .full 1 (cU c), m) := build_one ti22 ti5 rfl rfl (cU_len c) rfl (by decide) (by decide)
theorem apU_one {H : List ABlk} {T : List (Nat × (Nat × Nat))} {r r' : Rt} {l} {x} (hr : okR T r l.length (1, 5) = true) (hn : l.length + 1 < 1000000000) : aappend Tryz.prog 22 22 ⟨H, T⟩ (.sl r l.length (fl cU l)) (.sl r' 1 (cU x)) = some (.sl (nxR T r) (l ++ [x]).length (fl cU (l ++ [x])), ⟨H, nxT T r (l ++ [x]).length (1, 5)⟩) := app_fl1 apU_T (by decide) cU_len rfl hr hn
theorem apU_first {H : List ABlk} {T : List (Nat × (Nat × Nat))} {r' : Rt} {x} : aappend Tryz.prog 22 22 ⟨H, T⟩ (.sl .nil 0 []) (.sl r' 1 (cU x)) = some (.sl (.tok T.length) [x].length (fl cU [x]), ⟨H, T ++ [([x].length, (1, 5))]⟩) := apU_one (r := .nil) (l := []) rfl (by decide)
theorem iWB_call : ∀ xs m v m', iWB 67 5 xs m = some (v, m') → RCall Tryz.prog 92 xs m v m' := by
  rintro xs ⟨H, T⟩ v m' h
  unfold iWB at h
  split at h
  · rename_i B' b k c
    split at h
    · rename_i hc
      obtain ⟨rfl, rfl, h0, h1⟩ := hc
      have hcu := u8_of h0 h1
      generalize UInt8.ofNat c.toNat = u at *
      subst hcu
      obtain ⟨rfl, ⟨hs, hx, rfl⟩ | ⟨t, s, hx, ho, hs, rfl⟩⟩ := bld_cases h
      · rcases hx with hx | hx <;>
        · have hl := (List.getElem?_eq_some_iff.1 hx).1
          simp only at hx hl
          refine RCall.of_w (fn := Tryz.f92) (Γ := gam [(47, .raw (iCC 67))]) (mu := false) (by simp) (by simp) (Sound.raw iCC_call Sound.nil) mixed Tryz.func92 rfl (by kernel_rfl) (by simp) (by kernel_rfl) ?_
          simp (disch := first | assumption | omega | exact okR_new | exact okR_one | exact trivial | (simp only [List.length_append, List.length_cons, List.length_nil]; omega) | (simp only [List.length_append, List.length_cons, List.length_nil, Nat.reduceAdd])) only [go_sem, e_go, e_cond_bool, e_w_bool, e_step_ite, e_reg_ite, e_regW_ite, e_code_ite, e_block_ite, e_evQ_ite, e_fin_ite, e_pair_ite, Tryz.f92, iCC_eq, cc_new, cc_on, hx, set_at, List.set_set, apU_mk, apU_first]
          exact .inl rfl
      · have hl := (List.getElem?_eq_some_iff.1 hx).1
        simp only at hx hl ho
        have hs' : s.length + 1 < 1000000000 := hs
        refine RCall.of_w (fn := Tryz.f92) (Γ := gam [(47, .raw (iCC 67))]) (mu := false) (by simp) (by simp) (Sound.raw iCC_call Sound.nil) mixed Tryz.func92 rfl (by kernel_rfl) (by simp) (by kernel_rfl) ?_
        simp (disch := first | assumption | omega | exact okR_new | exact okR_one | exact trivial | (simp only [List.length_append, List.length_cons, List.length_nil]; omega) | (simp only [List.length_append, List.length_cons, List.length_nil, Nat.reduceAdd])) only [go_sem, e_go, e_cond_bool, e_w_bool, e_step_ite, e_reg_ite, e_regW_ite, e_code_ite, e_block_ite, e_evQ_ite, e_fin_ite, e_pair_ite, Tryz.f92, iCC_eq, cc_new, cc_on, hx, set_at, List.set_set, apU_mk, apU_one, nxR, nxT]
        exact .inl rfl
    · cases h
  · cases h

theorem iWS_call : ∀ xs m v m', iWS 67 5 xs m = some (v, m') → RCall Tryz.prog 28 xs m v m' := by
  rintro xs ⟨H, T⟩ v m' h
  unfold iWS at h
  split at h
  · rename_i B' b k s'
    split at h
    · rename_i hc
      obtain ⟨rfl, rfl⟩ := hc
      obtain ⟨rfl, ⟨hs, hx, rfl⟩ | ⟨t, s, hx, ho, hs, rfl⟩⟩ := bld_cases h
      · have hap := app_str (H := H) (T := T) (r := .nil) (l := []) (s := s') apS_T rfl (fun h => by cases h) (by simpa using hs)
        rcases hx with hx | hx <;>
        · have hl := (List.getElem?_eq_some_iff.1 hx).1
          simp only at hx hl
          have hap := app_str (H := H.set b (.cells 0 [.tpt 67 b 2, .sl .nil 0 []])) (T := T) (r := .nil) (l := []) (s := s') apS_T rfl (fun h => by cases h) (by simpa using hs)
          have hap2 := app_str (H := H) (T := T) (r := .nil) (l := []) (s := s') apS_T rfl (fun h => by cases h) (by simpa using hs)
          simp only [List.length_nil, fl_nil, List.nil_append] at hap hap2
          refine RCall.of_w (fn := Tryz.f28) (Γ := gam [(47, .raw (iCC 67))]) (mu := false) (by simp) (by simp) (Sound.raw iCC_call Sound.nil) mixed Tryz.func28 rfl (by kernel_rfl) (by simp) (by kernel_rfl) ?_
          simp (disch := first | assumption | omega | exact okR_new | exact okR_one | exact trivial | (simp only [List.length_append, List.length_cons, List.length_nil]; omega) | (simp only [List.length_append, List.length_cons, List.length_nil, Nat.reduceAdd])) only [go_sem, e_go, e_cond_bool, e_w_bool, e_step_ite, e_reg_ite, e_regW_ite, e_code_ite, e_block_ite, e_evQ_ite, e_fin_ite, e_pair_ite, Tryz.f28, iCC_eq, cc_new, cc_on, hx, set_at, List.set_set, hap, hap2, nxR, nxT]
          exact .inl rfl
      · have hl := (List.getElem?_eq_some_iff.1 hx).1
        simp only at hx hl ho
        have hap := app_str (H := H) (s := s') apS_T ho (fun h => by cases h) hs
        refine RCall.of_w (fn := Tryz.f28) (Γ := gam [(47, .raw (iCC 67))]) (mu := false) (by simp) (by simp) (Sound.raw iCC_call Sound.nil) mixed Tryz.func28 rfl (by kernel_rfl) (by simp) (by kernel_rfl) ?_
        simp (disch := first | assumption | omega | exact okR_new | exact okR_one | exact trivial | (simp only [List.length_append, List.length_cons, List.length_nil]; omega) | (simp only [List.length_append, List.length_cons, List.length_nil, Nat.reduceAdd])) only [go_sem, e_go, e_cond_bool, e_w_bool, e_step_ite, e_reg_ite, e_regW_ite, e_code_ite, e_block_ite, e_evQ_ite, e_fin_ite, e_pair_ite, Tryz.f28, iCC_eq, cc_new, cc_on, hx, set_at, List.set_set, hap, nxR, nxT]
        exact .inl rfl
    · cases h
  · cases h

theorem iBS_call : ∀ xs m v m', iBS 67 5 xs m = some (v, m') → RCall Tryz.prog 29 xs m v m' := by
  rintro xs ⟨H, T⟩ v m' h
  unfold iBS at h
  split at h
  · rename_i B' b k
    split at h
    · rename_i hc
      obtain ⟨rfl, rfl⟩ := hc
      split at h
      · rename_i p hx
        have hl := (List.getElem?_eq_some_iff.1 hx).1
        cases h
        simp only at hx hl
        refine RCall.of_w (fn := Tryz.f29) (Γ := gam []) (mu := false) (by simp) (by simp) Sound.nil mixed Tryz.func29 rfl (by kernel_rfl) (by simp) (by kernel_rfl) ?_
        simp (disch := first | assumption | omega | exact okR_new | exact okR_one | exact trivial | (simp only [List.length_append, List.length_cons, List.length_nil]; omega) | (simp only [List.length_append, List.length_cons, List.length_nil, Nat.reduceAdd])) only [go_sem, e_go, e_cond_bool, e_w_bool, e_step_ite, e_reg_ite, e_regW_ite, e_code_ite, e_block_ite, e_evQ_ite, e_fin_ite, e_pair_ite, Tryz.f29, hx, adata, austr]
        exact .inl rfl
      · rename_i p t n cs hx
        split at h
        · rename_i s hb
          split at h
          · rename_i hc
            obtain ⟨ho, rfl, hs, hs2⟩ := hc
            have hl := (List.getElem?_eq_some_iff.1 hx).1
            cases h
            have := bytesOf_spec _ _ hb
            rw [← fl_cU_map] at this
            subst this
            simp only at hx hl ho
            have hpt : ptTo Tryz.prog 88 5 = true := by kernel_rfl
            have htt : T[t]? = some (s.length, (1, 5)) := by simpa [okR] using ho
            refine RCall.of_w (fn := Tryz.f29) (Γ := gam []) (mu := false) (by simp) (by simp) Sound.nil mixed Tryz.func29 rfl (by kernel_rfl) (by simp) (by kernel_rfl) ?_
            simp (disch := first | assumption | omega | exact okR_new | exact okR_one | exact trivial | (simp only [List.length_append, List.length_cons, List.length_nil]; omega) | (simp only [List.length_append, List.length_cons, List.length_nil, Nat.reduceAdd])) only [go_sem, e_go, e_cond_bool, e_w_bool, e_step_ite, e_reg_ite, e_regW_ite, e_code_ite, e_block_ite, e_evQ_ite, e_fin_ite, e_pair_ite, Tryz.f29, hx, adata, austr, l_n_cU, htt, hpt, bytesOf_cU]
            exact .inl rfl
          · cases h
        · cases h
      · cases h
    · cases h
  · cases h

theorem iMZ_call : ∀ xs T r T', iMZ 5 xs T = some (r, T') → ECall Tryz.prog 86 xs T r T' := by
  intro xs T r T' h
  unfold iMZ at h
  split at h
  · rename_i n
    split at h
    · rename_i hn
      obtain ⟨k, rfl⟩ := Int.eq_ofNat_of_zero_le hn.1
      cases h
      have := ecall_room (ps := #[3]) (t := 22) (e := 5) Tryz.func86 (by kernel_rfl) (by kernel_rfl) (by kernel_rfl) (by kernel_rfl) (by kernel_rfl) k (by omega) T
      simpa using this
    · cases h
  · cases h

/-- Room, where there is none yet. -/
theorem w_grow (H : List ABlk) (T : List (Nat × (Nat × Nat))) (b : Nat) (p : AVal) (n : Int) (h0 : 0 < n) (hn : n ≤ 281474976710656) (hx : H[b]? = some (.cells 0 [p, .sl .nil 0 []])) :
    RCall Tryz.prog 83 [.tpt 67 b 2, .int .i64 n] ⟨H, T⟩ .undef ⟨H.set b (.cells 0 [p, .sl (.tok T.length) 0 []]), T ++ [(0, (1, 5))]⟩ := by
  have hl := (List.getElem?_eq_some_iff.1 hx).1
  refine RCall.of_w (fn := Tryz.f83) (Γ := gam [(86, .ext (iMZ 5))]) (mu := false) (by simp) (by simp) (Sound.ext iMZ_call Sound.nil) mixed Tryz.func83 rfl (by kernel_rfl) (by simp) (by kernel_rfl) ?_
  simp (disch := first | assumption | omega | exact okR_new | exact okR_one | exact trivial | (simp only [List.length_append, List.length_cons, List.length_nil]; omega) | (simp only [List.length_append, List.length_cons, List.length_nil, Nat.reduceAdd])) only [go_sem, e_go, e_cond_bool, e_w_bool, e_step_ite, e_reg_ite, e_regW_ite, e_code_ite, e_block_ite, e_evQ_ite, e_fin_ite, e_pair_ite, Tryz.f83, iMZ_eq, hx, set_at, acap, acopy, alist]

  exact .inl rfl
theorem iGw_call : ∀ xs m v m', iGw 67 5 xs m = some (v, m') → RCall Tryz.prog 83 xs m v m' := by
  rintro xs ⟨H, T⟩ v m' h
  unfold iGw at h
  split at h
  · rename_i B' b k n
    split at h
    · rename_i hc
      obtain ⟨rfl, rfl, h0, h1⟩ := hc
      unfold gwR at h
      split at h
      · rename_i p hx
        cases h
        exact w_grow H T b p n h0 h1 hx
      · cases h
    · cases h
  · cases h

theorem iGr_call : ∀ xs m v m', iGr 67 5 xs m = some (v, m') → RCall Tryz.prog 76 xs m v m' := by
  rintro xs ⟨H, T⟩ v m' h
  unfold iGr at h
  split at h
  · rename_i B' b k n
    split at h
    · rename_i hc
      obtain ⟨rfl, rfl, h0, h1⟩ := hc
      split at h
      · rename_i hx
        have hl := (List.getElem?_eq_some_iff.1 hx).1
        simp only at hx hl
        split at h
        · rename_i hn
          subst hn
          cases h
          refine RCall.of_w (fn := Tryz.f76) (Γ := gam [(47, .raw (iCC 67)), (83, .raw (iGw 67 5))]) (mu := false) (by simp) (by simp) (Sound.raw iCC_call (Sound.raw iGw_call Sound.nil)) mixed Tryz.func76 rfl (by kernel_rfl) (by simp) (by kernel_rfl) ?_
          simp (disch := first | assumption | omega | exact okR_new | exact okR_one | exact trivial | (simp only [List.length_append, List.length_cons, List.length_nil]; omega) | (simp only [List.length_append, List.length_cons, List.length_nil, Nat.reduceAdd])) only [go_sem, e_go, e_cond_bool, e_w_bool, e_step_ite, e_reg_ite, e_regW_ite, e_code_ite, e_block_ite, e_evQ_ite, e_fin_ite, e_pair_ite, Tryz.f76, iCC_eq, cc_new, cc_on, iGw_eq, gw_on, hx, set_at, acap]
          exact .inl rfl
        · have hn : 0 < n := by omega
          cases h
          refine RCall.of_w (fn := Tryz.f76) (Γ := gam [(47, .raw (iCC 67)), (83, .raw (iGw 67 5))]) (mu := false) (by simp) (by simp) (Sound.raw iCC_call (Sound.raw iGw_call Sound.nil)) mixed Tryz.func76 rfl (by kernel_rfl) (by simp) (by kernel_rfl) ?_
          simp (disch := first | assumption | omega | exact okR_new | exact okR_one | exact trivial | (simp only [List.length_append, List.length_cons, List.length_nil]; omega) | (simp only [List.length_append, List.length_cons, List.length_nil, Nat.reduceAdd])) only [go_sem, e_go, e_cond_bool, e_w_bool, e_step_ite, e_reg_ite, e_regW_ite, e_code_ite, e_block_ite, e_evQ_ite, e_fin_ite, e_pair_ite, Tryz.f76, iCC_eq, cc_new, cc_on, iGw_eq, gw_on, hx, set_at, acap, List.set_set]
          exact .inl rfl
      · cases h
    · cases h
  · cases h

end Go.Hk.DZD
