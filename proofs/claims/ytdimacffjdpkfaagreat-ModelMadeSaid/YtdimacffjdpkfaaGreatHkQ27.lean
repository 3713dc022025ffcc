import Derived.Test.YtdimacffjdpkfaaGreatHkQ26
import Derived.Test.YtdimacffjdpkfaaGreatHkQ17
import Derived.Test.YtdimacffjdpkfaaGreatHkQ18
set_option linter.unusedSimpArgs false
set_option linter.unusedVariables false
namespace Go.Hk.MZ
open Go.Proofs

end Go.Hk.MZ
namespace Go.Hk.MZ
open Go.Proofs

theorem w_chr (b : Int) : PCall Tryz.prog 92 [.int .i64 b] (rV (chX b)) := by
  refine PCall.of_w (fn := Tryz.f92) (Γ := gam [(9, .pure iOf)]) (mu := false) (Sound.pure iOf_call Sound.nil) mixed Tryz.func92 rfl (by kernel_rfl) (by simp) (by kernel_rfl) ?_
  simp (disch := first | assumption | omega | exact okR_new | exact okR_one | exact trivial | (simp only [lnA, lnC, lnN]; omega) | (simp only [lnA, lnC, lnN, Nat.reduceAdd])) only [go_sem, e_go, e_cond_bool, e_w_bool, e_step_ite, e_reg_ite, e_regW_ite, e_code_ite, e_block_ite, e_evQ_ite, e_fin_ite, e_pair_ite, Tryz.f92, iOf_eq, setL]
  rfl
noncomputable def iChr : List AVal → Option AVal := pimp fun xs r => ∃ (b : Int), (True) ∧ xs = [.int .i64 b] ∧ r = rV (chX b)
theorem iChr_eq {b : Int} (h : True) : iChr [.int .i64 b] = some (rV (chX b)) := pimp_eq ⟨b, h, rfl, rfl⟩ (by rintro _ ⟨b', h', e, rfl⟩; have e0 := (List.cons.inj e).1; have e0r := (List.cons.inj e).2; have q0 := (AVal.int.inj e0).2; subst q0; first | rfl | exact ⟨rfl, rfl⟩)
theorem iChr_call : ∀ xs v, iChr xs = some v → PCall Tryz.prog 92 xs v := fun xs v h0 => by obtain ⟨b, h, rfl, rfl⟩ := pimp_spec h0; exact w_chr b
theorem chX_cells {b : Int} : cR (chX b) = [.int .i64 2, .int .u64 (wd (ofN b b) 0 : Nat), .int .u64 (wd (ofN b b) 1 : Nat), .int .u64 (wd (ofN b b) 2 : Nat), .int .u64 (wd (ofN b b) 3 : Nat), .int .i64 0, .int .i64 0, .sl .no 0 []] := rfl
theorem bA1 {m : AMem} {cs : List AVal} (h : cs.length = 8) : abuildSlice Tryz.prog false m 35 1 [(0, .agg cs)] = some (.sl .full 1 cs, m) := build_one ti35 ti37 rfl rfl h rfl (by decide) (by decide)
theorem bR1 {m : AMem} {x : Rx} : abuildSlice Tryz.prog false m 35 1 [(0, rV x)] = some (.sl .full 1 (cR x), m) := bA1 (cR_len x)
theorem bA2 {m : AMem} {cs ds : List AVal} (h : cs.length = 8) (h' : ds.length = 8) : abuildSlice Tryz.prog false m 35 2 [(0, .agg cs), (1, .agg ds)] = some (.sl .full 2 (cs ++ ds), m) := by
  have := build_seq (P := Tryz.prog) (mu := false) (m := m) (n := 2) (vs := [.agg cs, .agg ds]) (out := cs ++ ds) ti35 rfl ti37 rfl (by simp [cellsAll, cellsOf, h, h']) (by decide) rfl (by decide)
  exact this
theorem bR2 {m : AMem} {x y : Rx} : abuildSlice Tryz.prog false m 35 2 [(0, rV x), (1, rV y)] = some (.sl .full 2 (cR x ++ cR y), m) := bA2 (cR_len x) (cR_len y)
end Go.Hk.MZ
namespace Go.Hk.MZ
open Go.Proofs
theorem ti5 : tiOf Tryz.prog 5 = some { size := 1, bytes := 1, zero := some (.int .u8 0), k := .int .u8 } := by kernel_rfl
attribute [go_sem] ti5
theorem ti22 : tiOf Tryz.prog 22 = some { size := 1, bytes := 24, zero := some (.sl .nil 0 []), k := .slice 5 } := by kernel_rfl
attribute [go_sem] ti22
theorem ti41 : tiOf Tryz.prog 41 = some { size := 1, bytes := 24, zero := some (.sl .nil 0 []), k := .slice 3 } := by kernel_rfl
attribute [go_sem] ti41
theorem ti57 : tiOf Tryz.prog 57 = some { size := 1, bytes := 8, zero := some (.nilp), k := .ptr 59 } := by kernel_rfl
attribute [go_sem] ti57
theorem ti59 : tiOf Tryz.prog 59 = some { size := 2, bytes := 32, zero := some (.agg [.sl .nil 0 [], .int .i64 0]), k := .struct [(true, 22, 0), (true, 3, 1)] } := by kernel_rfl
attribute [go_sem] ti59
theorem iPk_call : ∀ xs m v m', iPk xs m = some (v, m') → RCall Tryz.prog 16 xs m v m' := by
  rintro xs ⟨H, T⟩ v m' h
  unfold iPk at h
  split at h
  · rename_i b n
    unfold pkR at h
    split at h
    · rename_i x k cs a hx
      split at h
      · rename_i L hb
        split at h
        · rename_i hc
          obtain ⟨rfl, hL, h0, h1, hn, hn2⟩ := hc
          obtain ⟨a, rfl⟩ := Int.eq_ofNat_of_zero_le h0
          obtain ⟨n, rfl⟩ := Int.eq_ofNat_of_zero_le (show 0 ≤ n by omega)
          have := bytesOf_spec _ _ hb
          rw [← fl_cU_map] at this
          subst this
          have hl := (List.getElem?_eq_some_iff.1 hx).1
          cases h
          simp only at hx hl
          by_cases hin : a < L.length
          · have hg : L[a]? = some L[a] := by simp [hin]
            have hget := fl_get1 cU_len hg
            have hpv := pickV_in (n := n) hin
            have hu := L[a].toNat_lt
            have hm : ((L[a].toNat : Nat) : Int).tmod n = ((L[a].toNat % n : Nat) : Int) := by rw [Int.tmod_eq_emod_of_nonneg (by omega)]; rfl
            have ea : (a : Int) + 1 - 1 = a := by omega
            refine RCall.of_w (fn := Tryz.f16) (Γ := gam []) (mu := false) (by simp) (by simp) Sound.nil mixed Tryz.func16 rfl (by kernel_rfl) (by simp) (by kernel_rfl) ?_
            simp (disch := first | assumption | omega | exact okR_new | exact okR_one | exact trivial | (simp only [lnA, lnC, lnN]; omega) | (simp only [lnA, lnC, lnN, Nat.reduceAdd])) only [go_sem, e_go, e_cond_bool, e_w_bool, e_step_ite, e_reg_ite, e_regW_ite, e_code_ite, e_block_ite, e_evQ_ite, e_fin_ite, e_pair_ite, Tryz.f16, hx, set_at, List.set_set, ea, hget, cU, hm, hpv]
            exact .inl rfl
          · have hpv := pickV_out (n := n) (show L.length ≤ a by omega)
            refine RCall.of_w (fn := Tryz.f16) (Γ := gam []) (mu := false) (by simp) (by simp) Sound.nil mixed Tryz.func16 rfl (by kernel_rfl) (by simp) (by kernel_rfl) ?_
            simp (disch := first | assumption | omega | exact okR_new | exact okR_one | exact trivial | (simp only [lnA, lnC, lnN]; omega) | (simp only [lnA, lnC, lnN, Nat.reduceAdd])) only [go_sem, e_go, e_cond_bool, e_w_bool, e_step_ite, e_reg_ite, e_regW_ite, e_code_ite, e_block_ite, e_evQ_ite, e_fin_ite, e_pair_ite, Tryz.f16, hx, set_at, List.set_set, hpv]
            exact ⟨rfl, .inl rfl⟩
        · cases h
      · cases h
    · cases h
  · cases h

theorem bI6 {m : AMem} {a b c d e f : Int} : abuildSlice Tryz.prog false m 41 6 [(0, .int .i64 a), (1, .int .i64 b), (2, .int .i64 c), (3, .int .i64 d), (4, .int .i64 e), (5, .int .i64 f)] = some (.sl .full 6 [.int .i64 a, .int .i64 b, .int .i64 c, .int .i64 d, .int .i64 e, .int .i64 f], m) := build_seq (mu := false) (vs := [.int .i64 a, .int .i64 b, .int .i64 c, .int .i64 d, .int .i64 e, .int .i64 f]) ti41 rfl ti3 rfl rfl (by decide) rfl (by decide)
theorem iLf_call : ∀ xs m v m', iLf xs m = some (v, m') → RCall Tryz.prog 69 xs m v m' := by
  rintro xs ⟨G, T⟩ v m' h
  unfold iLf at h
  split at h
  · rename_i b
    obtain ⟨L, a, hx, hL, ho, hs, rfl, rfl⟩ := mk_cases h
    have hl := (List.getElem?_eq_some_iff.1 hx).1
    simp only [mkC] at hx hl hs ho ⊢
    have hc0 : ∀ h : Nat, cloB h T.length (.cells 0 [.sl .no L.length (fl cU L), .int .i64 ((leafM L a).2 : Nat)]) = true := fun h => mkC_clo
    have h8 := pickV_lt (L := L) (a := a) (n := 8) (by omega)
    have h6 := pickV_lt (L := L) (a := a + 1) (n := 6) (by omega)
    have h3 := pickV_lt (L := L) (a := a + 1) (n := 3) (by omega)
    unfold leafM
    refine RCall.of_ws (fn := Tryz.f69) (Γ := gam [(9, .pure iOf), (16, .raw iPk), (91, .pure iNot), (92, .pure iChr)]) (mu := false) (by simp) (by simp) (Sound.pure iOf_call (Sound.raw iPk_call (Sound.pure iNot_call (Sound.pure iChr_call Sound.nil)))) mixed Tryz.func69 rfl (by kernel_rfl) (by simp) (by kernel_rfl) ?_
    by_cases k0 : pickV L a 8 = 0
    · simp only [if_pos k0]
      simp (disch := first | assumption | omega | exact okR_new | exact okR_one | exact trivial | (simp only [lnA, lnC, lnN]; omega) | (simp only [lnA, lnC, lnN, Nat.reduceAdd])) only [go_sem, e_go, e_cond_bool, e_w_bool, e_step_ite, e_reg_ite, e_regW_ite, e_code_ite, e_block_ite, e_evQ_ite, e_fin_ite, e_pair_ite, Tryz.f69, iOf_eq, iPk_eq, pk_on, iNot_eq, iChr_eq, hx, set_at, List.set_set, m_at hl, m_atS hl, m_set hl, m_setS hl, k0, setL]
      exact ⟨rfl, leftM_one (shut_set hs mkC_clo)⟩
    · rw [if_neg k0]
      by_cases k1 : pickV L a 8 = 1
      · simp only [if_pos k1]
        simp (disch := first | assumption | omega | exact okR_new | exact okR_one | exact trivial | (simp only [lnA, lnC, lnN]; omega) | (simp only [lnA, lnC, lnN, Nat.reduceAdd])) only [go_sem, e_go, e_cond_bool, e_w_bool, e_step_ite, e_reg_ite, e_regW_ite, e_code_ite, e_block_ite, e_evQ_ite, e_fin_ite, e_pair_ite, Tryz.f69, iOf_eq, iPk_eq, pk_on, iNot_eq, iChr_eq, hx, set_at, List.set_set, m_at hl, m_atS hl, m_set hl, m_setS hl, k1, setL]
        exact ⟨rfl, leftM_one (shut_set hs mkC_clo)⟩
      · rw [if_neg k1]
        by_cases k2 : pickV L a 8 = 2
        · have hN := ofN_lt 97 97
          simp only [if_pos k2]
          simp (disch := first | assumption | omega | exact okR_new | exact okR_one | exact trivial | (simp only [lnA, lnC, lnN]; omega) | (simp only [lnA, lnC, lnN, Nat.reduceAdd])) only [go_sem, e_go, e_cond_bool, e_w_bool, e_step_ite, e_reg_ite, e_regW_ite, e_code_ite, e_block_ite, e_evQ_ite, e_fin_ite, e_pair_ite, Tryz.f69, iOf_eq, iPk_eq, pk_on, iNot_eq, iChr_eq, hx, set_at, List.set_set, m_at hl, m_atS hl, m_set hl, m_setS hl, k2, setL]
          exact ⟨rfl, leftM_one (shut_set hs mkC_clo)⟩
        · rw [if_neg k2]
          by_cases k3 : pickV L a 8 = 3
          · have ho : ([AVal.int .i64 10, AVal.int .i64 45, AVal.int .i64 90, AVal.int .i64 0, AVal.int .i64 255, AVal.int .i64 48] : List AVal)[pickV L (a + 1) 6]? = some (.int .i64 (odds.getD (pickV L (a + 1) 6) 0)) := by
              generalize pickV L (a + 1) 6 = p at h6
              have : p = 0 ∨ p = 1 ∨ p = 2 ∨ p = 3 ∨ p = 4 ∨ p = 5 := by omega
              rcases this with rfl | rfl | rfl | rfl | rfl | rfl <;> rfl
            simp only [if_pos k3]
            simp (disch := first | assumption | omega | exact okR_new | exact okR_one | exact trivial | (simp only [lnA, lnC, lnN]; omega) | (simp only [lnA, lnC, lnN, Nat.reduceAdd])) only [go_sem, e_go, e_cond_bool, e_w_bool, e_step_ite, e_reg_ite, e_regW_ite, e_code_ite, e_block_ite, e_evQ_ite, e_fin_ite, e_pair_ite, Tryz.f69, iOf_eq, iPk_eq, pk_on, iNot_eq, iChr_eq, hx, set_at, List.set_set, m_at hl, m_atS hl, m_set hl, m_setS hl, k3, bI6, ho]
            exact leftM_one (shut_set hs mkC_clo)
          · simp only [if_neg k3]
            simp (disch := first | assumption | omega | exact okR_new | exact okR_one | exact trivial | (simp only [lnA, lnC, lnN]; omega) | (simp only [lnA, lnC, lnN, Nat.reduceAdd])) only [go_sem, e_go, e_cond_bool, e_w_bool, e_step_ite, e_reg_ite, e_regW_ite, e_code_ite, e_block_ite, e_evQ_ite, e_fin_ite, e_pair_ite, Tryz.f69, iOf_eq, iPk_eq, pk_on, iNot_eq, iChr_eq, hx, set_at, List.set_set, m_at hl, m_atS hl, m_set hl, m_setS hl]
            exact leftM_one (shut_set hs mkC_clo)
  · cases h

end Go.Hk.MZ
namespace Go.Hk.MZ
open Go.Proofs

theorem apX_T : appT Tryz.prog 35 35 = some ⟨37, 8, 80⟩ := by kernel_rfl
theorem apX_one {H : List ABlk} {T : List (Nat × (Nat × Nat))} {r r' : Rt} {l} {x} (hr : okR T r (l.length * 8) (8, 37) = true) (hn : l.length + 1 < 1000000000) : aappend Tryz.prog 35 35 ⟨H, T⟩ (.sl r l.length (fl cR l)) (.sl r' 1 (cR x)) = some (.sl (nxR T r) (l ++ [x]).length (fl cR (l ++ [x])), ⟨H, nxT T r ((l ++ [x]).length * 8) (8, 37)⟩) := app_fl apX_T (by decide) cR_len rfl hr hn
theorem apX_all {H : List ABlk} {T : List (Nat × (Nat × Nat))} {r r' : Rt} {l l'} (hr : okR T r (l.length * 8) (8, 37) = true) (hf : r = .full → l.length = 0 ∨ 0 < l'.length) (hn : l.length + l'.length < 1000000000) : aappend Tryz.prog 35 35 ⟨H, T⟩ (.sl r l.length (fl cR l)) (.sl r' l'.length (fl cR l')) = some (.sl (nxR T r) (l ++ l').length (fl cR (l ++ l')), ⟨H, nxT T r ((l ++ l').length * 8) (8, 37)⟩) := app_fls apX_T (by decide) cR_len hr hf hn
theorem apX_mk (mu : Bool) (m : AMem) {x} : abuildSlice Tryz.prog mu m 35 1 [(0, rV x)] = some (.sl .full 1 (cR x), m) := build_one ti35 ti37 rfl rfl (cR_len x) rfl (by decide) (by decide)
abbrev okJd (k : Int) (l : List Rx) : Prop := (∀ y ∈ l, okX y) ∧ l.length < 1000000 ∧ (flatK k l).length < 1000000
theorem w_joined (k : Int) (l : List Rx) (h : okJd k l) : PCall Tryz.prog 70 [.int .i64 k, slc cR l] (rV (joinX k l)) := by
  obtain ⟨hm, hl, hf⟩ := h
  rw [joinX_flat, ← rV_kids]
  refine PCall.of_w (fn := Tryz.f70) (Γ := gam []) (mu := false) Sound.nil mixed Tryz.func70 rfl (by kernel_rfl) (by simp) (by kernel_rfl) ?_
  simp (disch := first | assumption | omega | exact okR_new | exact okR_one | exact trivial | (simp only [lnA, lnC, lnN]; omega) | (simp only [lnA, lnC, lnN, Nat.reduceAdd])) only [go_sem, e_go, e_cond_bool, e_w_bool, e_step_ite, e_reg_ite, e_regW_ite, e_code_ite, e_block_ite, e_evQ_ite, e_fin_ite, e_pair_ite, Tryz.f70]
  refine w_loop [] [6] (fun x : Ls => l.length - x.i) (fun x => x.i ≤ l.length ∧ okR x.T x.r ((flatK k (l.take x.i)).length * 8) (8, 37) = true ∧ x.r ≠ .full)
    (fun x => ⟨[.cells 0 [.int .i64 0, .int .u64 0, .int .u64 0, .int .u64 0, .int .u64 0, .int .i64 0, .int .i64 0, .sl .nil 0 []], .cells 0 [.int .i64 k, .int .u64 0, .int .u64 0, .int .u64 0, .int .u64 0, .int .i64 0, .int .i64 0, .sl x.r (flatK k (l.take x.i)).length (fl cR (flatK k (l.take x.i)))]], x.T⟩)
    (fun x => [(6, .int .i64 (x.i : Nat))]) ⟨0, .nil, []⟩ (fun _ => rfl) (by kernel_rfl) (by simp [okR]) (by simp [flatK, fl]) (by simp [HasE, lk]) ?_
  rintro ⟨i, r, T⟩ ⟨hi, hr, hne⟩
  simp only at hi hr hne
  have hfi := flatK_le (k := k) (l := l) (i := i)
  by_cases h : i < l.length
  · have hg : l[i]? = some l[i] := by simp [h]
    have hat := fl_at cR_len hg
    have hle : i * 8 + 8 ≤ l.length * 8 := by omega
    have hk0 := fl_get0 cR_len hg (by decide)
    have hk7 := fl_get (j := 7) cR_len hg (by decide)
    have hcy := cR_eq l[i]
    rw [hcy] at hk0 hk7
    have hnx := flatK_next (k := k) hg
    have hfi2 := flatK_le (k := k) (l := l) (i := i + 1)
    have hok := hm _ (List.getElem_mem h)
    by_cases hk : l[i].k = k
    · have hfl : flat1 k l[i] = l[i].l := if_pos hk
      rw [hfl] at hnx
      rw [hnx, List.length_append] at hfi2
      generalize hM : flatK k (l.take i) = M at *
      have hff : r = .full → M.length = 0 ∨ 0 < l[i].l.length := fun h => absurd h hne
      simp (disch := first | assumption | omega | exact okR_new | exact okR_one | exact trivial | (simp only [lnA, lnC, lnN]; omega) | (simp only [lnA, lnC, lnN, Nat.reduceAdd])) only [go_sem, e_go, e_cond_bool, e_w_bool, e_step_ite, e_reg_ite, e_regW_ite, e_code_ite, e_block_ite, e_evQ_ite, e_fin_ite, e_pair_ite, Tryz.f70, hat, hk0, hk7, apX_all]
      refine ⟨⟨i + 1, nxR T r, nxT T r ((M ++ l[i].l).length * 8) (8, 37)⟩, ?_, ⟨h, ?_, nxR_ne⟩, ?_, ?_⟩
      · show l.length - (i + 1) < l.length - i
        omega
      · show okR _ _ ((flatK k (l.take (i + 1))).length * 8) _ = true
        rw [hnx]; exact okR_app hr
      · simp only [hnx, List.length_append]
      · simp [HasE, lk]
    · have hfl : flat1 k l[i] = [l[i]] := if_neg hk
      rw [hfl] at hnx
      rw [hnx, List.length_append] at hfi2
      generalize hM : flatK k (l.take i) = M at *
      simp (disch := first | assumption | omega | exact okR_new | exact okR_one | exact trivial | (simp only [lnA, lnC, lnN]; omega) | (simp only [lnA, lnC, lnN, Nat.reduceAdd])) only [go_sem, e_go, e_cond_bool, e_w_bool, e_step_ite, e_reg_ite, e_regW_ite, e_code_ite, e_block_ite, e_evQ_ite, e_fin_ite, e_pair_ite, Tryz.f70, hat, hk0, hk7, apX_mk, apX_one]
      refine ⟨⟨i + 1, nxR T r, nxT T r ((M ++ [l[i]]).length * 8) (8, 37)⟩, ?_, ⟨h, ?_, nxR_ne⟩, ?_, ?_⟩
      · show l.length - (i + 1) < l.length - i
        omega
      · show okR _ _ ((flatK k (l.take (i + 1))).length * 8) _ = true
        rw [hnx]; exact okR_app hr
      · simp only [hnx, lnA, lnC, lnN]
      · simp [HasE, lk]
  · have hi' : i = l.length := by omega
    subst hi'
    rw [List.take_length] at hr
    simp (disch := first | assumption | omega | exact okR_new | exact okR_one | exact trivial | (simp only [lnA, lnC, lnN]; omega) | (simp only [lnA, lnC, lnN, Nat.reduceAdd])) only [go_sem, e_go, e_cond_bool, e_w_bool, e_step_ite, e_reg_ite, e_regW_ite, e_code_ite, e_block_ite, e_evQ_ite, e_fin_ite, e_pair_ite, Tryz.f70, List.take_length]
noncomputable def iJd : List AVal → Option AVal := pimp fun xs r => ∃ (k : Int) (l : List Rx), (okJd k l) ∧ xs = [.int .i64 k, slc cR l] ∧ r = rV (joinX k l)
theorem iJd_eq {k : Int} {l : List Rx} (h : okJd k l) : iJd [.int .i64 k, slc cR l] = some (rV (joinX k l)) := pimp_eq ⟨k, l, h, rfl, rfl⟩ (by rintro _ ⟨k', l', h', e, rfl⟩; have e0 := (List.cons.inj e).1; have e1 := (List.cons.inj (List.cons.inj e).2).1; have q0 := (AVal.int.inj e0).2; have q1 := slc_inj cR_len (fun a ha b hb e => cR_inj' a (h.1 a ha) b (h'.1 b hb) e) e1; subst q0; subst q1; rfl)
theorem iJd_call : ∀ xs v, iJd xs = some v → PCall Tryz.prog 70 xs v := fun xs v h0 => by obtain ⟨k, l, h, rfl, rfl⟩ := pimp_spec h0; exact w_joined k l h
end Go.Hk.MZ
set_option maxRecDepth 20000
namespace Go.Hk.MZ
open Go.Proofs

theorem iJd_eq2 {k : Int} {x y : Rx} (h : okJd k [x, y]) : iJd [.int .i64 k, .sl .no 2 (cR x ++ cR y)] = some (rV (joinX k [x, y])) := by
  have := iJd_eq h
  simpa [slc, fl] using this


theorem rV_rep {lo hi : Int} {x : Rx} : AVal.agg [.int .i64 5, .int .u64 0, .int .u64 0, .int .u64 0, .int .u64 0, .int .i64 lo, .int .i64 hi, .sl .no 1 (cR x)] = rV (.mk 5 0 lo hi [x]) := by
  rw [rV, cR, cRs_fl]
  have : fl cR [x] = cR x := by simp [fl]
  rw [this]
  rfl
theorem w_Rx (n : Nat) (ih : ∀ xs m v m', iRxn n xs m = some (v, m') → RCall Tryz.prog 46 xs m v m') (G : List ABlk) (T : List (Nat × (Nat × Nat))) (b : Nat) (d : Int) (L : List UInt8) (a : Nat)
    (hx : G[b]? = some (mkC L.length L ((a : Nat) : Int))) (hL : L.length < 1000000) (ho : d.toNat ≤ 10 ∧ a + 8 * 2 ^ d.toNat ≤ 100000) (hs : shut ⟨G, T⟩ = true) (hd : d.toNat ≤ n) (hd2 : -2 ≤ d) :
    RCall Tryz.prog 46 [.ptr b 0 0, .int .i64 d] ⟨G, T⟩ (rV (rxM L d.toNat a).1) ⟨G.set b (mkC L.length L (rxM L d.toNat a).2), T⟩ := by
  have hl := (List.getElem?_eq_some_iff.1 hx).1
  simp only [mkC] at hx hl hs ho ⊢
  have h8 := pickV_lt (L := L) (a := a) (n := 8) (by omega)
  have hp0 : 0 < (2 : Nat) ^ d.toNat := Nat.pow_pos (by omega)
  have ha : a < 100000 := by omega
  have hsC : ∀ a' : Nat, shut ⟨G.set b (.cells 0 [.sl .no L.length (fl cU L), .int .i64 (a' : Nat)]), T⟩ = true := fun a' => shut_set hs mkC_clo
  have hs1 : ∀ a' : Nat, shut ⟨G.set b (.cells 0 [.sl .no L.length (fl cU L), .int .i64 (a' : Nat)]) ++ [.cells 0 [.int .i64 0, .int .u64 0, .int .u64 0, .int .u64 0, .int .u64 0, .int .i64 0, .int .i64 0, .sl .nil 0 []]], T⟩ = true :=
    fun a' => shut_two hs mkC_clo fun h _ => by simp [cloB, cloL, clo, cloR]
  rw [rxM]
  split
  · rename_i hA
    by_cases c1 : d < 1
    · refine RCall.of_ws (fn := Tryz.f46) (Γ := gamx [(10, (.step 0 (.step 3 (.fork 1 4 (.step 2 (.step 4 (.step 5 (.step 6 (.step 7 .done))))) (.step 1 (.step 2 (.step 5 (.step 6 (.step 7 .done)))))))))] [(16, .raw iPk), (69, .raw iLf), (70, .pure iJd)]) (mu := false) (by simp) (by simp) (Sound.x (Sound.raw iPk_call (Sound.raw iLf_call (Sound.pure iJd_call Sound.nil)))) mixed Tryz.func46 rfl (by kernel_rfl) (by simp) (by kernel_rfl) ?_
      simp (disch := first | assumption | omega | exact okR_new | exact okR_one | exact trivial | (simp only [lnA, lnC, lnN]; omega) | (simp only [lnA, lnC, lnN, Nat.reduceAdd]) | exact hs1 _) only [go_sem, e_go, e_cond_bool, e_w_bool, e_step_ite, e_reg_ite, e_regW_ite, e_code_ite, e_block_ite, e_evQ_ite, e_fin_ite, e_pair_ite, Tryz.f46, iPk_eq, pk_on, iLf_eq, mk_on, iJd_eq, hx, set_at, List.set_set, m_at hl, m_atS hl, m_set hl, m_setS hl]
      exact leftM_one (hsC _)
    · by_cases c2 : pickV L a 8 < 2
      · refine RCall.of_ws (fn := Tryz.f46) (Γ := gamx [(10, (.step 0 (.step 3 (.fork 1 4 (.step 2 (.step 4 (.step 5 (.step 6 (.step 7 .done))))) (.step 1 (.step 2 (.step 5 (.step 6 (.step 7 .done)))))))))] [(16, .raw iPk), (69, .raw iLf), (70, .pure iJd)]) (mu := false) (by simp) (by simp) (Sound.x (Sound.raw iPk_call (Sound.raw iLf_call (Sound.pure iJd_call Sound.nil)))) mixed Tryz.func46 rfl (by kernel_rfl) (by simp) (by kernel_rfl) ?_
        simp (disch := first | assumption | omega | exact okR_new | exact okR_one | exact trivial | (simp only [lnA, lnC, lnN]; omega) | (simp only [lnA, lnC, lnN, Nat.reduceAdd]) | exact hs1 _) only [go_sem, e_go, e_cond_bool, e_w_bool, e_step_ite, e_reg_ite, e_regW_ite, e_code_ite, e_block_ite, e_evQ_ite, e_fin_ite, e_pair_ite, Tryz.f46, iPk_eq, pk_on, iLf_eq, mk_on, iJd_eq, hx, set_at, List.set_set, m_at hl, m_atS hl, m_set hl, m_setS hl]
        exact leftM_one (hsC _)
      · have c3 : L.length ≤ a + 1 := by omega
        refine RCall.of_ws (fn := Tryz.f46) (Γ := gamx [(10, (.step 0 (.step 3 (.fork 1 4 (.step 2 (.step 4 (.step 5 (.step 6 (.step 7 .done))))) (.step 1 (.step 2 (.step 5 (.step 6 (.step 7 .done)))))))))] [(16, .raw iPk), (69, .raw iLf), (70, .pure iJd)]) (mu := false) (by simp) (by simp) (Sound.x (Sound.raw iPk_call (Sound.raw iLf_call (Sound.pure iJd_call Sound.nil)))) mixed Tryz.func46 rfl (by kernel_rfl) (by simp) (by kernel_rfl) ?_
        simp (disch := first | assumption | omega | exact okR_new | exact okR_one | exact trivial | (simp only [lnA, lnC, lnN]; omega) | (simp only [lnA, lnC, lnN, Nat.reduceAdd]) | exact hs1 _) only [go_sem, e_go, e_cond_bool, e_w_bool, e_step_ite, e_reg_ite, e_regW_ite, e_code_ite, e_block_ite, e_evQ_ite, e_fin_ite, e_pair_ite, Tryz.f46, iPk_eq, pk_on, iLf_eq, mk_on, iJd_eq, hx, set_at, List.set_set, m_at hl, m_atS hl, m_set hl, m_setS hl]
        exact leftM_one (hsC _)
  · rename_i hA
    have c1 : ¬ d < 1 := by omega
    have c2 : ¬ pickV L a 8 < 2 := by omega
    have c3 : ¬ L.length ≤ a + 1 := by omega
    obtain ⟨D, rfl⟩ := Int.eq_ofNat_of_zero_le (show 0 ≤ d by omega)
    simp only [Int.toNat_natCast] at *
    have e1 : ((D : Int) - 1).toNat = D - 1 := by omega
    have e2 : ((D : Int) - 2).toNat = D - 2 := by omega
    have hp1 : (2 : Nat) ^ D = 2 ^ (D - 1) * 2 := by rw [← Nat.pow_succ]; congr 1; omega
    have hpw : (2 : Nat) ^ (D - 2) ≤ 2 ^ (D - 1) := Nat.pow_le_pow_right (by omega) (by omega)
    have hq0 : 0 < (2 : Nat) ^ (D - 1) := Nat.pow_pos (by omega)
    have ok1 : ((D : Int) - 1).toNat < n ∧ -2 ≤ (D : Int) - 1 := by omega
    have ok2 : ((D : Int) - 2).toNat < n ∧ -2 ≤ (D : Int) - 2 := by omega
    have r1 := rxM_at L (D - 1) (a + 1)
    have o1 : ((D : Int) - 1).toNat ≤ 10 ∧ a + 1 + 8 * 2 ^ ((D : Int) - 1).toNat ≤ 100000 := by rw [e1]; omega
    have o2 : ((D : Int) - 1).toNat ≤ 10 ∧ (rxM L (D - 1) (a + 1)).2 + 8 * 2 ^ ((D : Int) - 1).toNat ≤ 100000 := by rw [e1]; omega
    have hpm : (2 : Nat) ^ (D - 1 + 1) ≤ 2 ^ 11 := Nat.pow_le_pow_right (by omega) (by omega)
    have g1 := rxM_good L (D - 1) (a + 1) (by omega)
    have g2 := rxM_good L (D - 1) (rxM L (D - 1) (a + 1)).2 (by omega)
    split
    · have j := good_join (k := 3) g1 g2 (by omega)
      refine RCall.of_ws (fn := Tryz.f46) (Γ := gamx [(10, (.step 0 (.step 3 (.fork 1 4 (.step 2 (.step 4 (.step 5 (.step 6 (.step 7 .done))))) (.step 1 (.step 2 (.step 5 (.step 6 (.step 7 .done)))))))))] [(16, .raw iPk), (69, .raw iLf), (46, .raw (iRxn n)), (70, .pure iJd)]) (mu := false) (by simp) (by simp) (Sound.x (Sound.raw iPk_call (Sound.raw iLf_call (Sound.raw ih (Sound.pure iJd_call Sound.nil))))) mixed Tryz.func46 rfl (by kernel_rfl) (by simp) (by kernel_rfl) ?_
      simp (disch := first | assumption | omega | exact okR_new | exact okR_one | exact trivial | (simp only [lnA, lnC, lnN]; omega) | (simp only [lnA, lnC, lnN, Nat.reduceAdd]) | exact hs1 _) only [go_sem, e_go, e_cond_bool, e_w_bool, e_step_ite, e_reg_ite, e_regW_ite, e_code_ite, e_block_ite, e_evQ_ite, e_fin_ite, e_pair_ite, Tryz.f46, iPk_eq, pk_on, iLf_eq, mk_on, iRxn_eq, iJd_eq2, hx, set_at, List.set_set, m_at hl, m_atS hl, m_set hl, m_setS hl, e1, bR2]
      exact leftM_one (hsC _)
    · split
      · have j := good_join (k := 4) g1 g2 (by omega)
        refine RCall.of_ws (fn := Tryz.f46) (Γ := gamx [(10, (.step 0 (.step 3 (.fork 1 4 (.step 2 (.step 4 (.step 5 (.step 6 (.step 7 .done))))) (.step 1 (.step 2 (.step 5 (.step 6 (.step 7 .done)))))))))] [(16, .raw iPk), (69, .raw iLf), (46, .raw (iRxn n)), (70, .pure iJd)]) (mu := false) (by simp) (by simp) (Sound.x (Sound.raw iPk_call (Sound.raw iLf_call (Sound.raw ih (Sound.pure iJd_call Sound.nil))))) mixed Tryz.func46 rfl (by kernel_rfl) (by simp) (by kernel_rfl) ?_
        simp (disch := first | assumption | omega | exact okR_new | exact okR_one | exact trivial | (simp only [lnA, lnC, lnN]; omega) | (simp only [lnA, lnC, lnN, Nat.reduceAdd]) | exact hs1 _) only [go_sem, e_go, e_cond_bool, e_w_bool, e_step_ite, e_reg_ite, e_regW_ite, e_code_ite, e_block_ite, e_evQ_ite, e_fin_ite, e_pair_ite, Tryz.f46, iPk_eq, pk_on, iLf_eq, mk_on, iRxn_eq, iJd_eq2, hx, set_at, List.set_set, m_at hl, m_atS hl, m_set hl, m_setS hl, e1, bR2]
        exact leftM_one (hsC _)
      · have hlo := pickV_lt (L := L) (a := a + 1) (n := 3) (by omega)
        have hp2 := pickV_lt (L := L) (a := a + 2) (n := 2) (by omega)
        have hp3 := pickV_lt (L := L) (a := a + 3) (n := 2) (by omega)
        have a2 : a + 1 + 1 = a + 2 := rfl
        have a3 : a + 2 + 1 = a + 3 := rfl
        have a4 : a + 3 + 1 = a + 4 := rfl
        have o3 : D - 2 ≤ 10 ∧ a + 3 + 8 * 2 ^ (D - 2) ≤ 100000 := by omega
        have o4 : D - 2 ≤ 10 ∧ a + 4 + 8 * 2 ^ (D - 2) ≤ 100000 := by omega
        have hs2 : ∀ (a' : Nat) (lo hi : Int), shut ⟨G.set b (.cells 0 [.sl .no L.length (fl cU L), .int .i64 (a' : Nat)]) ++ [.cells 0 [.int .i64 0, .int .u64 0, .int .u64 0, .int .u64 0, .int .u64 0, .int .i64 0, .int .i64 0, .sl .nil 0 []], .cells 0 [.int .i64 5, .int .u64 0, .int .u64 0, .int .u64 0, .int .u64 0, .int .i64 lo, .int .i64 hi, .sl .nil 0 []]], T⟩ = true :=
          fun a' lo hi => shut_two hs mkC_clo fun h _ => by simp [cloB, cloL, clo, cloR]
        by_cases kh : pickV L (a + 2) 2 = 1
        · have hh : hiV L (a + 2) (pickV L (a + 1) 3) = (imax 1 ((pickV L (a + 1) 3 : Nat) : Int) + (pickV L (a + 3) 2 : Nat), a + 4) := by unfold hiV; rw [if_pos kh]
          rw [hh]
          have kt : decide (((pickV L (a + 2) 2 : Nat) : Int) = 1) = true := by simp; omega
          refine RCall.of_ws (fn := Tryz.f46) (Γ := gamx [(10, (.step 0 (.step 3 (.fork 1 4 (.step 2 (.step 4 (.step 5 (.step 6 (.step 7 .done))))) (.step 1 (.step 2 (.step 5 (.step 6 (.step 7 .done)))))))))] [(16, .raw iPk), (69, .raw iLf), (46, .raw (iRxn n)), (70, .pure iJd)]) (mu := false) (by simp) (by simp) (Sound.x (Sound.raw iPk_call (Sound.raw iLf_call (Sound.raw ih (Sound.pure iJd_call Sound.nil))))) mixed Tryz.func46 rfl (by kernel_rfl) (by simp) (by kernel_rfl) ?_
          simp (disch := first | assumption | omega | exact okR_new | exact okR_one | exact trivial | (simp only [lnA, lnC, lnN]; omega) | (simp only [lnA, lnC, lnN, Nat.reduceAdd]) | first | exact hs1 _ | exact hs2 _ _ _) only [go_sem, e_go, e_cond_bool, e_w_bool, e_step_ite, e_reg_ite, e_regW_ite, e_code_ite, e_block_ite, e_evQ_ite, e_fin_ite, e_pair_ite, Tryz.f46, iPk_eq, pk_on, iLf_eq, mk_on, iRxn_eq, iJd_eq2, hx, set_at, List.set_set, m_at hl, m_atS hl, m_set hl, m_setS hl, e1, e2, bR1, a2, a3, a4, kt, eq_self, setL]
          have kw : IntKind.i64.wrap (imax 1 ((pickV L (a + 1) 3 : Nat) : Int) + ((pickV L (a + 3) 2 : Nat) : Int)) = imax 1 ((pickV L (a + 1) 3 : Nat) : Int) + (pickV L (a + 3) 2 : Nat) := by
            unfold imax
            split <;> exact IntWalk.i64_in _ (by omega)
          refine w_region_2 rfl rfl ?_ ?_
          · simp only [List.getElem_toArray, List.getElem_cons_succ, List.getElem_cons_zero]
            simp (disch := first | assumption | omega | exact okR_new | exact okR_one | exact trivial | (simp only [lnA, lnC, lnN]; omega) | (simp only [lnA, lnC, lnN, Nat.reduceAdd]) | first | exact hs1 _ | exact hs2 _ _ _) only [go_sem, e_go, e_cond_bool, e_w_bool, e_step_ite, e_reg_ite, e_regW_ite, e_code_ite, e_block_ite, e_evQ_ite, e_fin_ite, e_pair_ite, Tryz.f46, iPk_eq, pk_on, iLf_eq, mk_on, iRxn_eq, iJd_eq2, hx, set_at, List.set_set, m_at hl, m_atS hl, m_set hl, m_setS hl, e1, e2, bR1, a2, a3, a4, kt, kw, eq_self, setL]
            exact ⟨rV_rep, leftM_one (hsC _)⟩
          · simp only [List.getElem_toArray, List.getElem_cons_succ, List.getElem_cons_zero]
            simp (disch := first | assumption | omega | exact okR_new | exact okR_one | exact trivial | (simp only [lnA, lnC, lnN]; omega) | (simp only [lnA, lnC, lnN, Nat.reduceAdd]) | first | exact hs1 _ | exact hs2 _ _ _) only [go_sem, e_go, e_cond_bool, e_w_bool, e_step_ite, e_reg_ite, e_regW_ite, e_code_ite, e_block_ite, e_evQ_ite, e_fin_ite, e_pair_ite, Tryz.f46, iPk_eq, pk_on, iLf_eq, mk_on, iRxn_eq, iJd_eq2, hx, set_at, List.set_set, m_at hl, m_atS hl, m_set hl, m_setS hl, e1, e2, bR1, a2, a3, a4, kt, kw, eq_self, setL]
            exact ⟨rV_rep, leftM_one (hsC _)⟩
        · have hh : hiV L (a + 2) (pickV L (a + 1) 3) = (-1, a + 3) := by unfold hiV; rw [if_neg kh]
          rw [hh]
          have kt : decide (((pickV L (a + 2) 2 : Nat) : Int) = 1) = false := by simp; omega
          refine RCall.of_ws (fn := Tryz.f46) (Γ := gamx [(10, (.step 0 (.step 3 (.fork 1 4 (.step 2 (.step 4 (.step 5 (.step 6 (.step 7 .done))))) (.step 1 (.step 2 (.step 5 (.step 6 (.step 7 .done)))))))))] [(16, .raw iPk), (69, .raw iLf), (46, .raw (iRxn n)), (70, .pure iJd)]) (mu := false) (by simp) (by simp) (Sound.x (Sound.raw iPk_call (Sound.raw iLf_call (Sound.raw ih (Sound.pure iJd_call Sound.nil))))) mixed Tryz.func46 rfl (by kernel_rfl) (by simp) (by kernel_rfl) ?_
          simp (disch := first | assumption | omega | exact okR_new | exact okR_one | exact trivial | (simp only [lnA, lnC, lnN]; omega) | (simp only [lnA, lnC, lnN, Nat.reduceAdd]) | first | exact hs1 _ | exact hs2 _ _ _) only [go_sem, e_go, e_cond_bool, e_w_bool, e_step_ite, e_reg_ite, e_regW_ite, e_code_ite, e_block_ite, e_evQ_ite, e_fin_ite, e_pair_ite, Tryz.f46, iPk_eq, pk_on, iLf_eq, mk_on, iRxn_eq, iJd_eq2, hx, set_at, List.set_set, m_at hl, m_atS hl, m_set hl, m_setS hl, e1, e2, bR1, a2, a3, a4, kt, eq_self, setL]
          exact ⟨rV_rep, leftM_one (hsC _)⟩
theorem iRxn_call : ∀ (n : Nat), n ≤ 11 → ∀ xs m v m', iRxn n xs m = some (v, m') → RCall Tryz.prog 46 xs m v m' := by
  intro n
  induction n with
  | zero =>
    intro _ xs m v m' h
    unfold iRxn at h
    split at h
    · split at h
      · omega
      · exact absurd h (by simp)
    · exact absurd h (by simp)
  | succ n ih =>
    intro hn xs m v m' h
    unfold iRxn at h
    split at h
    · rename_i b d
      split at h
      · rename_i hd
        obtain ⟨L, a, hx, hL, ho, hs, rfl, rfl⟩ := mk_cases h
        exact w_Rx n (ih (by omega)) m.H m.T b d L a hx hL ho hs (by omega) hd.2
      · exact absurd h (by simp)
    · exact absurd h (by simp)
theorem iRx_call : ∀ xs m v m', iRx xs m = some (v, m') → RCall Tryz.prog 46 xs m v m' := iRxn_call 11 (Nat.le_refl _)

end Go.Hk.MZ
namespace Go.Hk.MZ
open Go.Proofs

end Go.Hk.MZ
