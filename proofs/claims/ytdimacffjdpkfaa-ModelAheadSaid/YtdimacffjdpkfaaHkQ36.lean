import Derived.Test.YtdimacffjdpkfaaHkQ35
import Derived.Test.YtdimacffjdpkfaaHkQ24
/- Layer 5: a set's places, sorted. -/
set_option linter.unusedSimpArgs false
set_option linter.unusedVariables false
set_option maxRecDepth 20000
namespace Go.Hk.M
open Go.Proofs Go.RowKit Go.Maps Go.Sort Go.Shelf
theorem ti84 : tiOf Try.prog 84 = some { size := 1, bytes := 8, zero := some (.nilf), k := .func } := by kernel_rfl
attribute [go_sem] ti84
theorem ti85 : tiOf Try.prog 85 = some { size := 1, bytes := 8, zero := some (.nilf), k := .func } := by kernel_rfl
attribute [go_sem] ti85
theorem w_Keys (G : List ABlk) (T : List (Nat × (Nat × Nat))) (b : Nat) (hb : b < G.length) (hs : shut ⟨G, T⟩ = true) :
    RCall Try.prog 37 [.map b] ⟨G, T⟩ (.fn 60 [] [.ptr G.length 0 0]) ⟨G ++ [.cells 0 [.map b]], T⟩ := by
  refine RCall.of_w (fn := Try.f37) (Γ := gam []) (mu := false) (by simp) (by simp) Sound.nil mixed Try.func37 rfl (by kernel_rfl) (by simp) (by kernel_rfl) ?_
  simp (disch := first | assumption | omega | exact okR_new | exact okR_one | exact trivial | (simp only [List.length_append, List.length_cons, List.length_nil]; omega) | (simp only [List.length_append, List.length_cons, List.length_nil, Nat.reduceAdd])) only [go_sem, e_go, e_cond_bool, e_w_bool, e_step_ite, e_reg_ite, e_regW_ite, e_code_ite, e_block_ite, e_evQ_ite, e_fin_ite, e_pair_ite, Try.f37]
  exact .inl rfl
noncomputable def iKeys : List AVal → AMem → Option (AVal × AMem) := rimp fun xs m r m' => ∃ (G : List ABlk) (T : List (Nat × (Nat × Nat))) (b : Nat), (b < G.length ∧ shut ⟨G, T⟩ = true) ∧ xs = [.map b] ∧ m = ⟨G, T⟩ ∧ r = .fn 60 [] [.ptr G.length 0 0] ∧ m' = ⟨G ++ [.cells 0 [.map b]], T⟩
theorem iKeys_eq {G : List ABlk} {T : List (Nat × (Nat × Nat))} {b : Nat} (h : b < G.length ∧ shut ⟨G, T⟩ = true) : iKeys [.map b] ⟨G, T⟩ = some (.fn 60 [] [.ptr G.length 0 0], ⟨G ++ [.cells 0 [.map b]], T⟩) := rimp_eq ⟨G, T, b, h, rfl, rfl, rfl, rfl⟩ (by rintro _ _ ⟨G', T', b', h', e, em, rfl, rfl⟩; cases em; cases e; exact ⟨rfl, rfl⟩)
theorem iKeys_call : ∀ xs m v m', iKeys xs m = some (v, m') → RCall Try.prog 37 xs m v m' := fun xs m v m' h0 => by obtain ⟨G, T, b, h, rfl, rfl, rfl, rfl⟩ := rimp_spec h0; exact w_Keys G T b h.1 h.2
theorem w_Sorted (G : List ABlk) (T : List (Nat × (Nat × Nat))) (c b : Nat) (ks : List Nat) (hc : G[c]? = some (.cells 0 [.map b])) (hb : G[b]? = some (.amap (sents ks))) (hn : ks.Nodup) (hl : ks.length < 1000000) (hk : ∀ k ∈ ks, k < 1000000) :
    RCall Try.prog 36 [.fn 60 [] [.ptr c 0 0]] ⟨G, T⟩ (slc cI ((ks.map fun k : Nat => (k : Int)).mergeSort fun x y => decide (x ≤ y))) ⟨G, T⟩ := by
  refine ⟨by kernel_rfl, fun γ vals hr hS hv => ?_⟩
  obtain ⟨hsz, hv⟩ := hv
  have h0 := hv 0 (by simp)
  have hvals := vals_one (by simpa using hsz)
  simp only [List.getElem_cons_zero] at h0
  generalize vals.getD 0 undef = u at *
  subst hvals
  have hc : γ.S.H[c]? = some (.cells 0 [.map b]) := by rw [hS]; exact hc
  have hb : γ.S.H[b]? = some (.amap (sents ks)) := by rw [hS]; exact hb
  cases h0 with
  | fn _ _ _ xs ys g1 g2 hx hy =>
    have hxs : xs = #[] := Array.eq_empty_of_size_eq_zero (by simpa using g1)
    have hys := vals_one (by simpa using g2)
    have hy0 := hy 0 (by simp)
    simp only [List.getElem_cons_zero] at hy0
    generalize ys.getD 0 undef = q at *
    subst hxs
    subst hys
    have hq := ptr_at hc rfl hy0
    subst hq
    obtain ⟨arr, ty, k1, k2, k3, k4, k5⟩ := hr.cells c 0 [.map b] hc
    have hm0 := k4 0 (by simp)
    simp only [List.getElem_cons_zero] at hm0
    have ha0 : arr[0]? = some (arr.getD 0 undef) := by
      have : 0 < arr.size := k2
      simp [Array.getD, this]
    have hmv : arr.getD 0 undef = .map (some (γ.ι.h b)) := by
      generalize arr.getD 0 undef = z at hm0
      cases hm0 with
      | map _ g cc hblk =>
        obtain ⟨y, hy1, _, hy2⟩ := hblk
        rw [hb] at hy1
        cases hy1
        rw [(hy2 rfl).1]
    have hcell : γ.w.cell? ⟨γ.ι.h c, 0, none⟩ = some (.map (some (γ.ι.h b))) := by
      simp only [World.cell?, k1]
      rw [← hmv]
      simpa using ha0
    have hlt : γ.ι.h c < γ.w.heap.size := (Array.getElem?_eq_some_iff.1 k1).1
    obtain ⟨D0, hown, hperm, hsize⟩ := set_owned (P := Try.prog) (kt := 3) Try.underlying3 hr hb hn hl hk
    have hseq : SeqGives Fence.wide 2 Try.prog 60 #[.pointer (some ⟨γ.ι.h c, 0, none⟩)] encZ (fun ss => ss.Perm (intKeys D0)) (Maps.size D0) γ.w :=
      AnyZI.keys_gives (ρ := keysL_ren) { keysL with } Fence.wide _ trivial rfl (by omega) (γ.ι.h c) (γ.ι.h b) ks.length D0 γ.w hlt hcell hown
    have hml : 1000000 ≤ maxLen := by decide
    have cS := AnyZI.sorted_in sortedL Fence.wide 5 trivial trivial trivial trivial rfl (by omega) (sortsL _) (enters_of Try.func59 (by kernel_rfl) rfl) 60 #[.pointer (some ⟨γ.ι.h c, 0, none⟩)] trivial (enters_of Try.func60 (by kernel_rfl) rfl) _ _ (by rw [hsize]; omega) (by rw [hsize]; omega) γ.w hseq
    refine (callsIn_wide.1 cS).mono ?_
    rintro e w' ⟨v, ss, rfl, hP, hrow, hnil, hbel⟩
    have hL : ss.mergeSort (fun x y => decide (x ≤ y)) = (ks.map fun k : Nat => (k : Int)).mergeSort fun x y => decide (x ≤ y) := mergeSort_of_perm_i (hP.trans hperm)
    rw [hL] at hrow
    obtain ⟨r1, r2, r3⟩ := told_row hr hbel hrow
    exact ⟨v, { γ with w := w' }, rfl, rfl, hS, r2, r1, r3⟩
noncomputable def iSo : List AVal → AMem → Option (AVal × AMem) := rimp fun xs m r m' => ∃ (G : List ABlk) (T : List (Nat × (Nat × Nat))) (c b : Nat) (ks : List Nat), (G[c]? = some (.cells 0 [.map b]) ∧ G[b]? = some (.amap (sents ks)) ∧ ks.Nodup ∧ ks.length < 1000000 ∧ ∀ k ∈ ks, k < 1000000) ∧ xs = [.fn 60 [] [.ptr c 0 0]] ∧ m = ⟨G, T⟩ ∧ r = slc cI ((ks.map fun k : Nat => (k : Int)).mergeSort fun x y => decide (x ≤ y)) ∧ m' = ⟨G, T⟩
theorem iSo_eq {G : List ABlk} {T : List (Nat × (Nat × Nat))} {c b : Nat} {ks : List Nat} (h : G[c]? = some (.cells 0 [.map b]) ∧ G[b]? = some (.amap (sents ks)) ∧ ks.Nodup ∧ ks.length < 1000000 ∧ ∀ k ∈ ks, k < 1000000) : iSo [.fn 60 [] [.ptr c 0 0]] ⟨G, T⟩ = some (slc cI ((ks.map fun k : Nat => (k : Int)).mergeSort fun x y => decide (x ≤ y)), ⟨G, T⟩) := rimp_eq ⟨G, T, c, b, ks, h, rfl, rfl, rfl, rfl⟩ (by rintro _ _ ⟨G', T', c', b', ks', h', e, em, rfl, rfl⟩; cases em; cases e; have e1 := h.1.symm.trans h'.1; simp only [Option.some.injEq, ABlk.cells.injEq, List.cons.injEq, AVal.map.injEq, true_and, and_true] at e1; subst e1; have e2 := h.2.1.symm.trans h'.2.1; simp only [Option.some.injEq, ABlk.amap.injEq] at e2; rw [sents_inj e2]; exact ⟨rfl, rfl⟩)
theorem iSo_call : ∀ xs m v m', iSo xs m = some (v, m') → RCall Try.prog 36 xs m v m' := fun xs m v m' h0 => by obtain ⟨G, T, c, b, ks, h, rfl, rfl, rfl, rfl⟩ := rimp_spec h0; exact w_Sorted G T c b ks h.1 h.2.1 h.2.2.1 h.2.2.2.1 h.2.2.2.2
end Go.Hk.M
/- Layer 5: where a pattern ends. -/
namespace Go.Hk.M
open Go.Proofs


theorem w_Ends (x : Rx) (s : List UInt8) (i : Int) (hx : okX x) (hl : s.length < 9223372036854775808) : PCall Try.prog 22 [rV x, .str s, .int .i64 i] (slc cI (endsL x s i)) := by
  refine PCall.of_w (fn := Try.f22) (Γ := gam [(35, .pure iRt), (36, .raw iSo), (37, .raw iKeys), (38, .raw (iBh (sz x + 1)))]) (mu := false) (Sound.pure iRt_call (Sound.raw iSo_call (Sound.raw iKeys_call (Sound.raw (iBh_call (sz x + 1)) Sound.nil)))) mixed Try.func22 rfl (by kernel_rfl) (by simp) (by kernel_rfl) ?_
  unfold endsL
  by_cases h : rightT x = true ∧ s.length ≤ 10000 ∧ 0 ≤ i ∧ i ≤ s.length
  · obtain ⟨h1, h2, h3, h4⟩ := h
    obtain ⟨k, rfl⟩ := Int.eq_ofNat_of_zero_le h3
    rw [if_pos ⟨h1, h2, h3, h4⟩]
    have hr : inR x := ⟨20, by simp only [rightT, Bool.and_eq_true] at h1; exact h1.1.1⟩
    have hkl : k ≤ s.length := by omega
    obtain ⟨S, hS⟩ : ∃ S, cset (s.length + 1) (R s x k) = S := ⟨_, rfl⟩
    have hSn : S.Nodup := by rw [← hS]; exact cset_nodup
    have hSl : S.length ≤ s.length + 1 := by rw [← hS]; exact cset_len
    have hSm : ∀ j ∈ S, j < s.length + 1 := fun j hj => by rw [← hS] at hj; exact (cset_mem.1 hj).1
    have hput : amput Try.prog 88 ⟨[.cells 0 (cR x), .cells 0 [.str s], .amap []], []⟩ (.map 2) (.int .i64 (k : Int)) (.agg []) = some (.undef, ⟨[.cells 0 (cR x), .cells 0 [.str s], .amap (sents [k])], []⟩) := by
      have := set_put (P := Try.prog) (t := 88) (H := [.cells 0 (cR x), .cells 0 [.str s], .amap []]) (T := []) (b := 2) (ks := []) (k := k) ti88 rfl ti3 rfl rfl List.nodup_nil rfl
      rw [this]; rfl
    have hB : iBh (sz x + 1) [.ptr 1 0 0, rV x, .map 2] ⟨[.cells 0 (cR x), .cells 0 [.str s], .amap (sents [k])], []⟩ = some (.map 3, ⟨[.cells 0 (cR x), .cells 0 [.str s], .amap (sents [k]), .amap (sents S)], []⟩) := by
      have := iBh_eq (n := sz x + 1) (x := x) (G := [.cells 0 (cR x), .cells 0 [.str s], .amap (sents [k])]) (T := []) (p := 1) (b := 2) (t := s) (ks := [k]) ⟨rfl, rfl, by simp, by omega, by simpa using hkl, by simp only [shut, List.all_cons, cR_clo0, sents_cloB, List.all_nil, Bool.and_true]; rfl⟩ hx hr (Nat.lt_succ_self _)
      rw [this, Im_one, hS]; rfl
    have hK : iKeys [.map 3] ⟨[.cells 0 (cR x), .cells 0 [.str s], .amap (sents [k]), .amap (sents S)], []⟩ = some (.fn 60 [] [.ptr 4 0 0], ⟨[.cells 0 (cR x), .cells 0 [.str s], .amap (sents [k]), .amap (sents S), .cells 0 [.map 3]], []⟩) :=
      iKeys_eq (G := [.cells 0 (cR x), .cells 0 [.str s], .amap (sents [k]), .amap (sents S)]) (T := []) (b := 3) ⟨by simp, by simp only [shut, List.all_cons, cR_clo0, sents_cloB, List.all_nil, Bool.and_true]; rfl⟩
    have hO : iSo [.fn 60 [] [.ptr 4 0 0]] ⟨[.cells 0 (cR x), .cells 0 [.str s], .amap (sents [k]), .amap (sents S), .cells 0 [.map 3]], []⟩ = some (slc cI (S.map fun k : Nat => (k : Int)), ⟨[.cells 0 (cR x), .cells 0 [.str s], .amap (sents [k]), .amap (sents S), .cells 0 [.map 3]], []⟩) := by
      have := iSo_eq (G := [.cells 0 (cR x), .cells 0 [.str s], .amap (sents [k]), .amap (sents S), .cells 0 [.map 3]]) (T := []) (c := 4) (b := 3) (ks := S) ⟨rfl, rfl, hSn, by omega, fun j hj => by have := hSm j hj; omega⟩
      rw [← hS, cset_sorted] at this
      rw [← hS]
      exact this
    simp (disch := first | assumption | omega | exact okR_new | exact okR_one | exact trivial | (simp only [List.length_append, List.length_cons, List.length_nil]; omega) | (simp only [List.length_append, List.length_cons, List.length_nil, Nat.reduceAdd])) only [go_sem, e_go, e_cond_bool, e_w_bool, e_step_ite, e_reg_ite, e_regW_ite, e_code_ite, e_block_ite, e_evQ_ite, e_fin_ite, e_pair_ite, Try.f22, iRt_eq, iSo_eq, iKeys_eq, l_s_cR, h1, hput, hB, hK, hO, hS]
  · rw [if_neg h]
    have hnil : AVal.sl .no 0 [] = slc cI [] := rfl
    cases h1 : rightT x
    · simp (disch := first | assumption | omega | exact okR_new | exact okR_one | exact trivial | (simp only [List.length_append, List.length_cons, List.length_nil]; omega) | (simp only [List.length_append, List.length_cons, List.length_nil, Nat.reduceAdd])) only [go_sem, e_go, e_cond_bool, e_w_bool, e_step_ite, e_reg_ite, e_regW_ite, e_code_ite, e_block_ite, e_evQ_ite, e_fin_ite, e_pair_ite, Try.f22, iRt_eq, iSo_eq, iKeys_eq, l_s_cR, h1, hnil]
    · by_cases h2 : s.length ≤ 10000
      · by_cases h3 : 0 ≤ i
        · have h4 : ¬ i ≤ s.length := fun h4 => h ⟨h1, h2, h3, h4⟩
          simp (disch := first | assumption | omega | exact okR_new | exact okR_one | exact trivial | (simp only [List.length_append, List.length_cons, List.length_nil]; omega) | (simp only [List.length_append, List.length_cons, List.length_nil, Nat.reduceAdd])) only [go_sem, e_go, e_cond_bool, e_w_bool, e_step_ite, e_reg_ite, e_regW_ite, e_code_ite, e_block_ite, e_evQ_ite, e_fin_ite, e_pair_ite, Try.f22, iRt_eq, iSo_eq, iKeys_eq, l_s_cR, h1, hnil]
        · simp (disch := first | assumption | omega | exact okR_new | exact okR_one | exact trivial | (simp only [List.length_append, List.length_cons, List.length_nil]; omega) | (simp only [List.length_append, List.length_cons, List.length_nil, Nat.reduceAdd])) only [go_sem, e_go, e_cond_bool, e_w_bool, e_step_ite, e_reg_ite, e_regW_ite, e_code_ite, e_block_ite, e_evQ_ite, e_fin_ite, e_pair_ite, Try.f22, iRt_eq, iSo_eq, iKeys_eq, l_s_cR, h1, hnil]
      · simp (disch := first | assumption | omega | exact okR_new | exact okR_one | exact trivial | (simp only [List.length_append, List.length_cons, List.length_nil]; omega) | (simp only [List.length_append, List.length_cons, List.length_nil, Nat.reduceAdd])) only [go_sem, e_go, e_cond_bool, e_w_bool, e_step_ite, e_reg_ite, e_regW_ite, e_code_ite, e_block_ite, e_evQ_ite, e_fin_ite, e_pair_ite, Try.f22, iRt_eq, iSo_eq, iKeys_eq, l_s_cR, h1, hnil]
noncomputable def iEnds : List AVal → Option AVal := pimp fun xs r => ∃ (x : Rx) (s : List UInt8) (i : Int), (okX x ∧ s.length < 9223372036854775808) ∧ xs = [rV x, .str s, .int .i64 i] ∧ r = slc cI (endsL x s i)
theorem iEnds_eq {x : Rx} {s : List UInt8} {i : Int} (h : okX x ∧ s.length < 9223372036854775808) : iEnds [rV x, .str s, .int .i64 i] = some (slc cI (endsL x s i)) := pimp_eq ⟨x, s, i, h, rfl, rfl⟩ (by rintro _ ⟨x', s', i', h', e, rfl⟩; have e0 := (List.cons.inj e).1; have e0r := (List.cons.inj e).2; have e1 := (List.cons.inj e0r).1; have e1r := (List.cons.inj e0r).2; have e2 := (List.cons.inj e1r).1; have e2r := (List.cons.inj e1r).2; have q0 := rV_inj (by first | assumption | exact h | exact h.1 | exact h.1.1 | exact h.1.1.1 | exact h.2 | exact h.2.1 | exact h.2.2 | exact h.2.2.1) (by first | assumption | exact h' | exact h'.1 | exact h'.1.1 | exact h'.1.1.1 | exact h'.2 | exact h'.2.1 | exact h'.2.2 | exact h'.2.2.1) e0; have q1 := AVal.str.inj e1; have q2 := (AVal.int.inj e2).2; subst q0; subst q1; subst q2; first | rfl | exact ⟨rfl, rfl⟩)
theorem iEnds_call : ∀ xs v, iEnds xs = some v → PCall Try.prog 22 xs v := fun xs v h0 => by obtain ⟨x, s, i, h, rfl, rfl⟩ := pimp_spec h0; exact w_Ends x s i h.1 h.2
theorem w_Index (l : List Int) (v : Int) (h : l.length < 9223372036854775808) : PCall Try.prog 39 [slc cI l, .int .i64 v] (.int .i64 (idx (fun y => decide (v = y)) l)) := by
  refine PCall.of_w (fn := Try.f39) (Γ := gam []) (mu := false) Sound.nil mixed Try.func39 rfl (by kernel_rfl) (by simp) (by kernel_rfl) ?_
  simp (disch := first | assumption | omega | exact okR_new | exact okR_one | exact trivial | (simp only [List.length_append, List.length_cons, List.length_nil]; omega) | (simp only [List.length_append, List.length_cons, List.length_nil, Nat.reduceAdd])) only [go_sem, e_go, e_cond_bool, e_w_bool, e_step_ite, e_reg_ite, e_regW_ite, e_code_ite, e_block_ite, e_evQ_ite, e_fin_ite, e_pair_ite, Try.f39]
  refine w_loop [4] [8] (fun i : Nat => l.length - i) (fun i => i ≤ l.length ∧ ∀ y ∈ l.take i, decide (v = y) = false) (fun i => ⟨[], []⟩)
    (fun i => [(8, .int .i64 (i : Nat))]) 0 (fun _ => rfl) (by kernel_rfl) ⟨Nat.zero_le _, by simp⟩ rfl (by simp [HasE, lk]) ?_
  rintro i ⟨hi, hq⟩
  by_cases h : i < l.length
  · have hg : l[i]? = some l[i] := by simp [h]
    have hat : (fl cI l)[i]? = some (.int .i64 l[i]) := fl_cI_get hg
    have hw : IntKind.i64.wrap ((i : Int) + 1) = (i : Int) + 1 := IntWalk.i64_in _ (by omega)
    cases hp : decide (v = l[i])
    · simp (disch := first | assumption | omega | exact okR_new | exact okR_one | exact trivial | (simp only [List.length_append, List.length_cons, List.length_nil]; omega) | (simp only [List.length_append, List.length_cons, List.length_nil, Nat.reduceAdd])) only [go_sem, e_go, e_cond_bool, e_w_bool, e_step_ite, e_reg_ite, e_regW_ite, e_code_ite, e_block_ite, e_evQ_ite, e_fin_ite, e_pair_ite, Try.f39, hat, hp, hw]
      exact ⟨i + 1, dn h, ⟨h, upto_next hq hg hp⟩, rfl, by simp [HasE, lk]⟩
    · simp (disch := first | assumption | omega | exact okR_new | exact okR_one | exact trivial | (simp only [List.length_append, List.length_cons, List.length_nil]; omega) | (simp only [List.length_append, List.length_cons, List.length_nil, Nat.reduceAdd])) only [go_sem, e_go, e_cond_bool, e_w_bool, e_step_ite, e_reg_ite, e_regW_ite, e_code_ite, e_block_ite, e_evQ_ite, e_fin_ite, e_pair_ite, Try.f39, hat, hp, hw]
      rw [idx_at (p := fun y => decide (v = y)) hg hq hp]
  · have hi' : i = l.length := by omega
    subst hi'
    rw [List.take_length] at hq
    have hno := idx_none hq
    simp (disch := first | assumption | omega | exact okR_new | exact okR_one | exact trivial | (simp only [List.length_append, List.length_cons, List.length_nil]; omega) | (simp only [List.length_append, List.length_cons, List.length_nil, Nat.reduceAdd])) only [go_sem, e_go, e_cond_bool, e_w_bool, e_step_ite, e_reg_ite, e_regW_ite, e_code_ite, e_block_ite, e_evQ_ite, e_fin_ite, e_pair_ite, Try.f39, hno]
noncomputable def iIdx : List AVal → Option AVal := pimp fun xs r => ∃ (l : List Int) (v : Int), (l.length < 9223372036854775808) ∧ xs = [slc cI l, .int .i64 v] ∧ r = .int .i64 (idx (fun y => decide (v = y)) l)
theorem iIdx_eq {l : List Int} {v : Int} (h : l.length < 9223372036854775808) : iIdx [slc cI l, .int .i64 v] = some (.int .i64 (idx (fun y => decide (v = y)) l)) := pimp_eq ⟨l, v, h, rfl, rfl⟩ (by rintro _ ⟨l', v', h', e, rfl⟩; have e0 := (List.cons.inj e).1; have e0r := (List.cons.inj e).2; have e1 := (List.cons.inj e0r).1; have e1r := (List.cons.inj e0r).2; have q0 := slc_inj cI_len (fun _ _ _ _ => cI_inj) e0; have q1 := (AVal.int.inj e1).2; subst q0; subst q1; first | rfl | exact ⟨rfl, rfl⟩)
theorem iIdx_call : ∀ xs v, iIdx xs = some v → PCall Try.prog 39 xs v := fun xs v h0 => by obtain ⟨l, v, h, rfl, rfl⟩ := pimp_spec h0; exact w_Index l v h
theorem w_Contains (l : List Int) (v : Int) (h : l.length < 9223372036854775808) : PCall Try.prog 23 [slc cI l, .int .i64 v] (.bool (decide (v ∈ l))) := by
  have hm : decide (v ∈ l) = decide (0 ≤ idx (fun y => decide (v = y)) l) := by
    rw [idx_any, Bool.eq_iff_iff]
    simp
  rw [hm]
  refine PCall.of_w (fn := Try.f23) (Γ := gam [(39, .pure iIdx)]) (mu := false) (Sound.pure iIdx_call Sound.nil) mixed Try.func23 rfl (by kernel_rfl) (by simp) (by kernel_rfl) ?_
  simp (disch := first | assumption | omega | exact okR_new | exact okR_one | exact trivial | (simp only [List.length_append, List.length_cons, List.length_nil]; omega) | (simp only [List.length_append, List.length_cons, List.length_nil, Nat.reduceAdd])) only [go_sem, e_go, e_cond_bool, e_w_bool, e_step_ite, e_reg_ite, e_regW_ite, e_code_ite, e_block_ite, e_evQ_ite, e_fin_ite, e_pair_ite, Try.f23, iIdx_eq]
noncomputable def iCont : List AVal → Option AVal := pimp fun xs r => ∃ (l : List Int) (v : Int), (l.length < 9223372036854775808) ∧ xs = [slc cI l, .int .i64 v] ∧ r = .bool (decide (v ∈ l))
theorem iCont_eq {l : List Int} {v : Int} (h : l.length < 9223372036854775808) : iCont [slc cI l, .int .i64 v] = some (.bool (decide (v ∈ l))) := pimp_eq ⟨l, v, h, rfl, rfl⟩ (by rintro _ ⟨l', v', h', e, rfl⟩; have e0 := (List.cons.inj e).1; have e0r := (List.cons.inj e).2; have e1 := (List.cons.inj e0r).1; have e1r := (List.cons.inj e0r).2; have q0 := slc_inj cI_len (fun _ _ _ _ => cI_inj) e0; have q1 := (AVal.int.inj e1).2; subst q0; subst q1; first | rfl | exact ⟨rfl, rfl⟩)
theorem iCont_call : ∀ xs v, iCont xs = some v → PCall Try.prog 23 xs v := fun xs v h0 => by obtain ⟨l, v, h, rfl, rfl⟩ := pimp_spec h0; exact w_Contains l v h
theorem endsL_len (x : Rx) (s : List UInt8) (i : Int) : (endsL x s i).length < 9223372036854775808 := by
  unfold endsL
  split
  · rename_i h
    have := cset_len (n := s.length + 1) (S := R s x i.toNat)
    simp only [List.length_map]
    omega
  · simp
theorem w_Match (x : Rx) (s : List UInt8) (h : okX x ∧ s.length < 9223372036854775808) : PCall Try.prog 25 [rV x, .str s] (.bool (decide ((s.length : Int) ∈ endsL x s 0))) := by
  have hl := endsL_len x s 0
  refine PCall.of_w (fn := Try.f25) (Γ := gam [(22, .pure iEnds), (23, .pure iCont)]) (mu := false) (Sound.pure iEnds_call (Sound.pure iCont_call Sound.nil)) mixed Try.func25 rfl (by kernel_rfl) (by simp) (by kernel_rfl) ?_
  simp (disch := first | assumption | omega | exact okR_new | exact okR_one | exact trivial | (simp only [List.length_append, List.length_cons, List.length_nil]; omega) | (simp only [List.length_append, List.length_cons, List.length_nil, Nat.reduceAdd])) only [go_sem, e_go, e_cond_bool, e_w_bool, e_step_ite, e_reg_ite, e_regW_ite, e_code_ite, e_block_ite, e_evQ_ite, e_fin_ite, e_pair_ite, Try.f25, iEnds_eq, iCont_eq]
noncomputable def iMat : List AVal → Option AVal := pimp fun xs r => ∃ (x : Rx) (s : List UInt8), (okX x ∧ s.length < 9223372036854775808) ∧ xs = [rV x, .str s] ∧ r = .bool (decide ((s.length : Int) ∈ endsL x s 0))
theorem iMat_eq {x : Rx} {s : List UInt8} (h : okX x ∧ s.length < 9223372036854775808) : iMat [rV x, .str s] = some (.bool (decide ((s.length : Int) ∈ endsL x s 0))) := pimp_eq ⟨x, s, h, rfl, rfl⟩ (by rintro _ ⟨x', s', h', e, rfl⟩; have e0 := (List.cons.inj e).1; have e0r := (List.cons.inj e).2; have e1 := (List.cons.inj e0r).1; have e1r := (List.cons.inj e0r).2; have q0 := rV_inj (by first | assumption | exact h | exact h.1 | exact h.1.1 | exact h.1.1.1 | exact h.2 | exact h.2.1 | exact h.2.2 | exact h.2.2.1) (by first | assumption | exact h' | exact h'.1 | exact h'.1.1 | exact h'.1.1.1 | exact h'.2 | exact h'.2.1 | exact h'.2.2 | exact h'.2.2.1) e0; have q1 := AVal.str.inj e1; subst q0; subst q1; first | rfl | exact ⟨rfl, rfl⟩)
theorem iMat_call : ∀ xs v, iMat xs = some v → PCall Try.prog 25 xs v := fun xs v h0 => by obtain ⟨x, s, h, rfl, rfl⟩ := pimp_spec h0; exact w_Match x s h
end Go.Hk.M
/- Layer 5: the document's lists of truths. -/
namespace Go.Hk.M
open Go.Proofs
theorem ti77 : tiOf Try.prog 77 = some { size := 1, bytes := 24, zero := some (.sl .nil 0 []), k := .slice 4 } := by kernel_rfl
attribute [go_sem] ti77
end Go.Hk.M
/- Layer 5: the document's step. -/
namespace Go.Hk.M
open Go.Proofs


end Go.Hk.M
/- Layer 5: the document's answer. -/
namespace Go.Hk.M
open Go.Proofs

end Go.Hk.M
/- Layer 5: what is told at the beginning; two answers held against one another. -/
namespace Go.Hk.M
open Go.Proofs

theorem w_Text (l : List UInt8) (hl : l.length < 9223372036854775808) : PCall Try.prog 8 [slc cU l] (.str (textT l)) := by
  refine PCall.of_w (fn := Try.f8) (Γ := gam []) (mu := false) Sound.nil mixed Try.func8 rfl (by kernel_rfl) (by simp) (by kernel_rfl) ?_
  simp (disch := first | assumption | omega | exact okR_new | exact okR_one | exact trivial | (simp only [List.length_append, List.length_cons, List.length_nil]; omega) | (simp only [List.length_append, List.length_cons, List.length_nil, Nat.reduceAdd])) only [go_sem, e_go, e_cond_bool, e_w_bool, e_step_ite, e_reg_ite, e_regW_ite, e_code_ite, e_block_ite, e_evQ_ite, e_fin_ite, e_pair_ite, Try.f8]
  refine w_loop [] [3, 4] (fun i : Nat => l.length - i) (fun i => i ≤ l.length ∧ i ≤ 12) (fun i => ⟨[], []⟩)
    (fun i => [(3, .str (textT (l.take i))), (4, .int .i64 (i : Nat))]) 0 (fun _ => rfl) (by kernel_rfl) ⟨Nat.zero_le _, Nat.zero_le _⟩ rfl (by simp [HasE, lk, textT]) ?_
  rintro i ⟨hi, hi2⟩
  by_cases h1 : i < l.length
  · by_cases h2 : i < 12
    · have hg : (fl cU l)[i]? = some (.int .u8 (l[i].toNat : Nat)) := by rw [fl_cU_map]; simp [h1]
      have hu := l[i].toNat_lt
      have hw : IntKind.i64.wrap ((i : Int) + 1) = (i : Int) + 1 := IntWalk.i64_in _ (by omega)
      have hw2 : IntKind.i64.wrap ((l[i].toNat : Nat) : Int) = ((l[i].toNat : Nat) : Int) := IntWalk.i64_in _ (by omega)
      have hnx := textT_next h1 h2
      have htm : ((l[i].toNat : Nat) : Int).tmod 12 = ((l[i].toNat % 12 : Nat) : Int) := rfl
      have hm : l[i].toNat % 12 < 12 := Nat.mod_lt _ (by decide)
      have htl := textT_len (l.take i)
      obtain ⟨m, hmm⟩ : ∃ m, l[i].toNat % 12 = m := ⟨_, rfl⟩
      rw [hmm] at htm hm hnx
      have hw3 : IntKind.i64.wrap ((m : Int) + 1) = (m : Int) + 1 := IntWalk.i64_in _ (by omega)
      have hi1 : (if 0 ≤ (m : Int) + 1 ∧ (m : Int) + 1 ≤ ((12 : Nat) : Int) then some ((m : Int) + 1).toNat else none) = some (m + 1) := by rw [if_pos (by omega)]; congr 1
      have hi3 : (if 0 ≤ (m : Int) ∧ (m : Int) ≤ ((m + 1 : Nat) : Int) then some ((m : Int)).toNat else none) = some m := by rw [if_pos (by omega)]; congr 1
      have hsl : List.take (m + 1 - m) (List.drop m [97, 97, 98, 98, 99, 99, 45, 90, 10, 48, 0, 255]) = [alph.getD m 0] := by rw [Nat.add_sub_cancel_left]; exact alph_at m hm
      simp (disch := first | assumption | omega | exact okR_new | exact okR_one | exact trivial | (simp only [List.length_append, List.length_cons, List.length_nil]; omega) | (simp only [List.length_append, List.length_cons, List.length_nil, Nat.reduceAdd])) only [go_sem, e_go, e_cond_bool, e_w_bool, e_step_ite, e_reg_ite, e_regW_ite, e_code_ite, e_block_ite, e_evQ_ite, e_fin_ite, e_pair_ite, Try.f8, hg, hw, hw2, htm, hw3, hi1, hi3, hsl]
      exact ⟨i + 1, dn h1, ⟨h1, h2⟩, rfl, by simp [HasE, lk, hnx]⟩
    · have hz := textT_all (l := l) (i := i) (.inr (by omega))
      simp (disch := first | assumption | omega | exact okR_new | exact okR_one | exact trivial | (simp only [List.length_append, List.length_cons, List.length_nil]; omega) | (simp only [List.length_append, List.length_cons, List.length_nil, Nat.reduceAdd])) only [go_sem, e_go, e_cond_bool, e_w_bool, e_step_ite, e_reg_ite, e_regW_ite, e_code_ite, e_block_ite, e_evQ_ite, e_fin_ite, e_pair_ite, Try.f8, hz]
  · have hz := textT_all (l := l) (i := i) (.inl (by omega))
    simp (disch := first | assumption | omega | exact okR_new | exact okR_one | exact trivial | (simp only [List.length_append, List.length_cons, List.length_nil]; omega) | (simp only [List.length_append, List.length_cons, List.length_nil, Nat.reduceAdd])) only [go_sem, e_go, e_cond_bool, e_w_bool, e_step_ite, e_reg_ite, e_regW_ite, e_code_ite, e_block_ite, e_evQ_ite, e_fin_ite, e_pair_ite, Try.f8, hz]
noncomputable def iText : List AVal → Option AVal := pimp fun xs r => ∃ (l : List UInt8), (l.length < 9223372036854775808) ∧ xs = [slc cU l] ∧ r = .str (textT l)
theorem iText_eq {l : List UInt8} (h : l.length < 9223372036854775808) : iText [slc cU l] = some (.str (textT l)) := pimp_eq ⟨l, h, rfl, rfl⟩ (by rintro _ ⟨l', h', e, rfl⟩; have e0 := (List.cons.inj e).1; have e0r := (List.cons.inj e).2; have q0 := slc_inj cU_len (fun _ _ _ _ => cU_inj) e0; subst q0; first | rfl | exact ⟨rfl, rfl⟩)
theorem iText_call : ∀ xs v, iText xs = some v → PCall Try.prog 8 xs v := fun xs v h0 => by obtain ⟨l, h, rfl, rfl⟩ := pimp_spec h0; exact w_Text l h
end Go.Hk.M
