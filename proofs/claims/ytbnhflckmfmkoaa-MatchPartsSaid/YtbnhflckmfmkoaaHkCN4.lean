/- Layer 5: a set's places, sorted. -/
import Derived.Test.YtbnhflckmfmkoaaHkCN3
import Derived.Test.YtbnhflckmfmkoaaHkCNL
set_option linter.unusedSimpArgs false
set_option linter.unusedVariables false
set_option maxRecDepth 20000
namespace Go.Hk.C
open Go.Proofs Go.RowKit Go.Maps Go.Sort Go.Shelf
theorem ti52 : tiOf Try.prog 52 = some { size := 1, bytes := 8, zero := some (.nilf), k := .func } := by kernel_rfl
attribute [go_sem] ti52
theorem ti53 : tiOf Try.prog 53 = some { size := 1, bytes := 8, zero := some (.nilf), k := .func } := by kernel_rfl
attribute [go_sem] ti53
theorem w_Keys (G : List ABlk) (T : List (Nat × (Nat × Nat))) (b : Nat) (hb : b < G.length) (hs : shut ⟨G, T⟩ = true) :
    RCall Try.prog 25 [.map b] ⟨G, T⟩ (.fn 39 [] [.ptr G.length 0 0]) ⟨G ++ [.cells 0 [.map b]], T⟩ := by
  refine RCall.of_w (fn := Try.f25) (Γ := gam []) (mu := false) (by simp) (by simp) Sound.nil mixed Try.func25 rfl (by kernel_rfl) (by simp) (by kernel_rfl) ?_
  simp (disch := first | assumption | omega | exact okR_new | exact okR_one | exact trivial | (simp only [List.length_append, List.length_cons, List.length_nil]; omega) | (simp only [List.length_append, List.length_cons, List.length_nil, Nat.reduceAdd])) only [go_sem, e_go, e_cond_bool, e_w_bool, e_step_ite, e_reg_ite, e_regW_ite, e_code_ite, e_block_ite, e_evQ_ite, e_fin_ite, e_pair_ite, Try.f25]
  exact .inl rfl
noncomputable def iKeys : List AVal → AMem → Option (AVal × AMem) := rimp fun xs m r m' => ∃ (G : List ABlk) (T : List (Nat × (Nat × Nat))) (b : Nat), (b < G.length ∧ shut ⟨G, T⟩ = true) ∧ xs = [.map b] ∧ m = ⟨G, T⟩ ∧ r = .fn 39 [] [.ptr G.length 0 0] ∧ m' = ⟨G ++ [.cells 0 [.map b]], T⟩
theorem iKeys_eq {G : List ABlk} {T : List (Nat × (Nat × Nat))} {b : Nat} (h : b < G.length ∧ shut ⟨G, T⟩ = true) : iKeys [.map b] ⟨G, T⟩ = some (.fn 39 [] [.ptr G.length 0 0], ⟨G ++ [.cells 0 [.map b]], T⟩) := rimp_eq ⟨G, T, b, h, rfl, rfl, rfl, rfl⟩ (by rintro _ _ ⟨G', T', b', h', e, em, rfl, rfl⟩; cases em; cases e; exact ⟨rfl, rfl⟩)
theorem iKeys_call : ∀ xs m v m', iKeys xs m = some (v, m') → RCall Try.prog 25 xs m v m' := fun xs m v m' h0 => by obtain ⟨G, T, b, h, rfl, rfl, rfl, rfl⟩ := rimp_spec h0; exact w_Keys G T b h.1 h.2
theorem w_Sorted (G : List ABlk) (T : List (Nat × (Nat × Nat))) (c b : Nat) (ks : List Nat) (hc : G[c]? = some (.cells 0 [.map b])) (hb : G[b]? = some (.amap (sents ks))) (hn : ks.Nodup) (hl : ks.length < 1000000) (hk : ∀ k ∈ ks, k < 1000000) :
    RCall Try.prog 24 [.fn 39 [] [.ptr c 0 0]] ⟨G, T⟩ (slc cI ((ks.map fun k : Nat => (k : Int)).mergeSort fun x y => decide (x ≤ y))) ⟨G, T⟩ := by
  refine ⟨by kernel_rfl, fun γ vals hr hS hv => ?_⟩
  obtain ⟨hsz, hv⟩ := hv
  have h0 := hv 0 (by simp)
  have hvals := vals_one (by simpa using hsz)
  simp only [List.getElem_cons_zero] at h0
  generalize vals.getD 0 undef = u at *
  subst hvals
  have hc : γ.S.H[c]? = some (.cells 0 [.map b]) := by rw [hS]; exact hc
  have hb : γ.S.H[b]? = some (.amap (sents ks)) := by rw [hS]; exact hb
  cases h0 with
  | fn _ _ _ xs ys g1 g2 hx hy =>
    have hxs : xs = #[] := Array.eq_empty_of_size_eq_zero (by simpa using g1)
    have hys := vals_one (by simpa using g2)
    have hy0 := hy 0 (by simp)
    simp only [List.getElem_cons_zero] at hy0
    generalize ys.getD 0 undef = q at *
    subst hxs
    subst hys
    have hq := ptr_at hc rfl hy0
    subst hq
    obtain ⟨arr, ty, k1, k2, k3, k4, k5⟩ := hr.cells c 0 [.map b] hc
    have hm0 := k4 0 (by simp)
    simp only [List.getElem_cons_zero] at hm0
    have ha0 : arr[0]? = some (arr.getD 0 undef) := by
      have : 0 < arr.size := k2
      simp [Array.getD, this]
    have hmv : arr.getD 0 undef = .map (some (γ.ι.h b)) := by
      generalize arr.getD 0 undef = z at hm0
      cases hm0 with
      | map _ g cc hblk =>
        obtain ⟨y, hy1, _, hy2⟩ := hblk
        rw [hb] at hy1
        cases hy1
        rw [(hy2 rfl).1]
    have hcell : γ.w.cell? ⟨γ.ι.h c, 0, none⟩ = some (.map (some (γ.ι.h b))) := by
      simp only [World.cell?, k1]
      rw [← hmv]
      simpa using ha0
    have hlt : γ.ι.h c < γ.w.heap.size := (Array.getElem?_eq_some_iff.1 k1).1
    obtain ⟨D0, hown, hperm, hsize⟩ := set_owned (P := Try.prog) (kt := 3) Try.underlying3 hr hb hn hl hk
    have hseq : SeqGives Fence.wide 2 Try.prog 39 #[.pointer (some ⟨γ.ι.h c, 0, none⟩)] encZ (fun ss => ss.Perm (intKeys D0)) (Maps.size D0) γ.w :=
      AnyZI.keys_gives (ρ := keysL_ren) { keysL with } Fence.wide _ trivial rfl (by omega) (γ.ι.h c) (γ.ι.h b) ks.length D0 γ.w hlt hcell hown
    have hml : 1000000 ≤ maxLen := by decide
    have cS := AnyZI.sorted_in sortedL Fence.wide 5 trivial trivial trivial trivial rfl (by omega) (sortsL _) (enters_of Try.func38 (by kernel_rfl) rfl) 39 #[.pointer (some ⟨γ.ι.h c, 0, none⟩)] trivial (enters_of Try.func39 (by kernel_rfl) rfl) _ _ (by rw [hsize]; omega) (by rw [hsize]; omega) γ.w hseq
    refine (callsIn_wide.1 cS).mono ?_
    rintro e w' ⟨v, ss, rfl, hP, hrow, hnil, hbel⟩
    have hL : ss.mergeSort (fun x y => decide (x ≤ y)) = (ks.map fun k : Nat => (k : Int)).mergeSort fun x y => decide (x ≤ y) := mergeSort_of_perm_i (hP.trans hperm)
    rw [hL] at hrow
    obtain ⟨r1, r2, r3⟩ := told_row hr hbel hrow
    exact ⟨v, { γ with w := w' }, rfl, rfl, hS, r2, r1, r3⟩
noncomputable def iSo : List AVal → AMem → Option (AVal × AMem) := rimp fun xs m r m' => ∃ (G : List ABlk) (T : List (Nat × (Nat × Nat))) (c b : Nat) (ks : List Nat), (G[c]? = some (.cells 0 [.map b]) ∧ G[b]? = some (.amap (sents ks)) ∧ ks.Nodup ∧ ks.length < 1000000 ∧ ∀ k ∈ ks, k < 1000000) ∧ xs = [.fn 39 [] [.ptr c 0 0]] ∧ m = ⟨G, T⟩ ∧ r = slc cI ((ks.map fun k : Nat => (k : Int)).mergeSort fun x y => decide (x ≤ y)) ∧ m' = ⟨G, T⟩
theorem iSo_eq {G : List ABlk} {T : List (Nat × (Nat × Nat))} {c b : Nat} {ks : List Nat} (h : G[c]? = some (.cells 0 [.map b]) ∧ G[b]? = some (.amap (sents ks)) ∧ ks.Nodup ∧ ks.length < 1000000 ∧ ∀ k ∈ ks, k < 1000000) : iSo [.fn 39 [] [.ptr c 0 0]] ⟨G, T⟩ = some (slc cI ((ks.map fun k : Nat => (k : Int)).mergeSort fun x y => decide (x ≤ y)), ⟨G, T⟩) := rimp_eq ⟨G, T, c, b, ks, h, rfl, rfl, rfl, rfl⟩ (by rintro _ _ ⟨G', T', c', b', ks', h', e, em, rfl, rfl⟩; cases em; cases e; have e1 := h.1.symm.trans h'.1; simp only [Option.some.injEq, ABlk.cells.injEq, List.cons.injEq, AVal.map.injEq, true_and, and_true] at e1; subst e1; have e2 := h.2.1.symm.trans h'.2.1; simp only [Option.some.injEq, ABlk.amap.injEq] at e2; rw [sents_inj e2]; exact ⟨rfl, rfl⟩)
theorem iSo_call : ∀ xs m v m', iSo xs m = some (v, m') → RCall Try.prog 24 xs m v m' := fun xs m v m' h0 => by obtain ⟨G, T, c, b, ks, h, rfl, rfl, rfl, rfl⟩ := rimp_spec h0; exact w_Sorted G T c b ks h.1 h.2.1 h.2.2.1 h.2.2.2.1 h.2.2.2.2
end Go.Hk.C
